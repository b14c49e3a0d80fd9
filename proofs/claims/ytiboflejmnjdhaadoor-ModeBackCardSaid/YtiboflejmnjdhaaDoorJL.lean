/- Contracts of package mode: a mode that is ideal: Len, Real's error. -/
import Derived.Test.YtiboflejmnjdhaaDoorJK
section
set_option linter.unusedVariables false
set_option linter.unusedSimpArgs false
set_option maxRecDepth 100000
namespace Go.Proofs.YtiboflejmnjdhaaDoor
open Go Go.RowKit Go.Conc
/-- An ideal mode, and its blocks. -/
def IsMd (F R : List Int) (w : World) (mb : Nat) (seed : List Int) (s : St) (own : List Nat) : Prop :=
  ∃ ib iown, own = mb :: iown ∧ mb ∉ iown ∧ w.heap[mb]? = some (.cells #[.iface 113 (.pointer (some ⟨ib, 0, none⟩))] 63 (0, 0)) ∧ IsI F R w ib seed s iown
theorem IsMd.blocks {F R : List Int} {w : World} {mb : Nat} {seed : List Int} {s : St} {own : List Nat} (h : IsMd F R w mb seed s own) : ∀ b ∈ own, Hard w b ∧ b < w.heap.size := by
  obtain ⟨ib, iown, rfl, h1, h2, h3⟩ := h
  intro b hb
  rcases List.mem_cons.1 hb with rfl | hb
  · refine ⟨hard_cells h2 ?_, blk_lt h2⟩
    intro v hv q x hq
    simp only [List.mem_toArray, List.mem_cons, List.not_mem_nil, or_false] at hv
    rw [hv]; simp
  · exact h3.blocks b hb
theorem IsMd.keep {F R : List Int} {S : List Nat} {w w' : World} {mb : Nat} {seed : List Int} {s : St} {own : List Nat} (h : IsMd F R w mb seed s own) (hk : Kp S w w') (hS : ∀ b ∈ S, Hard w b) (hd : ∀ b ∈ own, b ∉ S) : IsMd F R w' mb seed s own := by
  obtain ⟨ib, iown, rfl, h1, h2, h3⟩ := h
  exact ⟨ib, iown, rfl, h1, hk.at_ h2 (hd _ (by simp)), h3.keep hk hS (fun b hb => hd b (by simp [hb]))⟩
theorem IsMd.below {F R : List Int} {w w' : World} {mb : Nat} {seed : List Int} {s : St} {own : List Nat} (h : IsMd F R w mb seed s own) (hk : Below w.heap.size w w') : IsMd F R w' mb seed s own := h.keep (Kp.of_below (S := []) hk) (by simp) (by simp)
theorem meth_size (k : Nat) (v : Option Addr) (w : World) : (method (k + 1) 113 (.pointer v) "sealchain/mode.size").run Tryd.prog w = .ok (125, .pointer v) w := by kernel_rfl
theorem meth_seal (k : Nat) (v : Option Addr) (w : World) : (method (k + 1) 113 (.pointer v) "sealchain/mode.seal").run Tryd.prog w = .ok (124, .pointer v) w := by kernel_rfl
theorem meth_open (k : Nat) (v : Option Addr) (w : World) : (method (k + 1) 113 (.pointer v) "sealchain/mode.open").run Tryd.prog w = .ok (123, .pointer v) w := by kernel_rfl
theorem meth_name (k : Nat) (v : Option Addr) (w : World) : (method (k + 1) 113 (.pointer v) "sealchain/mode.name").run Tryd.prog w = .ok (122, .pointer v) w := by kernel_rfl
theorem len_any (F R : List Int) (mb : Nat) (seed : List Int) (s : St) (own : List Nat) (w : World) (h : IsMd F R w mb seed s own) :
    Calls Tryd.prog 17 #[.pointer (some ⟨mb, 0, none⟩)] w fun e w' => e = .returned (.int .i64 s.bx.length) ∧ w = w' := by
  obtain ⟨ib, iown, rfl, h1, h2, h3⟩ := h
  have c0 := blk_cell h2 0 rfl
  have H3 := Lib.hid h3
  clear h1 h2 h3
  have hm := meth_size
  go_enter Tryd.func17, Tryd.ntmps17
  go_wp2_with (first | (go_at_call 35; go_must (refine (none_ok mb ib w c0).mono ?_; rintro e w1 ⟨rfl, rfl⟩)) | (go_at_call 125; go_must (refine (isize_any F R ib seed s iown w H3.out).mono ?_; rintro e w1 ⟨rfl, rfl⟩)))
  go_ret
  exact ⟨rfl, rfl⟩
theorem asked_arg (e : Int) (A B : Option Addr) (n c m d many : Nat) (w : World) (h1 : 255 < e) :
    Calls Tryd.prog 36 #[.int .i64 e, .slice A n c, .slice B m d, .int .i64 many] w fun e w' => e = .returned (.int .i64 2) ∧ w = w' := by
  go_enter Tryd.func36, Tryd.ntmps36
  go_wp2
  go_ret
  exact ⟨rfl, rfl⟩
theorem real_err (A : Option Addr) (n c : Nat) (w : World) (hn : n ≠ 32) :
    Calls Tryd.prog 15 #[.slice A n c] w fun e w' => e = .returned (.tuple #[.pointer none, .int .i64 2]) ∧ w = w' := by
  have hb : ((n : Int) != 32) = true := by simp; omega
  go_enter Tryd.func15, Tryd.ntmps15
  go_wp2
  go_ret2
  exact ⟨rfl, rfl⟩
end Go.Proofs.YtiboflejmnjdhaaDoor
end
section
set_option linter.unusedVariables false
set_option linter.unusedSimpArgs false
set_option maxRecDepth 100000
namespace Go.Proofs.YtiboflejmnjdhaaDoor
open Go Go.RowKit Go.Conc
/-- What Ideal leaves. -/
structure NewMd (F R : List Int) (w w' : World) (mb tb : Nat) (seed left : List Int) (p at_ : Nat) (own : List Nat) : Prop where
  ex : ∃ mown town, IsMd F R w' mb seed ⟨left, p, at_, [], []⟩ mown ∧ IsTp F R w' tb seed left p at_ town ∧ (∀ b ∈ mown, b ∉ town) ∧ (∀ b ∈ mown, w.heap.size ≤ b) ∧ Fresh w own town
  kp : Kp own w w'
theorem ideal_any (F R : List Int) (tb : Nat) (seed left : List Int) (p at_ : Nat) (own : List Nat) (w : World) (hT : IsTp F R w tb seed left p at_ own) (hl : left.length ≤ 140737488355328) (hp : p ≤ 9007199254740000) :
    Calls Tryd.prog 24 #[.pointer (some ⟨tb, 0, none⟩)] w fun e w' => ∃ mb, e = .returned (.tuple #[.pointer (some ⟨mb, 0, none⟩), .int .i64 0]) ∧ NewMd F R w w' mb tb seed left p at_ own := by
  have HT := Lib.hid hT
  clear hT
  go_enter Tryd.func24, Tryd.ntmps24
  go_wp2_with (first | (go_at_call 52; go_must (refine (copy_tp F R tb seed left p at_ own w HT.out hl hp).mono ?_; rintro e w1 ⟨tn, cn, sA, sc, town, rfl, h1, h2, h3, h4, h5, h6, h7⟩; have H1 := Lib.hid h1; have H2 := Lib.hid h2; have H3 := Lib.hid h3; have H4 := Lib.hid h4; have H5 := Lib.hid h5; have H6 := Lib.hid h6; have H7 := Lib.hid h7; clear h1 h2 h3 h4 h5 h6 h7)))
  go_ret2
  refine ⟨w1.heap.size + 1, by rfl, ?_⟩
  obtain ⟨w3, hw3⟩ : ∃ w3, w3 = (w1.alloc (.cells (irow tn none none) 122)).alloc (.cells #[.iface 113 (.pointer (some ⟨w1.heap.size, 0, none⟩))] 63) := ⟨_, rfl⟩
  show NewMd F R w ((w1.alloc (.cells (irow tn none none) 122)).alloc (.cells #[.iface 113 (.pointer (some ⟨w1.heap.size, 0, none⟩))] 63)) _ _ _ _ _ _ _
  rw [← hw3]
  have hb : Below w1.heap.size w1 w3 := by rw [hw3]; exact ((Below.refl _ w1).alloc (Nat.le_refl _) _).alloc (by simp) _
  have hi : w3.heap[w1.heap.size]? = some (.cells (irow tn none none) 122 (0, 0)) := by rw [hw3]; exact blk_alloc (new_at rfl) _
  have hm : w3.heap[w1.heap.size + 1]? = some (.cells #[.iface 113 (.pointer (some ⟨w1.heap.size, 0, none⟩))] 63 (0, 0)) := by rw [hw3]; exact new_at (by simp)
  have h1 := H1.out
  have h2 := H2.out
  have htn := H3.out.inn tn (by simp)
  have hcn := H3.out.inn cn (by simp)
  have hsz : w.heap.size ≤ w1.heap.size := H7.out.size
  refine ⟨⟨(w1.heap.size + 1) :: (w1.heap.size :: (tn :: (some cn).toList) ++ ((none : Option Nat).toList ++ (none : Option Nat).toList)), town, ⟨w1.heap.size, _, rfl, ?_, hm, ⟨⟨tn, some cn, sA, sc, none, none, rfl, hi, H3.out.below hb, rfl, rfl, by simp⟩, by simp [mget], by simp [mget]⟩⟩, H4.out.below hb, ?_, ?_, H5.out⟩, H7.out.then (Kp.of_below hb)⟩
  · simp; omega
  · intro b hb hx
    have hlt := (H4.out.blocks b hx).2
    have hne := H6.out b hx
    simp at hb
    omega
  · intro b hb
    simp at hb
    omega
/-- What Seal leaves. -/
structure MdSeal (F R : List Int) (w w' : World) (mb : Nat) (seed : List Int) (s : St) (own : List Nat) (tb : Nat) (tseed tleft : List Int) (tp tat : Nat) (town : List Nat) (ep : Int) (hd pl : List Int) (A : Option Addr) (c : Nat) : Prop where
  box : Rd w' A c (tDraw F R tseed (pl.length + 28) tleft tp).1
  new : ∀ a, A = some a → w.heap.size ≤ a.block
  kp : Kp (own ++ town) w w'
  ex : ∃ own' town', IsTp F R w' tb tseed (tDraw F R tseed (pl.length + 28) tleft tp).2.1 (tDraw F R tseed (pl.length + 28) tleft tp).2.2 (tat + (pl.length + 28)) town' ∧
    IsMd F R w' mb seed { s with bx := mput (ep, strOfNums hd, strOfNums (tDraw F R tseed (pl.length + 28) tleft tp).1) (strOfNums pl) s.bx } own' ∧
    (∀ b ∈ own', b ∉ town') ∧ Fresh w own own' ∧ Fresh w town town'
theorem seal_any (F R : List Int) (mb : Nat) (seed : List Int) (s : St) (own : List Nat) (tb : Nat) (tseed tleft : List Int) (tp tat : Nat) (town : List Nat) (ep : Int) (hA : Option Addr) (hn hc : Nat) (hd : List Int) (pA : Option Addr) (pn pc : Nat) (pl : List Int) (w : World)
    (hTb : Tabs F R w) (hI : IsMd F R w mb seed s own) (hT : IsTp F R w tb tseed tleft tp tat town) (hap : ∀ b ∈ own, b ∉ town) (hl : tseed.length ≤ 10000000000000) (hll : tleft.length ≤ 10000000000000) (hp : tp ≤ 9007199254600000) (hat : tat ≤ 9007199254600000)
    (he0 : 0 ≤ ep) (he1 : ep ≤ 255) (hhn : hn = hd.length) (hh : Rd w hA hc hd) (hhm : hn ≤ 4096) (hpn : pn = pl.length) (hpl : Rd w pA pc pl) (hpm : pn ≤ 4096) :
    Calls Tryd.prog 11 #[.pointer (some ⟨mb, 0, none⟩), .pointer (some ⟨tb, 0, none⟩), .int .i64 ep, .slice hA hn hc, .slice pA pn pc] w fun e w' => ∃ A c, e = .returned (.tuple #[.slice A (pn + 28) c, .int .i64 0]) ∧ MdSeal F R w w' mb seed s own tb tseed tleft tp tat town ep hd pl A c := by
  obtain ⟨ib, iown, rfl, h1, h2, h3⟩ := hI
  have c0 := blk_cell h2 0 rfl
  have hS := Lib.hid (iseal_any F R ib seed s iown tb tseed tleft tp tat town ep hA hn hc hd pA pn pc pl w hTb h3 hT (fun b hb => hap b (by simp [hb])) hl hll hp hat hhn hh hpn hpl hpm)
  have H1 := Lib.hid h1
  have H2 := Lib.hid h2
  have Hap := Lib.hid hap
  have HT := Lib.hid hT
  clear h1 h2 h3 hap hT hTb hh hpl hhn hpn
  have hm := meth_seal
  go_enter Tryd.func11, Tryd.ntmps11
  go_wp2_with (first
    | (go_at_call 35; go_must (refine (none_ok mb ib w c0).mono ?_; rintro e w1 ⟨rfl, rfl⟩))
    | (go_at_call 36; go_must (refine (asked_ok ep hA pA hn hc pn pc 4096 w he0 he1 hhm hpm).mono ?_; rintro e w1 ⟨rfl, rfl⟩))
    | (go_at_call 124; go_must (refine hS.out.mono ?_; rintro e w1 ⟨A, c, rfl, h1⟩; have HO := Lib.hid h1; clear h1)))
  go_ret2
  refine ⟨A, c, rfl, ?_⟩
  obtain ⟨own', town', q1, q2, q3, q4, q5⟩ := HO.out.ex
  have hmt : mb ∉ town := Hap.out mb (by simp)
  have hml := blk_lt H2.out
  have hk := HO.out.kp
  refine ⟨HO.out.box, HO.out.new, hk.mono (by intro b hb _; simp only [List.cons_append, List.mem_cons, List.mem_append] at hb ⊢; exact .inr hb), mb :: own', town', q1, ⟨_, own', rfl, ?_, hk.at_ H2.out ?_, q2⟩, ?_, ?_, q5⟩
  · intro hx
    rcases q4 mb hx with h | h
    · exact H1.out h
    · omega
  · simp only [List.mem_append, not_or]
    exact ⟨H1.out, hmt⟩
  · intro b hb hx
    rcases List.mem_cons.1 hb with rfl | hb
    · rcases q5 b hx with h | h
      · exact hmt h
      · omega
    · exact q3 b hb hx
  · intro b hb
    rcases List.mem_cons.1 hb with rfl | hb
    · exact .inl (by simp)
    · rcases q4 b hb with h | h
      · exact .inl (by simp [h])
      · exact .inr h
theorem open_any (F R : List Int) (mb : Nat) (seed : List Int) (s : St) (own : List Nat) (ep : Int) (hA : Option Addr) (hn hc : Nat) (hd : List Int) (bA : Option Addr) (bn bc : Nat) (bs : List Int) (w : World) (hI : IsMd F R w mb seed s own)
    (he0 : 0 ≤ ep) (he1 : ep ≤ 255) (hhn : hn = hd.length) (hh : Rd w hA hc hd) (hhm : hn ≤ 4096) (hbn : bn = bs.length) (hb : Rd w bA bc bs) (hb0 : 28 ≤ bn) (hbm : bn ≤ 4124) :
    Calls Tryd.prog 12 #[.pointer (some ⟨mb, 0, none⟩), .int .i64 ep, .slice hA hn hc, .slice bA bn bc] w fun e w' => ∃ A n c, e = .returned (.tuple #[.slice A n c, .int .i64 (if (mget (ep, strOfNums hd, strOfNums bs) s.bx).isSome then 0 else 80)]) ∧ ∃ xs : List Int, n = xs.length ∧ Rd w' A c xs ∧ (∀ pl, mget (ep, strOfNums hd, strOfNums bs) s.bx = some pl → strOfNums xs = pl) ∧ Below w.heap.size w w' := by
  obtain ⟨ib, iown, rfl, h1, h2, h3⟩ := hI
  have c0 := blk_cell h2 0 rfl
  have hS := iopen_any F R ib seed s iown ep hA hn hc hd bA bn bc bs w h3 hhn hh hbn hb
  obtain ⟨er, her⟩ : ∃ er : Int, er = if (mget (ep, strOfNums hd, strOfNums bs) s.bx).isSome then 0 else 80 := ⟨_, rfl⟩
  rw [← her] at hS ⊢
  have HS := Lib.hid hS
  clear hS h1 h2 h3 hh hb hhn hbn her
  have hm := meth_open
  go_enter Tryd.func12, Tryd.ntmps12
  go_wp2_with (first
    | (go_at_call 35; go_must (refine (none_ok mb ib w c0).mono ?_; rintro e w1 ⟨rfl, rfl⟩))
    | (go_at_call 36; go_must (refine (asked_ok ep hA bA hn hc bn bc 4124 w he0 he1 hhm hbm).mono ?_; rintro e w1 ⟨rfl, rfl⟩))
    | (go_at_call 123; go_must (refine HS.out.mono ?_; rintro e w1 ⟨A, n, c, rfl, h1⟩; have HO := Lib.hid h1; clear h1)))
  go_ret2
  exact ⟨A, n, c, rfl, HO.out⟩
theorem open_short (F R : List Int) (mb : Nat) (seed : List Int) (s : St) (own : List Nat) (ep : Int) (hA : Option Addr) (hn hc : Nat) (bA : Option Addr) (bn bc : Nat) (w : World) (hI : IsMd F R w mb seed s own)
    (he0 : 0 ≤ ep) (he1 : ep ≤ 255) (hhm : hn ≤ 4096) (hb0 : bn < 28) :
    Calls Tryd.prog 12 #[.pointer (some ⟨mb, 0, none⟩), .int .i64 ep, .slice hA hn hc, .slice bA bn bc] w fun e w' => e = .returned (.tuple #[.slice none 0 0, .int .i64 80]) ∧ w = w' := by
  obtain ⟨ib, iown, rfl, h1, h2, h3⟩ := hI
  have c0 := blk_cell h2 0 rfl
  clear h1 h2 h3
  go_enter Tryd.func12, Tryd.ntmps12
  go_wp2_with (first
    | (go_at_call 35; go_must (refine (none_ok mb ib w c0).mono ?_; rintro e w1 ⟨rfl, rfl⟩))
    | (go_at_call 36; go_must (refine (asked_ok ep hA bA hn hc bn bc 4124 w he0 he1 hhm (by omega)).mono ?_; rintro e w1 ⟨rfl, rfl⟩)))
  go_ret2
  exact ⟨rfl, rfl⟩
/-- Seal of an epoch that is none. -/
theorem seal_arg (F R : List Int) (mb : Nat) (seed : List Int) (s : St) (own : List Nat) (tb : Nat) (ep : Int) (hA : Option Addr) (hn hc : Nat) (pA : Option Addr) (pn pc : Nat) (w : World) (hI : IsMd F R w mb seed s own) (he1 : 255 < ep) :
    Calls Tryd.prog 11 #[.pointer (some ⟨mb, 0, none⟩), .pointer (some ⟨tb, 0, none⟩), .int .i64 ep, .slice hA hn hc, .slice pA pn pc] w fun e w' => e = .returned (.tuple #[.slice none 0 0, .int .i64 2]) ∧ w = w' := by
  obtain ⟨ib, iown, rfl, h1, h2, h3⟩ := hI
  have c0 := blk_cell h2 0 rfl
  clear h1 h2 h3
  go_enter Tryd.func11, Tryd.ntmps11
  go_wp2_with (first
    | (go_at_call 35; go_must (refine (none_ok mb ib w c0).mono ?_; rintro e w1 ⟨rfl, rfl⟩))
    | (go_at_call 36; go_must (refine (asked_arg ep hA pA hn hc pn pc 4096 w he1).mono ?_; rintro e w1 ⟨rfl, rfl⟩)))
  go_ret2
  exact ⟨rfl, rfl⟩
end Go.Proofs.YtiboflejmnjdhaaDoor
end
section
set_option linter.unusedVariables false
set_option linter.unusedSimpArgs false
set_option maxRecDepth 100000
namespace Go.Proofs.YtiboflejmnjdhaaDoor
open Go Go.RowKit Go.Conc
theorem inm_len {F R : List Int} {w : World} {ib : Nat} {seed : List Int} {s : St} {own : List Nat} (h : IsI F R w ib seed s own) (k : ByteArray) : (inm F R seed s k).1.length = 32 := by
  unfold inm
  cases hm : mget k s.nm with
  | none => exact tDraw_len _ _ _ _ _ _
  | some v => exact h.len _ _ hm
theorem mname_any (F R : List Int) (mb : Nat) (seed : List Int) (s : St) (own : List Nat) (kA : Option Addr) (kn kc : Nat) (key : List Int) (w : World)
    (hTb : Tabs F R w) (hI : IsMd F R w mb seed s own) (hl : seed.length ≤ 10000000000000) (hll : s.left.length ≤ 10000000000000) (hp : s.p ≤ 9007199254600000) (hat : s.at_ ≤ 9007199254600000)
    (hkn : kn = key.length) (hk : Rd w kA kc key) :
    Calls Tryd.prog 19 #[.pointer (some ⟨mb, 0, none⟩), .slice kA kn kc] w fun e w' => e = .returned (.tuple #[vvn (inm F R seed s (strOfNums key)).1, .int .i64 0]) ∧ (inm F R seed s (strOfNums key)).1.length = 32 ∧ (∃ own', IsMd F R w' mb seed (inm F R seed s (strOfNums key)).2 own' ∧ Fresh w own own') ∧ Kp own w w' := by
  obtain ⟨ib, iown, rfl, h1, h2, h3⟩ := hI
  have c0 := blk_cell h2 0 rfl
  have hlen := inm_len h3 (strOfNums key)
  have H1 := Lib.hid h1
  have H2 := Lib.hid h2
  have H3 := Lib.hid h3
  have HTb := Lib.hid hTb
  have Hk := Lib.hid hk
  have Hkn := Lib.hid hkn
  generalize hv : (inm F R seed s (strOfNums key)).1 = v at *
  have Hv := Lib.hid hv
  have hsz : Hid ((Tryd.prog.info? 47).map (·.size) = some (w8 v).size) := Lib.hid (by rw [w8_size, hlen]; kernel_rfl)
  have hold : Hid (z32.size = (w8 v).size) := Lib.hid (by rw [w8_size, hlen]; rfl)
  have Hlen := Lib.hid hlen
  have hmb : mb < w.heap.size := blk_lt h2
  clear h1 h2 h3 hTb hk hkn hv hlen
  have hm := meth_name
  go_enter Tryd.func19, Tryd.ntmps19
  go_upto_region 1 with (fail)
  generalize hw1 : World.alloc w _ = w1
  have hn := new_name hw1
  have HN := Lib.hid hn.2
  have HB := Lib.hid hn.1
  have c1 : w1.cell? ⟨mb, 0, none⟩ = some (.iface 113 (.pointer (some ⟨ib, 0, none⟩))) := (hn.1.cell (p := ⟨mb, 0, none⟩) hmb).trans c0
  have Hz : Hid (w1.heap.size = w.heap.size + 1) := Lib.hid (by rw [← hw1]; simp)
  have hmb1 : mb < w1.heap.size := Nat.lt_of_lt_of_le hmb hn.1.size
  clear hw1 hn c0
  go_wp2_with (first
    | (go_at_call 35; go_must (refine (none_ok mb ib w1 c1).mono ?_; rintro e w2 ⟨rfl, rfl⟩))
    | (go_at_call 122; go_must (refine (iname_any2 (fun b => b = w.heap.size) F R ib seed s iown kA kn kc key w1 (fun b hb => by have := Hz.out; omega) (HTb.out.below HB.out) (H3.out.io.below HB.out (fun b hb => .inr (by omega))) hl hll hp hat Hkn.out (Hk.out.below HB.out)).mono ?_; rintro e w2 ⟨he, h1, h2⟩; rw [Hv.out] at he; subst he; have P1 := Lib.hid h1; have P2 := Lib.hid h2; have HN2 := Lib.hid (h2.at_ HN.out (fun hx => by have := (H3.out.blocks _ hx).2; omega)); clear h1 h2))
    | (with_reducible refine wpList_store_row rfl 47 _ _ rfl w.heap.size _ rfl rfl 47 z32 HN2.out hsz.out hold.out (w8_one _) ?_))
  refine bodyPost_ret (results_cell_tmp_row Tryd.results19 _ _ w.heap.size _ _ (0, 0) _ rfl (setRow_heap _ _ _ _ _ _ HN2.out) Tryd.underlying47 rfl hsz.out) rfl ?_
  obtain ⟨own', q1, q2⟩ := P1.out
  have hz := Hz.out
  have hkk : Kp (mb :: iown) w (w2.setRow w.heap.size (w8 v)) := (((Kp.of_below (S := mb :: iown) HB.out).then (P2.out.mono (by intro b hb _; simp [hb])))).setRow (fun h => by omega) _
  have hno : w.heap.size ∉ own' := fun hx => by
    rcases q2 _ hx with h | h
    · have := (H3.out.blocks _ h).2; omega
    · omega
  have hmo : mb ∉ own' := fun hx => by
    rcases q2 _ hx with h | h
    · exact H1.out h
    · omega
  have hm2 : (w2.setRow w.heap.size (w8 v)).heap[mb]? = some (.cells #[.iface 113 (.pointer (some ⟨ib, 0, none⟩))] 63 (0, 0)) :=
    (setRow_other _ _ _ _ (by omega)).trans (P2.out.at_ (below_at HB.out H2.out hmb) H1.out)
  refine ⟨by rfl, Hlen.out, ⟨mb :: own', ⟨ib, own', rfl, hmo, hm2, (q1.set (nb := w.heap.size) rfl hno _).isI⟩, ?_⟩, hkk⟩
  intro b hb
  rcases List.mem_cons.1 hb with rfl | hb
  · exact .inl (by simp)
  · rcases q2 b hb with h | h
    · exact .inl (by simp [h])
    · exact .inr (by omega)
end Go.Proofs.YtiboflejmnjdhaaDoor
end
