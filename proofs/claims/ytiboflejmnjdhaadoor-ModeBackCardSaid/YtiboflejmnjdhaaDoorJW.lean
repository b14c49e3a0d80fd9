/- Contracts of package mode: the real way: seal, open. -/
import Derived.Test.YtiboflejmnjdhaaDoorJV
section
set_option linter.unusedVariables false
set_option linter.unusedSimpArgs false
set_option maxRecDepth 100000
namespace Go.Proofs.YtiboflejmnjdhaaDoor
open Go Go.RowKit Go.Shelf
attribute [local go_sem] Oper.semAt_some
theorem Rd.out_of {S : List Nat} {w w' : World} {A : Option Addr} {c : Nat} {xs : List Int} (h : Rd w A c xs) (hk : Kp S w w') (hS : 0 < xs.length → ∀ a, A = some a → a.block ∉ S) : Rd w' A c xs := by
  by_cases h0 : 0 < xs.length
  · exact h.kp hk (hS h0)
  · exact ⟨h.le, h.big, h.nil, fun h1 => absurd h1 h0⟩
theorem IsT.keep2 {F R : List Int} {S : List Nat} {w w' : World} {tb : Nat} {ch : Option Nat} {sA : Option Addr} {sc : Nat} {seed left : List Int} {p at_ : Nat} (h : IsT F R w tb ch sA sc seed left p at_) (hk : Kp S w w') (hd : ∀ b ∈ tb :: ch.toList, b ∉ S)
    (hs : 0 < seed.length → ∀ a, sA = some a → a.block ∉ S) (hl : LeftIn w tb (fun b => b ∉ S)) : IsT F R w' tb ch sA sc seed left p at_ := by
  obtain ⟨lA, lc, q, bg, h1, h2, h3, h4⟩ := h.row
  exact ⟨lA, lc, q, bg, hk.at_ h1 (hd _ (by simp)), h2.out_of hk hs, h3.out_of hk (fun h0 a ha => hl lA _ lc a (blk_cell h1 1 rfl) h0 ha), h4.kp hk (fun c e => hd c (by simp [e]))⟩
/-- Draw; the tape stands, whatever becomes of the drawn bytes. -/
theorem draw_own (F R : List Int) (tb : Nat) (seed left : List Int) (p at_ n : Nat) (own : List Nat) (w : World) (hTb : Tabs F R w) (hT : IsTp F R w tb seed left p at_ own) (hl : seed.length ≤ 10000000000000) (hll : left.length ≤ 10000000000000) (h0 : 0 < n) (hn : n ≤ 65536) (hp : p ≤ 9007199254600000) (hat : at_ ≤ 9007199254600000) :
    Calls Tryd.prog 14 #[.pointer (some ⟨tb, 0, none⟩), .int .i64 n] w fun e w' => ∃ A c own', e = .returned (.slice A n c) ∧ Own w' w.heap.size (.slice A n c) (tDraw F R seed n left p).1 ∧
      (∀ g W, (Value.slice A n c).ownBlock = some g → Kp [g] w' W → IsTp F R W tb seed (tDraw F R seed n left p).2.1 (tDraw F R seed n left p).2.2 (at_ + n) own') ∧ (∀ g, (Value.slice A n c).ownBlock = some g → g ∉ own') ∧ Fresh w own own' ∧ Kp own w w' := by
  obtain ⟨ch, sA, sc, rfl, h1⟩ := hT
  refine (draw_any3 (fun _ => True) F R tb ch sA sc seed left p at_ n w hTb h1 hl hll h0 hn hp hat (fun _ _ _ _ _ _ _ => trivial) (fun _ _ => trivial)).mono ?_
  rintro e w' ⟨A, c, cb, rfl, h2, h3, h4, h5, h6⟩
  have hno : ∀ g, (Value.slice A n c).ownBlock = some g → g ∉ tb :: (some cb).toList := fun g hg hx => by
    have h7 := h3.hard g hx
    obtain ⟨g', cap, cur, e1, hb, hgc, hle, hmx, hs, htk⟩ : ∃ g' cap cur, (Value.slice A n c) = .slice (some ⟨g', 0, none⟩) (tDraw F R seed n left p).1.length cap ∧ _ := by
      rcases h2.2 with ⟨_, h8⟩ | h8
      · rw [tDraw_len] at h8; omega
      · exact h8
    injection e1 with e2 e3 e4
    subst e2
    simp only [Value.ownBlock, Option.some.injEq] at hg
    subst hg
    obtain ⟨A9, c9, e9, hr9, _⟩ := h2.rd
    injection e9 with e91 e92 e93
    subst e91
    obtain ⟨b9, o9, e10, hc9⟩ := hr9.cells (by rw [tDraw_len]; exact h0)
    cases e10
    exact h7 _ .u8 _ (.inl rfl) (hc9 0 (by rw [tDraw_len]; exact h0))
  refine ⟨A, c, tb :: (some cb).toList, rfl, h2, fun g W hg hk => ?_, hno, fun b hb => ?_, h5⟩
  · obtain ⟨lA, lc, q, bg, q1, q2, q3, q4⟩ := h1.row
    refine ⟨some cb, sA, sc, rfl, h3.keep2 hk (fun b hb hx => ?_) (fun hs0 a ha hx => ?_) (fun A' n' c' a' z1 z2 z3 hx => ?_)⟩
    · rw [List.mem_singleton] at hx
      subst hx
      exact hno _ hg hb
    · rw [List.mem_singleton] at hx
      have := q2.lt hs0 a ha
      have := (h2.lt g hg).1
      omega
    · rw [List.mem_singleton] at hx
      exact (h6 A' n' c' a' z1 z2 z3).1 (hx ▸ hg)
  · simp only [Option.toList_some, List.mem_cons, List.not_mem_nil, or_false] at hb
    rcases hb with rfl | rfl
    · exact .inl (by simp)
    · rcases h4 with h | ⟨_, h⟩
      · exact .inl (by simp [h])
      · exact .inr h
theorem run_arrayAt12 (b o c : Nat) (W : World) : (Instr.arrayAt 56 (.slice (some ⟨b, o, none⟩) 12 c)).run Tryd.prog W = .ok (.pointer (some ⟨b, o, none⟩)) W := by
  simp [Instr.arrayAt, run_underlying Tryd.underlying56]
theorem IsC.hard {S : List Nat} {w w' : World} {cb : Nat} {K : List Int} (h : IsC w cb K) (hK : K.length = 16) (hk : Kp S w w') (hS : ∀ b ∈ S, Hard w b) : IsC w' cb K := by
  obtain ⟨g, c', hR⟩ := h.read hK
  obtain ⟨A, c, base, h1, h2⟩ := h
  have hcb : cb ∉ S := fun hx => hS cb hx _ .u8 _ (.inl rfl) (hR.box 0 (by omega))
  have hc0 := blk_cell (v := .slice A 11 c) h1 0 (crow_get _)
  rw [hR.c0] at hc0
  simp only [Option.some.injEq, Value.slice.injEq] at hc0
  obtain ⟨rfl, -, rfl⟩ := hc0
  refine ⟨_, _, base, hk.at_ h1 hcb, h2.keep (fun g' cs t fr hg hh => hk.at_ hh (fun hx => ?_))⟩
  simp only [Value.ownBlock, Option.some.injEq] at hg
  subst hg
  have hk0 := hR.key 0 (by omega)
  have hkl : ((cKeys K).getD 0 []).length = 16 := key_getD K hK 0 (by omega)
  have hv := w8_get ((cKeys K).getD 0 []) 0 (by omega)
  exact hS _ hx _ .u8 _ (.inl rfl) (hk0 0 _ (by simpa using hv))
/-- What the real seal leaves. -/
structure RSeal (F R root : List Int) (w w' : World) (tb : Nat) (tseed tleft : List Int) (tp tat : Nat) (town : List Nat) (ep : Int) (hd pl : List Int) (A : Option Addr) (c : Nat) : Prop where
  box : Rd w' A c ((tDraw F R tseed 12 tleft tp).1 ++ gcmBox (drv F R root ep) (tDraw F R tseed 12 tleft tp).1 pl hd)
  new : ∀ a, A = some a → w.heap.size ≤ a.block
  kp : Kp town w w'
  ex : ∃ town', IsTp F R w' tb tseed (tDraw F R tseed 12 tleft tp).2.1 (tDraw F R tseed 12 tleft tp).2.2 (tat + 12) town' ∧ Fresh w town town'
set_option maxHeartbeats 1000000 in
theorem rseal_any (F R : List Int) (wb : Nat) (root : List Int) (tb : Nat) (tseed tleft : List Int) (tp tat : Nat) (town : List Nat) (ep : Int) (h0 : 0 ≤ ep) (h1 : ep ≤ 9007199254740991) (hA : Option Addr) (hn hc : Nat) (hd : List Int) (pA : Option Addr) (pn pc : Nat) (pl : List Int) (w : World)
    (hTb : Tabs F R w) (hW : IsRw w wb root) (hT : IsTp F R w tb tseed tleft tp tat town) (hl : tseed.length ≤ 10000000000000) (hll : tleft.length ≤ 10000000000000) (hp : tp ≤ 9007199254600000) (hat : tat ≤ 9007199254600000)
    (hhn : hn = hd.length) (hh : Rd w hA hc hd) (hhm : hn ≤ 65536) (hpn : pn = pl.length) (hpl : Rd w pA pc pl) (hpm : pn ≤ 65536) :
    Calls Tryd.prog 116 #[.pointer (some ⟨wb, 0, none⟩), .pointer (some ⟨tb, 0, none⟩), .int .i64 ep, .slice hA hn hc, .slice pA pn pc] w fun e w' => ∃ A c, e = .returned (.tuple #[.slice A (pn + 28) c, .int .i64 0]) ∧ RSeal F R root w w' tb tseed tleft tp tat town ep hd pl A c := by
  have HTb := Lib.hid hTb
  have HW := Lib.hid hW
  have HT := Lib.hid hT
  have Hhn := Lib.hid hhn
  have Hh := Lib.hid hh
  have Hpn := Lib.hid hpn
  have Hpl := Lib.hid hpl
  have Hth : Hid (∀ b ∈ town, Hard w b) := Lib.hid (fun b hb => (hT.blocks b hb).1)
  clear hTb hW hT hhn hh hpn hpl
  have Hc := Lib.hid (cipher_any F R wb root ep h0 h1 w HTb.out HW.out)
  obtain ⟨K, hK⟩ : ∃ K, K = drv F R root ep := ⟨_, rfl⟩
  have hKl : K.length = 16 := by rw [hK]; exact drv_len _ _ _ _
  obtain ⟨nn, hnn⟩ : ∃ nn, nn = (tDraw F R tseed 12 tleft tp).1 := ⟨_, rfl⟩
  have hnl : nn.length = 12 := by rw [hnn]; exact tDraw_len _ _ _ _ _ _
  rw [← hK] at Hc
  have HK := Lib.hid hK
  have HKl := Lib.hid hKl
  have Hnn := Lib.hid hnn
  have Hnl := Lib.hid hnl
  have Hsz : Hid ((Tryd.prog.info? 56).map (·.size) = some nn.length) := Lib.hid (by rw [hnl]; kernel_rfl)
  clear hK hKl hnn hnl
  have hat12 := run_arrayAt12
  go_enter Tryd.func116, Tryd.ntmps116
  go_upto_region 5 with (first
    | (go_at_call 118; go_must (refine Hc.out.mono ?_; rintro e w1 ⟨cb, rfl, hcb, hc1, hb1⟩; have Hc1 := Lib.hid hc1; have Hb1 := Lib.hid hb1; have Hcb := Lib.hid hcb; clear hc1 hb1 hcb))
    | (go_at_call 14; go_must (refine (draw_own F R tb tseed tleft tp tat 12 town w1 (HTb.out.below Hb1.out) (HT.out.below Hb1.out) hl hll (by omega) (by omega) hp hat).mono ?_; rintro e w2 ⟨A2, c2, town2, rfl, q1, q2, q2b, q3, q4⟩; rw [← Hnn.out] at q1; have Q1 := Lib.hid q1; have Q2 := Lib.hid q2; have Q2b := Lib.hid q2b; have Q3 := Lib.hid q3; have Q4 := Lib.hid q4; clear q1 q2 q2b q3 q4)))
  have hth1 : ∀ b ∈ town, Hard w1 b := fun b hb => ((HT.out.below Hb1.out).blocks b hb).1
  have hr2 : Rd w2 A2 c2 nn := by
    obtain ⟨A9, c9, e, hr, _⟩ := Q1.out.rd
    injection e with e1 e2 e3
    subst e1 e3
    exact hr
  obtain ⟨g2, o2, rfl, hcc⟩ := hr2.cells (by rw [Hnl.out]; omega)
  have hrg : w2.rangeAt g2 o2 (w8 nn).toList := fun j v hv => by
    have hj : j < nn.length := by
      have := (List.getElem?_eq_some_iff.1 hv).1
      simpa [w8] using this
    rw [hcc j hj]
    have := w8_get nn j hj
    have hv' : (w8 nn)[j]? = some v := by simpa using hv
    rw [this] at hv'
    exact hv'
  have Hrg := Lib.hid hrg
  have hIc : IsC w2 cb K := Hc1.out.hard HKl.out Q4.out hth1
  have hB12 : Kp town w w2 := (Kp.of_below Hb1.out).trans Q4.out (T := town) (S := town) (fun b hb _ => hb)
  have hgs := gseal_any cb K nn HKl.out Hnl.out pA hA pn pc hn hc pl hd Hpn.out Hhn.out hpm hhm w2 hIc (Hpl.out.hard hB12 Hth.out) (Hh.out.hard hB12 Hth.out)
  have Hgs := Lib.hid hgs
  have HB12 := Lib.hid hB12
  have hbl := gcmBox_len K nn pl hd
  obtain ⟨bx, hbx⟩ : ∃ bx, bx = gcmBox K nn pl hd := ⟨_, rfl⟩
  rw [← hbx] at Hgs hbl
  have Hbx := Lib.hid hbx
  have Hbl : Hid (bx.length = pn + 16) := Lib.hid (by rw [hbl, Hpn.out])
  clear hr2 hcc hrg hIc hth1 hB12 hgs hbx hbl
  go_wp2_with (first
    | (with_reducible refine load_mid8 rfl 56 _ rfl g2 o2 rfl nn _ Hrg.out Tryd.underlying56 rfl Hsz.out ?_)
    | (go_at_call 23; go_must (refine Hgs.out.mono ?_; rintro e w3 ⟨v, rfl, ho, hb3⟩; obtain ⟨A3, c3, rfl, hr3, _⟩ := ho.rd; rw [Hbl.out]; have Hr3 := Lib.hid hr3; have Hb3 := Lib.hid hb3; have Q13 := Lib.hid (Q1.out.below hb3); clear ho hr3 hb3))
    | (at_builtin; go_must (refine app_rd rfl _ _ rfl w1.heap.size (.slice (some ⟨g2, o2, none⟩) 12 c2) nn rfl Q13.out _ _ _ bx rfl Hbl.out.symm Hr3.out (pn + 28) (by rw [Hnl.out, Hbl.out]; omega) (by rw [Hnl.out, Hbl.out]; omega) (Nat.le_trans Q4.out.size Hb3.out.size) ?_; intro A5 c5 wz ho hg hat; have Ho5 := Lib.hid ho; have Hg5 := Lib.hid hg; clear ho hg hat)))
  go_ret2
  have hs1 : w.heap.size ≤ w1.heap.size := Hb1.out.size
  have hown2 : (Value.slice (some (⟨g2, o2, none⟩ : Addr)) 12 c2).ownBlock = some g2 := rfl
  have hg2 : w1.heap.size ≤ g2 := (Q1.out.lt g2 hown2).1
  have hkz : Kp [g2] w2 wz := (Kp.of_below Hb3.out).then (Kp.of_grown Hg5.out (fun k e _ => by
    rw [hown2] at e
    injection e with e
    simp [e]))
  have hrz : Rd wz A5 c5 (nn ++ bx) := by
    obtain ⟨A9, c9, e9, hr9, _⟩ := Ho5.out.rd
    injection e9 with e91 e92 e93
    subst e91 e93
    exact hr9
  refine ⟨A5, c5, rfl, ⟨?_, fun a ha => ?_, ?_, town2, Q2.out g2 wz hown2 hkz, fun b hb => ?_⟩⟩
  · rw [← Hnn.out, ← HK.out, ← Hbx.out]; exact hrz
  · obtain ⟨A9, c9, e9, _, h9⟩ := Ho5.out.rd
    injection e9 with e91 e92 e93
    subst e91
    exact Nat.le_trans hs1 (h9 a ha).1
  · exact HB12.out.trans hkz (fun x hx hlt => by rw [List.mem_singleton] at hx; omega)
  · rcases Q3.out b hb with h | h
    · exact .inl h
    · exact .inr (by omega)
end Go.Proofs.YtiboflejmnjdhaaDoor
end
section
set_option linter.unusedVariables false
set_option linter.unusedSimpArgs false
set_option maxRecDepth 100000
namespace Go.Proofs.YtiboflejmnjdhaaDoor
open Go Go.RowKit Go.Shelf
attribute [local go_sem] Oper.semAt_some
/-- What a box holds, if it is whole. -/
def openOf (K bs head : List Int) : Option (List Int) :=
  if gcmTag K (bs.take 12) ((bs.drop 12).take (bs.length - 28)) head = (bs.drop 12).drop (bs.length - 28) then some (hidAll K (bs.take 12) ((bs.drop 12).take (bs.length - 28))) else none
theorem openOf_seal (K nn pl head : List Int) (hn : nn.length = 12) (hp : By8 pl) : openOf K (nn ++ gcmBox K nn pl head) head = some pl := by
  have h1 : (nn ++ gcmBox K nn pl head).take 12 = nn := by rw [List.take_append_of_le_length (by omega), List.take_of_length_le (by omega)]
  have h2 : (nn ++ gcmBox K nn pl head).drop 12 = gcmBox K nn pl head := by rw [List.drop_append_of_le_length (by omega), List.drop_of_length_le (by omega), List.nil_append]
  have h3 : (nn ++ gcmBox K nn pl head).length - 28 = pl.length := by rw [List.length_append, gcmBox_len]; omega
  have h4 : (gcmBox K nn pl head).take pl.length = hidAll K nn pl := by rw [gcmBox, List.take_append_of_le_length (by rw [hidAll_len]; omega), List.take_of_length_le (by rw [hidAll_len]; omega)]
  have h5 : (gcmBox K nn pl head).drop pl.length = gcmTag K nn (hidAll K nn pl) head := by rw [gcmBox, List.drop_append_of_le_length (by rw [hidAll_len]; omega), List.drop_of_length_le (by rw [hidAll_len]; omega), List.nil_append]
  rw [openOf, h1, h2, h3, h4, h5, if_pos rfl, hidAll_back K nn pl hp]
set_option maxHeartbeats 1000000 in
theorem ropen_any (F R : List Int) (wb : Nat) (root : List Int) (ep : Int) (h0 : 0 ≤ ep) (h1 : ep ≤ 9007199254740991) (hA : Option Addr) (hn hc : Nat) (hd : List Int) (bA : Option Addr) (bn bc : Nat) (bs : List Int) (w : World)
    (hTb : Tabs F R w) (hW : IsRw w wb root) (hhn : hn = hd.length) (hh : Rd w hA hc hd) (hhm : hn ≤ 65536) (hbn : bn = bs.length) (hb : Rd w bA bc bs) (hb0 : 28 ≤ bn) (hbm : bn ≤ 65552) :
    Calls Tryd.prog 115 #[.pointer (some ⟨wb, 0, none⟩), .int .i64 ep, .slice hA hn hc, .slice bA bn bc] w fun e w' => ∃ v x, e = .returned (.tuple #[v, .int .i64 x]) ∧
      (∀ pl, openOf (drv F R root ep) bs hd = some pl → x = 0 ∧ Own w' w.heap.size v pl) ∧ (openOf (drv F R root ep) bs hd = none → x = 80 ∧ v = .slice none 0 0) ∧ Below w.heap.size w w' := by
  have Hc := Lib.hid (cipher_any F R wb root ep h0 h1 w hTb hW)
  obtain ⟨K, hK⟩ : ∃ K, K = drv F R root ep := ⟨_, rfl⟩
  have hKl : K.length = 16 := by rw [hK]; exact drv_len _ _ _ _
  rw [← hK] at Hc ⊢
  have HKl := Lib.hid hKl
  have Hh := Lib.hid hh
  have Hhn := Lib.hid hhn
  have Hb := Lib.hid hb
  have Hbn := Lib.hid hbn
  have hbc : bn ≤ bc := by rw [hbn]; exact hb.le
  have hcap := hb.big
  obtain ⟨b, off, rfl, hcell⟩ := hb.cells (by omega)
  have hlo : ∀ W, (Instr.slice 22 (.slice (some ⟨b, off, none⟩) bn bc) none (some (.int .i64 12)) none).run Tryd.prog W = .ok (.slice (some ⟨b, off, none⟩) 12 bc) W := fun W => cut_hi (some ⟨b, off, none⟩) bn bc 12 (by omega) .i64 W
  obtain ⟨A2, hhi0, hA2, _⟩ := cut_lo (some ⟨b, off, none⟩) bn bc 12 (by omega)
  obtain ⟨n, hn28⟩ : ∃ n, bn = n + 28 := ⟨bn - 28, by omega⟩
  have hhi : ∀ W, (Instr.slice 22 (.slice (some ⟨b, off, none⟩) bn bc) (some (.int .i64 12)) none none).run Tryd.prog W = .ok (.slice A2 (n + 16) (bc - 12)) W := fun W => by
    have := hhi0 .i64 W
    rwa [show bn - 12 = n + 16 by omega] at this
  clear hhi0
  obtain ⟨nn, hnn⟩ : ∃ nn, nn = bs.take 12 := ⟨_, rfl⟩
  obtain ⟨cx, hcx⟩ : ∃ cx, cx = bs.drop 12 := ⟨_, rfl⟩
  have hnl : nn.length = 12 := by rw [hnn, List.length_take]; omega
  have hcl : cx.length = n + 16 := by rw [hcx, List.length_drop]; omega
  have hop : openOf K bs hd = if gcmTag K nn (cx.take n) hd = cx.drop n then some (hidAll K nn (cx.take n)) else none := by
    rw [openOf, ← hnn, ← hcx, show bs.length - 28 = n by omega]
  have HA2 : Hid (∀ W, Rd W (some ⟨b, off, none⟩) bc bs → Rd W A2 (bc - 12) cx) := Lib.hid (fun W h => by rw [hcx]; exact hA2 W bs hbn.symm h)
  have Hrg : Hid (∀ W, Rd W (some ⟨b, off, none⟩) bc bs → W.rangeAt b off (w8 nn).toList) := Lib.hid (fun W h j v hv => by
    have hj : j < nn.length := by
      have := (List.getElem?_eq_some_iff.1 hv).1
      simpa [w8] using this
    obtain ⟨b9, o9, e9, hc9⟩ := h.cells (by omega)
    cases e9
    rw [hc9 j (by omega)]
    have := w8_get nn j hj
    have hv' : (w8 nn)[j]? = some v := by simpa using hv
    rw [this] at hv'
    rw [← hv', hnn]
    simp only [List.getD_eq_getElem?_getD, List.getElem?_take, if_pos (show j < 12 by omega)])
  have Hop := Lib.hid hop
  have Hnl := Lib.hid hnl
  have Hcl := Lib.hid hcl
  have Hsz : Hid ((Tryd.prog.info? 56).map (·.size) = some nn.length) := Lib.hid (by rw [hnl]; kernel_rfl)
  have hat12 := run_arrayAt12
  have hnm : n + 16 ≤ 65552 := by omega
  have Hsh : Hid (bn = n + 28) := Lib.hid hn28
  clear hK hKl hh hhn hb hbn hcell hA2 hnn hcx hnl hcl hop hTb hW hbc hn28 hb0
  go_enter Tryd.func115, Tryd.ntmps115
  go_upto_region 4 with (go_at_call 118; go_must (refine Hc.out.mono ?_; rintro e w1 ⟨cb, rfl, hcb, hc1, hb1⟩; have Hc1 := Lib.hid hc1; have Hb1 := Lib.hid hb1; have Hcb := Lib.hid hcb; clear hc1 hb1 hcb))
  refine seg_begin (fun W => W.rangeAt b off (w8 nn).toList) [4] (by kernel_rfl) ?_
  have hbd : Below w.heap.size w w1.drew := Hb1.out.drew
  have HS : Hid (w1.drew.rangeAt b off (w8 nn).toList) := Lib.hid (Hrg.out _ (Hb.out.below hbd))
  have Hbd := Lib.hid hbd
  have Hcd : Hid (IsC w1.drew cb K) := Lib.hid (Hc1.out.below (Below.refl _ _).drew)
  clear hbd Hc1 Hb1
  generalize w1.drew = wd at *
  (refine seg_take 0 ?_ rfl (by kernel_rfl) (by kernel_rfl) (by kernel_rfl) (by kernel_rfl) (by kernel_rfl) rfl (fun _ _ _ h => h) rfl ?_ ?_; rotate_left; (focus (intro w; go_simp; try with_reducible rfl)); (try simp only [List.getElem_toArray, List.getElem_cons_zero, List.getElem_cons_succ, Act.put, List.setIfInBounds_toArray, List.set_cons_zero, List.set_cons_succ]); refine seg_take 1 ?_ rfl (by kernel_rfl) (by kernel_rfl) (by kernel_rfl) (by kernel_rfl) (by kernel_rfl) rfl (fun _ _ _ h => h) rfl ?_ ?_; rotate_left; (focus (intro w; go_simp; try with_reducible rfl)); (try simp only [List.getElem_toArray, List.getElem_cons_zero, List.getElem_cons_succ, Act.put, List.setIfInBounds_toArray, List.set_cons_zero, List.set_cons_succ]); refine seg_take 2 ?_ rfl (by kernel_rfl) (by kernel_rfl) (by kernel_rfl) (by kernel_rfl) (by kernel_rfl) rfl (fun _ _ _ h => h) rfl ?_ ?_; rotate_left; (focus (intro w; go_simp; try with_reducible rfl)); (try simp only [List.getElem_toArray, List.getElem_cons_zero, List.getElem_cons_succ, Act.put, List.setIfInBounds_toArray, List.set_cons_zero, List.set_cons_succ]); refine seg_take 5 ?_ rfl (by kernel_rfl) (by kernel_rfl) (by kernel_rfl) (by kernel_rfl) (by kernel_rfl) rfl (fun _ _ _ h => h) rfl ?_ ?_; rotate_left; (focus (intro w; go_simp; try with_reducible rfl)); (try simp only [List.getElem_toArray, List.getElem_cons_zero, List.getElem_cons_succ, Act.put, List.setIfInBounds_toArray, List.set_cons_zero, List.set_cons_succ]); refine seg_take 6 ?_ rfl (by kernel_rfl) (by kernel_rfl) (by kernel_rfl) (by kernel_rfl) (by kernel_rfl) rfl (fun _ _ _ h => h) rfl ?_ ?_; rotate_left; (focus (intro w; go_simp; try with_reducible rfl)); (try simp only [List.getElem_toArray, List.getElem_cons_zero, List.getElem_cons_succ, Act.put, List.setIfInBounds_toArray, List.set_cons_zero, List.set_cons_succ]); refine seg_take 7 ?_ rfl (by kernel_rfl) (by kernel_rfl) (by kernel_rfl) (by kernel_rfl) (by kernel_rfl) rfl (fun _ _ _ h => h) rfl ?_ ?_; rotate_left; (focus (intro w; go_simp; try with_reducible rfl)); (try simp only [List.getElem_toArray, List.getElem_cons_zero, List.getElem_cons_succ, Act.put, List.setIfInBounds_toArray, List.set_cons_zero, List.set_cons_succ]))
  (refine seg_take 3 (.pointer (some ⟨b, off, none⟩)) rfl (by kernel_rfl) (by kernel_rfl) (by kernel_rfl) (by kernel_rfl) (by kernel_rfl) rfl (fun _ _ _ h => h) rfl (fun W => by unfold execOp; go_simp) ?_; (try simp only [List.getElem_toArray, List.getElem_cons_zero, List.getElem_cons_succ, Act.put, List.setIfInBounds_toArray, List.set_cons_zero, List.set_cons_succ]))
  (refine seg_read 4 (.agg (w8 nn)) rfl (by kernel_rfl) (by kernel_rfl) (by kernel_rfl) (by kernel_rfl) (by kernel_rfl) (by kernel_rfl) (fun _ _ _ h => h) rfl HS.out (fun W hW => yields_load_mid8 56 _ rfl b off rfl nn _ hW Tryd.underlying56 rfl Hsz.out) ?_; (try simp only [List.getElem_toArray, List.getElem_cons_zero, List.getElem_cons_succ, Act.put, List.setIfInBounds_toArray, List.set_cons_zero, List.set_cons_succ]))
  skip
  have Hgo := Lib.hid (gopen_any cb K nn HKl.out Hnl.out A2 hA (n + 16) (bc - 12) hn hc n cx hd Hcl.out.symm Hhn.out hnm hhm rfl wd Hcd.out (HA2.out _ (Hb.out.below Hbd.out)) (Hh.out.below Hbd.out))
  (refine anyB_step 8 rfl (by kernel_rfl) ?_; (try simp only [List.getElem_toArray, List.getElem_cons_zero, List.getElem_cons_succ]))
  go_wp2_with (go_at_call 119; go_must (refine Hgo.out.mono ?_; rintro e w3 ⟨v, x, rfl, q1, q2, q3⟩; have Q1 := Lib.hid q1; have Q2 := Lib.hid q2; have Q3 := Lib.hid q3; clear q1 q2 q3))
  refine ⟨nofun, ?_⟩
  have HS3 : Hid (w3.rangeAt b off (w8 nn).toList) := Lib.hid (Hrg.out _ (Hb.out.below (Hbd.out.trans (Q3.out.mono Hbd.out.size))))
  (refine seg_take 9 ?_ rfl (by kernel_rfl) (by kernel_rfl) (by kernel_rfl) (by kernel_rfl) (by kernel_rfl) rfl (fun _ _ _ h => h) rfl ?_ ?_; rotate_left; (focus (intro w; go_simp; try with_reducible rfl)); (try simp only [List.getElem_toArray, List.getElem_cons_zero, List.getElem_cons_succ, Act.put, List.setIfInBounds_toArray, List.set_cons_zero, List.set_cons_succ]); refine seg_take 10 ?_ rfl (by kernel_rfl) (by kernel_rfl) (by kernel_rfl) (by kernel_rfl) (by kernel_rfl) rfl (fun _ _ _ h => h) rfl ?_ ?_; rotate_left; (focus (intro w; go_simp; try with_reducible rfl)); (try simp only [List.getElem_toArray, List.getElem_cons_zero, List.getElem_cons_succ, Act.put, List.setIfInBounds_toArray, List.set_cons_zero, List.set_cons_succ]); refine seg_take 11 ?_ rfl (by kernel_rfl) (by kernel_rfl) (by kernel_rfl) (by kernel_rfl) (by kernel_rfl) rfl (fun _ _ _ h => h) rfl ?_ ?_; rotate_left; (focus (intro w; go_simp; try with_reducible rfl)); (try simp only [List.getElem_toArray, List.getElem_cons_zero, List.getElem_cons_succ, Act.put, List.setIfInBounds_toArray, List.set_cons_zero, List.set_cons_succ]); refine seg_take 12 ?_ rfl (by kernel_rfl) (by kernel_rfl) (by kernel_rfl) (by kernel_rfl) (by kernel_rfl) rfl (fun _ _ _ h => h) rfl ?_ ?_; rotate_left; (focus (intro w; go_simp; try with_reducible rfl)); (try simp only [List.getElem_toArray, List.getElem_cons_zero, List.getElem_cons_succ, Act.put, List.setIfInBounds_toArray, List.set_cons_zero, List.set_cons_succ]))
  (refine anyB_done (by kernel_rfl) ?_)
  go_wp2
  go_ret2
  refine ⟨_, _, rfl, fun pl hpl => ?_, fun hpl => ?_, Hbd.out.trans (Q3.out.mono Hbd.out.size)⟩
  · rw [Hop.out] at hpl
    split at hpl
    · rename_i heq
      obtain ⟨z1, z2⟩ := Q1.out heq
      cases hpl
      exact ⟨z1, z2.lower Hbd.out.size⟩
    · cases hpl
  · rw [Hop.out] at hpl
    split at hpl
    · cases hpl
    · rename_i heq
      exact Q2.out heq
end Go.Proofs.YtiboflejmnjdhaaDoor
end
section
set_option linter.unusedVariables false
set_option linter.unusedSimpArgs false
set_option maxRecDepth 100000
namespace Go.Proofs.YtiboflejmnjdhaaDoor
open Go Go.RowKit Go.Shelf Go.Conc
attribute [local go_sem] Oper.semAt_some
/-- A real mode. -/
def IsMr (w : World) (mb : Nat) (root : List Int) (own : List Nat) : Prop :=
  ∃ wb, own = [mb, wb] ∧ mb ≠ wb ∧ w.heap[mb]? = some (.cells #[.iface 83 (.pointer (some ⟨wb, 0, none⟩))] 63 (0, 0)) ∧ IsRw w wb root
theorem IsMr.blocks {w : World} {mb : Nat} {root : List Int} {own : List Nat} (h : IsMr w mb root own) : ∀ b ∈ own, Hard w b ∧ b < w.heap.size := by
  obtain ⟨wb, rfl, hne, h1, h2⟩ := h
  obtain ⟨A, c, h3, h4⟩ := h2.ex
  intro b hb
  simp only [List.mem_cons, List.not_mem_nil, or_false] at hb
  rcases hb with rfl | rfl
  · refine ⟨hard_cells h1 ?_, blk_lt h1⟩
    intro v hv q x hq
    simp only [List.mem_toArray, List.mem_cons, List.not_mem_nil, or_false] at hv
    rw [hv]; simp
  · refine ⟨hard_cells h3 ?_, blk_lt h3⟩
    intro v hv q x hq
    simp only [List.mem_toArray, List.mem_cons, List.not_mem_nil, or_false] at hv
    rw [hv]; simp
theorem IsMr.keep {S : List Nat} {w w' : World} {mb : Nat} {root : List Int} {own : List Nat} (h : IsMr w mb root own) (hk : Kp S w w') (hS : ∀ b ∈ S, Hard w b) (hd : ∀ b ∈ own, b ∉ S) : IsMr w' mb root own := by
  obtain ⟨wb, rfl, hne, h1, h2⟩ := h
  exact ⟨wb, rfl, hne, hk.at_ h1 (hd _ (by simp)), h2.keep hk hS (hd _ (by simp))⟩
theorem IsMr.below {w w' : World} {mb : Nat} {root : List Int} {own : List Nat} (h : IsMr w mb root own) (hk : Below w.heap.size w w') : IsMr w' mb root own := h.keep (Kp.of_below (S := []) hk) (by simp) (by simp)
theorem meth_rsize (k : Nat) (v : Option Addr) (w : World) : (method (k + 1) 83 (.pointer v) "sealchain/mode.size").run Tryd.prog w = .ok (117, .pointer v) w := by kernel_rfl
theorem meth_rseal (k : Nat) (v : Option Addr) (w : World) : (method (k + 1) 83 (.pointer v) "sealchain/mode.seal").run Tryd.prog w = .ok (116, .pointer v) w := by kernel_rfl
theorem meth_ropen (k : Nat) (v : Option Addr) (w : World) : (method (k + 1) 83 (.pointer v) "sealchain/mode.open").run Tryd.prog w = .ok (115, .pointer v) w := by kernel_rfl
theorem meth_rname (k : Nat) (v : Option Addr) (w : World) : (method (k + 1) 83 (.pointer v) "sealchain/mode.name").run Tryd.prog w = .ok (114, .pointer v) w := by kernel_rfl
theorem none_okr (mb ib : Nat) (w : World) (h : w.cell? ⟨mb, 0, none⟩ = some (.iface 83 (.pointer (some ⟨ib, 0, none⟩)))) :
    Calls Tryd.prog 35 #[.pointer (some ⟨mb, 0, none⟩)] w fun e w' => e = .returned (.bool false) ∧ w = w' := by
  go_enter Tryd.func35, Tryd.ntmps35
  go_wp2
  go_ret
  exact ⟨rfl, rfl⟩
theorem rlen_any (mb : Nat) (root : List Int) (own : List Nat) (w : World) (h : IsMr w mb root own) :
    Calls Tryd.prog 17 #[.pointer (some ⟨mb, 0, none⟩)] w fun e w' => e = .returned (.int .i64 0) ∧ w = w' := by
  obtain ⟨wb, rfl, hne, h1, h2⟩ := h
  have c0 := blk_cell h1 0 rfl
  clear h1 h2
  have hm := meth_rsize
  go_enter Tryd.func17, Tryd.ntmps17
  go_wp2_with (first | (go_at_call 35; go_must (refine (none_okr mb wb w c0).mono ?_; rintro e w1 ⟨rfl, rfl⟩)) | (go_at_call 117; go_must (refine (rsize_any wb w).mono ?_; rintro e w1 ⟨rfl, rfl⟩)))
  go_ret
  exact ⟨rfl, rfl⟩
theorem isreal_any (mb : Nat) (root : List Int) (own : List Nat) (w : World) (h : IsMr w mb root own) :
    Calls Tryd.prog 16 #[.pointer (some ⟨mb, 0, none⟩)] w fun e w' => e = .returned (.bool true) ∧ w = w' := by
  obtain ⟨wb, rfl, hne, h1, h2⟩ := h
  have c0 := blk_cell h1 0 rfl
  clear h1 h2
  have hta : ∀ W, (Instr.typeAssert (.iface 83 (.pointer (some ⟨wb, 0, none⟩))) 61 83 true).run Tryd.prog W = .ok (.tuple #[.pointer (some ⟨wb, 0, none⟩), .bool true]) W := fun W => by kernel_rfl
  go_enter Tryd.func16, Tryd.ntmps16
  go_wp2_with ((go_at_call 35; go_must (refine (none_okr mb wb w c0).mono ?_; rintro e w1 ⟨rfl, rfl⟩)))
  go_ret
  exact ⟨rfl, rfl⟩
theorem mreal_any (A : Option Addr) (c : Nat) (root : List Int) (hl : root.length = 32) (w : World) (hr : Rd w A c root) :
    Calls Tryd.prog 15 #[.slice A 32 c] w fun e w' => ∃ mb own, e = .returned (.tuple #[.pointer (some ⟨mb, 0, none⟩), .int .i64 0]) ∧ IsMr w' mb root own ∧ (∀ b ∈ own, w.heap.size ≤ b) ∧ Below w.heap.size w w' := by
  have Hl := Lib.hid hl
  have hcl := clone_any A c root w hr (by omega)
  rw [hl] at hcl
  have Hcl := Lib.hid hcl
  clear hl hcl hr
  go_enter Tryd.func15, Tryd.ntmps15
  go_wp2_with ((go_at_call 33; go_must (refine Hcl.out.mono ?_; rintro e w1 ⟨v, rfl, ho, hb⟩; obtain ⟨A1, c1, rfl, hr1, _⟩ := ho.rd; rw [Hl.out]; have Hr1 := Lib.hid hr1; have Hb1 := Lib.hid hb; clear ho hb hr1)))
  go_ret2
  have hs := Hb1.out.size
  obtain ⟨w3, hw3⟩ : ∃ w3, w3 = (w1.alloc (.cells #[.slice A1 32 c1] 85)).alloc (.cells #[.iface 83 (.pointer (some ⟨w1.heap.size, 0, none⟩))] 63) := ⟨_, rfl⟩
  have hb : Below w1.heap.size w1 w3 := by rw [hw3]; exact ((Below.refl _ w1).alloc (Nat.le_refl _) _).alloc (by simp) _
  have hi : w3.heap[w1.heap.size]? = some (.cells #[.slice A1 32 c1] 85 (0, 0)) := by rw [hw3]; exact blk_alloc (new_at rfl) _
  have hm : w3.heap[w1.heap.size + 1]? = some (.cells #[.iface 83 (.pointer (some ⟨w1.heap.size, 0, none⟩))] 63 (0, 0)) := by rw [hw3]; exact new_at (by simp)
  rw [← hw3]
  refine ⟨w1.heap.size + 1, [w1.heap.size + 1, w1.heap.size], rfl, ⟨w1.heap.size, rfl, by omega, hm, ⟨⟨A1, c1, hi, Hr1.out.below hb⟩, Hl.out⟩⟩, ?_, Hb1.out.trans (hb.mono hs)⟩
  intro b hb
  simp only [List.mem_cons, List.not_mem_nil, or_false] at hb
  omega
theorem mrseal_any (F R : List Int) (mb : Nat) (root : List Int) (own : List Nat) (tb : Nat) (tseed tleft : List Int) (tp tat : Nat) (town : List Nat) (ep : Int) (hA : Option Addr) (hn hc : Nat) (hd : List Int) (pA : Option Addr) (pn pc : Nat) (pl : List Int) (w : World)
    (hTb : Tabs F R w) (hM : IsMr w mb root own) (hT : IsTp F R w tb tseed tleft tp tat town) (hl : tseed.length ≤ 10000000000000) (hll : tleft.length ≤ 10000000000000) (hp : tp ≤ 9007199254600000) (hat : tat ≤ 9007199254600000)
    (he0 : 0 ≤ ep) (he1 : ep ≤ 255) (hhn : hn = hd.length) (hh : Rd w hA hc hd) (hhm : hn ≤ 4096) (hpn : pn = pl.length) (hpl : Rd w pA pc pl) (hpm : pn ≤ 4096) :
    Calls Tryd.prog 11 #[.pointer (some ⟨mb, 0, none⟩), .pointer (some ⟨tb, 0, none⟩), .int .i64 ep, .slice hA hn hc, .slice pA pn pc] w fun e w' => ∃ A c, e = .returned (.tuple #[.slice A (pn + 28) c, .int .i64 0]) ∧ RSeal F R root w w' tb tseed tleft tp tat town ep hd pl A c := by
  obtain ⟨wb, rfl, hne, h1, h2⟩ := hM
  have c0 := blk_cell h1 0 rfl
  have hS := Lib.hid (rseal_any F R wb root tb tseed tleft tp tat town ep he0 (by omega) hA hn hc hd pA pn pc pl w hTb h2 hT hl hll hp hat hhn hh (by omega) hpn hpl (by omega))
  clear h1 h2 hT hTb hh hpl hhn hpn
  have hm := meth_rseal
  go_enter Tryd.func11, Tryd.ntmps11
  go_wp2_with (first
    | (go_at_call 35; go_must (refine (none_okr mb wb w c0).mono ?_; rintro e w1 ⟨rfl, rfl⟩))
    | (go_at_call 36; go_must (refine (asked_ok ep hA pA hn hc pn pc 4096 w he0 he1 hhm hpm).mono ?_; rintro e w1 ⟨rfl, rfl⟩))
    | (go_at_call 116; go_must (refine hS.out.mono ?_; rintro e w1 ⟨A, c, rfl, h1⟩; have HO := Lib.hid h1; clear h1)))
  go_ret2
  exact ⟨A, c, rfl, HO.out⟩
theorem mropen_any (F R : List Int) (mb : Nat) (root : List Int) (own : List Nat) (ep : Int) (hA : Option Addr) (hn hc : Nat) (hd : List Int) (bA : Option Addr) (bn bc : Nat) (bs : List Int) (w : World) (hTb : Tabs F R w) (hM : IsMr w mb root own)
    (he0 : 0 ≤ ep) (he1 : ep ≤ 255) (hhn : hn = hd.length) (hh : Rd w hA hc hd) (hhm : hn ≤ 4096) (hbn : bn = bs.length) (hb : Rd w bA bc bs) (hb0 : 28 ≤ bn) (hbm : bn ≤ 4124) :
    Calls Tryd.prog 12 #[.pointer (some ⟨mb, 0, none⟩), .int .i64 ep, .slice hA hn hc, .slice bA bn bc] w fun e w' => ∃ v x, e = .returned (.tuple #[v, .int .i64 x]) ∧
      (∀ pl, openOf (drv F R root ep) bs hd = some pl → x = 0 ∧ Own w' w.heap.size v pl) ∧ (openOf (drv F R root ep) bs hd = none → x = 80 ∧ v = .slice none 0 0) ∧ Below w.heap.size w w' := by
  obtain ⟨wb, rfl, hne, h1, h2⟩ := hM
  have c0 := blk_cell h1 0 rfl
  have hS := Lib.hid (ropen_any F R wb root ep he0 (by omega) hA hn hc hd bA bn bc bs w hTb h2 hhn hh (by omega) hbn hb hb0 (by omega))
  clear h1 h2 hTb hh hb hhn hbn
  have hm := meth_ropen
  go_enter Tryd.func12, Tryd.ntmps12
  go_wp2_with (first
    | (go_at_call 35; go_must (refine (none_okr mb wb w c0).mono ?_; rintro e w1 ⟨rfl, rfl⟩))
    | (go_at_call 36; go_must (refine (asked_ok ep hA bA hn hc bn bc 4124 w he0 he1 hhm hbm).mono ?_; rintro e w1 ⟨rfl, rfl⟩))
    | (go_at_call 115; go_must (refine hS.out.mono ?_; rintro e w1 ⟨v, x, rfl, h1⟩; have HO := Lib.hid h1; clear h1)))
  go_ret2
  exact ⟨v, x, rfl, HO.out⟩
end Go.Proofs.YtiboflejmnjdhaaDoor
end
