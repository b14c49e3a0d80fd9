/- Contracts of package gcm: Seal, Open. -/
import Derived.Test.YtiboflejmnjdhaaDoorGcm4
set_option linter.unusedVariables false
set_option linter.unusedSimpArgs false
set_option maxRecDepth 100000
namespace Go.Proofs.YtiboflejmnjdhaaDoor
open Go Go.RowKit Go.Shelf
attribute [local go_sem] Oper.semAt_some
theorem take_ne {xs ys : List Int} {k : Nat} (hk : k < xs.length) (hl : xs.length = ys.length) (h : xs.getD k 0 ≠ ys.getD k 0) : xs ≠ ys := fun e => h (by rw [e])
theorem take_eq_succ {xs ys : List Int} {k : Nat} (hk : k < xs.length) (hl : xs.length = ys.length) (h : xs.take k = ys.take k) (he : xs.getD k 0 = ys.getD k 0) : xs.take (k + 1) = ys.take (k + 1) := by
  have h2 : k < ys.length := by omega
  rw [List.take_succ_eq_append_getElem hk, List.take_succ_eq_append_getElem h2, h]
  simp only [List.getD_eq_getElem?_getD, List.getElem?_eq_getElem hk, List.getElem?_eq_getElem h2, Option.getD_some] at he
  rw [he]
set_option maxHeartbeats 1000000 in
theorem equal_any (A B : Option Addr) (n m c d : Nat) (xs ys : List Int) (h1 : n = xs.length) (h2 : m = ys.length) (w : World) (hx : Rd w A c xs) (hy : Rd w B d ys) (hb : n ≤ 9223372036854775000) (hb2 : m ≤ 9223372036854775000) :
    Calls Tryd.prog 120 #[.slice A n c, .slice B m d] w fun e w' => e = .returned (.bool (decide (xs = ys))) ∧ Below w.heap.size w w' := by
  have Hx := Lib.hid hx
  have Hy := Lib.hid hy
  have H1 := Lib.hid h1
  have H2 := Lib.hid h2
  clear hx hy h1 h2
  go_enter Tryd.func120, Tryd.ntmps120
  by_cases hnm : n = m
  · subst hnm
    go_wp2
    go_loopw [13] (fun i wr => ∃ k : Nat, k ≤ n ∧ i = .int .i64 k ∧ Hid (xs.take k = ys.take k) ∧ Hid (Below w.heap.size w wr))
      (fun i _ => n - (intOf i).toNat)
    case atStart => exact ⟨0, by omega, rfl, Lib.hid (by simp), Lib.hid (Below.refl _ _)⟩
    case round =>
      obtain ⟨k, hk, rfl, HT, HB⟩ := hrel
      by_cases hlt : k < n
      · obtain ⟨b1, o1, rfl, hc1⟩ := (Hx.out.below HB.out).cells (by have := H1.out; omega)
        obtain ⟨b2, o2, rfl, hc2⟩ := (Hy.out.below HB.out).cells (by have := H2.out; omega)
        have hc1 := hc1 k (by have := H1.out; omega)
        have hc2 := hc2 k (by have := H2.out; omega)
        obtain ⟨u, hu⟩ : ∃ u, u = xs.getD k 0 := ⟨_, rfl⟩
        obtain ⟨v, hv⟩ : ∃ v, v = ys.getD k 0 := ⟨_, rfl⟩
        rw [← hu] at hc1
        rw [← hv] at hc2
        have Hu := Lib.hid hu
        have Hv := Lib.hid hv
        clear hu hv
        by_cases huv : u = v
        · subst huv
          go_wp2
          go_quiet (fail)
          go_wp2
          go_roundw
          case rel => exact ⟨k + 1, by omega, by go_num, Lib.hid (take_eq_succ (by have := H1.out; omega) (by rw [← H1.out, ← H2.out]) HT.out (Hu.out.symm.trans Hv.out)), Lib.hid (below_drewN HB.out _)⟩
          case measure => simp [intOf]; omega
        · have hne : xs ≠ ys := take_ne (k := k) (by have := H1.out; omega) (by rw [← H1.out, ← H2.out]) (by rw [← Hu.out, ← Hv.out]; exact huv)
          have Hne := Lib.hid hne
          clear hne
          go_wp2
          go_quiet (fail)
          go_wp2
          go_ret
          exact ⟨by simp [Hne.out], below_drewN HB.out _⟩
      · obtain rfl : k = n := by omega
        have he : xs = ys := by
          have := HT.out
          rwa [List.take_of_length_le (by rw [← H1.out]; omega), List.take_of_length_le (by rw [← H2.out]; omega)] at this
        have He := Lib.hid he
        clear he
        go_wp2
        go_ret
        exact ⟨by simp [He.out], HB.out⟩
  · have hne : xs ≠ ys := fun e => hnm (by rw [H1.out, H2.out, e])
    have Hne := Lib.hid hne
    clear hne
    go_wp2
    go_ret
    exact ⟨by simp [Hne.out], Below.refl _ _⟩
/-- A sealed text. -/
def gcmBox (K nonce plain head : List Int) : List Int := hidAll K nonce plain ++ gcmTag K nonce (hidAll K nonce plain) head
theorem gcmBox_len (K nonce plain head : List Int) : (gcmBox K nonce plain head).length = plain.length + 16 := by rw [gcmBox, List.length_append, hidAll_len, gcmTag_len]
theorem IsCnt.make {w : World} {cb : Nat} {K nonce : List Int} (hC : IsC w cb K) (hK : K.length = 16) (hn : nonce.length = 12) : IsCnt ((w.alloc (.cells #[.pointer (some ⟨cb, 0, none⟩)] 53)).alloc (.cells (w8 nonce) 56)) (w.heap.size + 1) w.heap.size cb K nonce :=
  ⟨new_at (by simp), blk_alloc (new_at rfl) _, hC.below (((Below.refl _ _).alloc (Nat.le_refl _) _).alloc (by simp) _), hn, hK⟩
set_option maxHeartbeats 1000000 in
theorem gseal_any (cb : Nat) (K nonce : List Int) (hK : K.length = 16) (hn12 : nonce.length = 12) (pA hA : Option Addr) (pn pc hn hc : Nat) (plain head : List Int) (h1 : pn = plain.length) (h2 : hn = head.length) (h3 : pn ≤ 65536) (h4 : hn ≤ 65536) (w : World) (hC : IsC w cb K) (hr1 : Rd w pA pc plain) (hr2 : Rd w hA hc head) :
    Calls Tryd.prog 23 #[.pointer (some ⟨cb, 0, none⟩), .agg (w8 nonce), .slice pA pn pc, .slice hA hn hc] w fun e w' => ∃ v, e = .returned (.tuple #[v, .int .i64 0]) ∧ Own w' w.heap.size v (gcmBox K nonce plain head) ∧ Below w.heap.size w w' := by
  have HC := Lib.hid hC
  have Hr1 := Lib.hid hr1
  have Hr2 := Lib.hid hr2
  have H1 := Lib.hid h1
  have H2 := Lib.hid h2
  have Hk := Lib.hid hK
  have Hn := Lib.hid hn12
  have Hask : Hid (∀ W, Calls Tryd.prog 48 #[.pointer (some ⟨cb, 0, none⟩), .slice pA pn pc, .slice hA hn hc, .int .i64 65536] W fun e w' => e = .returned (.int .i64 0) ∧ W = w') := Lib.hid (fun W => asked_gcm cb pA hA pn pc hn hc 65536 W h3 h4)
  have Hsz : Hid ((Tryd.prog.info? 56).map (·.size) = some (w8 nonce).size) := Lib.hid (by rw [w8_size, hn12]; kernel_rfl)
  clear hC hr1 hr2 h1 h2 hK hn12
  obtain ⟨w1, hw1⟩ : ∃ w1, w1 = w.alloc (.cells (w8 nonce) 56) := ⟨_, rfl⟩
  obtain ⟨w2, hw2⟩ : ∃ w2, w2 = (w1.alloc (.cells #[.pointer (some ⟨cb, 0, none⟩)] 53)).alloc (.cells (w8 nonce) 56) := ⟨_, rfl⟩
  have hB1 : Below w.heap.size w w1 := by rw [hw1]; exact (Below.refl _ _).alloc (Nat.le_refl _) _
  have hB2 : Below w.heap.size w w2 := by rw [hw2]; exact (hB1.alloc hB1.size _).alloc (by have := hB1.size; simp; omega) _
  have hc2 : IsCnt w2 (w1.heap.size + 1) w1.heap.size cb K nonce := by rw [hw2]; exact IsCnt.make (HC.out.below hB1) Hk.out Hn.out
  have Hw1 := Lib.hid hw1
  have HB2 := Lib.hid hB2
  have Hc2 := Lib.hid hc2
  have Hw2 := Lib.hid hw2
  have Hbx : Hid (w1.heap[w.heap.size]? = some (.cells (w8 nonce) 56 (0, 0))) := Lib.hid (by rw [hw1]; exact new_at rfl)
  clear hB2 hc2 hw2 hB1 hw1
  obtain ⟨nb, hnb⟩ : ∃ nb, nb = w1.heap.size + 1 := ⟨_, rfl⟩
  obtain ⟨xb, hxb⟩ : ∃ xb, xb = w1.heap.size := ⟨_, rfl⟩
  have Hct : Hid (Calls Tryd.prog 49 #[.pointer (some ⟨cb, 0, none⟩), .agg (w8 nonce)] w1 fun e w' => e = .returned (.func (.func 73) #[] #[.pointer (some ⟨nb, 0, none⟩), .pointer (some ⟨xb, 0, none⟩)]) ∧ w2 = w') := Lib.hid (by
    rw [Hw2.out, hnb, hxb]; exact (counted_any cb nonce w1).mono (fun _ _ h => ⟨h.1, h.2.symm⟩))
  rw [← hnb, ← hxb] at Hc2
  clear Hw2 hnb hxb
  go_enter Tryd.func23, Tryd.ntmps23
  go_upto_region 4 with (go_at_call 48; go_must (refine (Hask.out _).mono ?_; rintro e w9 ⟨rfl, rfl⟩))
  rw [← Hw1.out]
  clear Hw1 Hask
  have Hhd : Hid (Calls Tryd.prog 50 #[.func (.func 73) #[] #[.pointer (some ⟨nb, 0, none⟩), .pointer (some ⟨xb, 0, none⟩)], .slice pA pn pc] w2 fun e w' => ∃ A c, e = .returned (.slice A pn c) ∧ Own w' w2.heap.size (.slice A pn c) (hidAll K nonce plain) ∧ Below w2.heap.size w2 w') :=
    Lib.hid (hide_any nb xb cb K nonce pA pn pc plain H1.out (by omega) w2 Hc2.out (Hr1.out.below HB2.out))
  obtain ⟨sent, hsent⟩ : ∃ sent, sent = hidAll K nonce plain := ⟨_, rfl⟩
  have hsl : sent.length = pn := by rw [hsent, hidAll_len, H1.out]
  obtain ⟨tg, htg⟩ : ∃ tg, tg = gcmTag K nonce sent head := ⟨_, rfl⟩
  have htl : tg.length = 16 := by rw [htg]; exact gcmTag_len _ _ _ _
  have hbx : gcmBox K nonce plain head = sent ++ tg := by rw [gcmBox, ← hsent, ← htg]
  rw [← hsent] at Hhd
  have Htag : Hid (∀ W A c, Rd W A c sent → Below w2.heap.size w2 W → Calls Tryd.prog 51 #[.pointer (some ⟨cb, 0, none⟩), .func (.func 73) #[] #[.pointer (some ⟨nb, 0, none⟩), .pointer (some ⟨xb, 0, none⟩)], .slice A pn c, .slice hA hn hc] W fun e w' => ∃ A c, e = .returned (.slice A 16 c) ∧ Rd w' A c tg ∧ (∀ a, A = some a → W.heap.size ≤ a.block) ∧ Below W.heap.size W w') := Lib.hid (fun W A c h hb => by
    rw [htg]
    exact tag_any nb xb cb K nonce A hA pn c hn hc sent head hsl.symm H2.out (by omega) (by omega) W (Hc2.out.below hb) h ((Hr2.out.below HB2.out).below hb))
  have Hsl := Lib.hid hsl
  have Htl := Lib.hid htl
  have Hbxe := Lib.hid hbx
  clear hsent hsl htg htl hbx
  go_wp2_with (first
    | (with_reducible refine wpList_load_row rfl 56 _ rfl w.heap.size rfl _ _ (0, 0) _ Hbx.out Tryd.underlying56 rfl Hsz.out ?_)
    | (go_at_call 49; go_must (refine Hct.out.mono ?_; rintro e w9 ⟨rfl, rfl⟩))
    | (go_at_call 50; go_must (refine Hhd.out.mono ?_; rintro e w3 ⟨A3, c3, rfl, ho3, hb3⟩; have Ho3 := Lib.hid ho3; have Hb3 := Lib.hid hb3; have Hrd3 : Hid (Rd w3 A3 c3 sent) := Lib.hid (by obtain ⟨A9, c9, e, hr, _⟩ := ho3.rd; injection e with e1 e2 e3; subst e1 e3; exact hr); clear ho3 hb3))
    | (go_at_call 51; go_must (refine (Htag.out _ _ _ Hrd3.out Hb3.out).mono ?_; rintro e w4 ⟨A4, c4, rfl, hr4, _, hb4⟩; have Hr4 := Lib.hid hr4; have Hb4 := Lib.hid hb4; have Ho4 := Lib.hid (Ho3.out.below hb4); clear hr4 hb4))
    | (at_builtin; go_must (refine app_rd rfl _ _ rfl w2.heap.size (.slice A3 pn c3) sent rfl Ho4.out _ _ _ tg rfl Htl.out.symm Hr4.out (pn + 16) (by rw [Hsl.out, Htl.out]) (by rw [Hsl.out, Htl.out]; omega) (Nat.le_trans Hb3.out.size Hb4.out.size) ?_; intro A5 c5 wz ho hg hat; have Ho5 := Lib.hid ho; have Hg5 := Lib.hid hg; clear ho hg hat)))
  rw [Hbxe.out]
  go_ret2
  have hws : w.heap.size ≤ w2.heap.size := HB2.out.size
  refine ⟨_, rfl, Ho5.out.lower hws, ((HB2.out.trans ((Hb3.out.trans (Hb4.out.mono Hb3.out.size)).mono hws))).grown Hg5.out ?_ ?_⟩
  · exact Nat.le_trans hws (Nat.le_trans Hb3.out.size Hb4.out.size)
  · intro g e
    exact Nat.le_trans hws (Ho4.out.lt g e).1
section
variable {md : Region.Mode} {ops : Array Oper} {P : Program} {Q : Exit → Act → World → Prop} {S : World → Prop} {B ZS : List Nat} {Ke : Act → World → Prop}
/-- 'seg_take', of an operation whose guard is open. -/
theorem seg_take_g (i : Nat) {o : Oper} (v : Value) {n : Nat} {listed : Array Bool} {a : Act} {w : World} (hi : ops[i]? = some o) (hs : Region.noSelect ops = true) (hf : Region.free md ops listed i = true) (hr : (Region.ready md ops listed).contains i = true) (hc : closedB md ops listed = true) (hZ : ZS.all (fun z => (marks md ops i ops.size).getD z false && z != i) = true) (hb : B.contains i = false)
    (hQ : ∀ c a w, Q (.panic c) (a.put o.dst v) w → Q (.panic c) a w) (hg : Region.wanted o (yielded ops a.tmps) = true) (hy : ∀ w, (execOp a.eval o).run P w = .ok (.value v) w)
    (h : AnyB P md ops Q S B ZS Ke n (listed.setIfInBounds i true) (a.put o.dst v) w) : AnyB P md ops Q S B ZS Ke (n + 1) listed a w :=
  anyB_first (T := fun _ => True) (m := 0) hZ hi (Region.noSelect_spec hs) hQ n listed a w (closed_of hc) (fun _ _ _ _ => .inl fun _ _ => trivial) (Region.free_spec hi hf) (by simpa using hr) (.inl ⟨hg, fun w _ => hy w⟩) trivial (fun h => by rw [hb] at h; cases h) h
end
set_option maxHeartbeats 1000000 in
theorem gopen_any (cb : Nat) (K nonce : List Int) (hK : K.length = 16) (hn12 : nonce.length = 12) (bA hA : Option Addr) (bn bc hn hc n : Nat) (box head : List Int) (h1 : bn = box.length) (h2 : hn = head.length) (h3 : bn ≤ 65552) (h4 : hn ≤ 65536) (h5 : bn = n + 16) (w : World) (hC : IsC w cb K) (hr1 : Rd w bA bc box) (hr2 : Rd w hA hc head) :
    Calls Tryd.prog 119 #[.pointer (some ⟨cb, 0, none⟩), .agg (w8 nonce), .slice bA bn bc, .slice hA hn hc] w fun e w' => ∃ v x, e = .returned (.tuple #[v, .int .i64 x]) ∧
      (gcmTag K nonce (box.take n) head = box.drop n → x = 0 ∧ Own w' w.heap.size v (hidAll K nonce (box.take n))) ∧ (gcmTag K nonce (box.take n) head ≠ box.drop n → x = 80 ∧ v = .slice none 0 0) ∧ Below w.heap.size w w' := by
  have HC := Lib.hid hC
  have Hr1 := Lib.hid hr1
  have Hr2 := Lib.hid hr2
  have H1 := Lib.hid h1
  have H2 := Lib.hid h2
  have Hk := Lib.hid hK
  have Hn := Lib.hid hn12
  have Hask : Hid (∀ W, Calls Tryd.prog 48 #[.pointer (some ⟨cb, 0, none⟩), .slice bA bn bc, .slice hA hn hc, .int .i64 65552] W fun e w' => e = .returned (.int .i64 0) ∧ W = w') := Lib.hid (fun W => asked_gcm cb bA hA bn bc hn hc 65552 W h3 h4)
  have Hsz : Hid ((Tryd.prog.info? 56).map (·.size) = some (w8 nonce).size) := Lib.hid (by rw [w8_size, hn12]; kernel_rfl)
  have hbc : bn ≤ bc := by rw [h1]; exact hr1.le
  have hlo := cut_hi bA bn bc n (by omega) .i64
  obtain ⟨A2, hhi0, hA2, _⟩ := cut_lo bA bn bc n (by omega)
  have hhi := hhi0 .i64
  clear hhi0
  rw [show bn - n = 16 by omega] at hhi
  have hdec : decide ((n : Int) < 0) = false := by simp
  obtain ⟨c2, hc2⟩ : ∃ c2, c2 = bc - n := ⟨_, rfl⟩
  rw [← hc2] at hhi hA2
  have hnn : (bn : Int) - 16 = (n : Int) := by omega
  have hnb : n ≤ 65536 := by omega
  have HA2 : Hid (∀ W, Rd W bA bc box → Rd W A2 c2 (box.drop n)) := Lib.hid (fun W h => hA2 W box (by omega) h)
  have Hdl : Hid ((box.drop n).length = 16) := Lib.hid (by rw [List.length_drop]; omega)
  have Htl : Hid ((box.take n).length = n) := Lib.hid (by rw [List.length_take]; omega)
  clear hC hr1 hr2 h1 h2 hK hn12 h5 hA2 hc2 hbc
  obtain ⟨w1, hw1⟩ : ∃ w1, w1 = w.alloc (.cells (w8 nonce) 56) := ⟨_, rfl⟩
  obtain ⟨w2, hw2⟩ : ∃ w2, w2 = (w1.alloc (.cells #[.pointer (some ⟨cb, 0, none⟩)] 53)).alloc (.cells (w8 nonce) 56) := ⟨_, rfl⟩
  have hB1 : Below w.heap.size w w1 := by rw [hw1]; exact (Below.refl _ _).alloc (Nat.le_refl _) _
  have hB2 : Below w.heap.size w w2 := by rw [hw2]; exact (hB1.alloc hB1.size _).alloc (by have := hB1.size; simp; omega) _
  have hcn2 : IsCnt w2 (w1.heap.size + 1) w1.heap.size cb K nonce := by rw [hw2]; exact IsCnt.make (HC.out.below hB1) Hk.out Hn.out
  have Hw1 := Lib.hid hw1
  have HB2 := Lib.hid hB2
  have Hc2 := Lib.hid hcn2
  have Hw2 := Lib.hid hw2
  have Hbx : Hid (w1.heap[w.heap.size]? = some (.cells (w8 nonce) 56 (0, 0))) := Lib.hid (by rw [hw1]; exact new_at rfl)
  clear hB2 hcn2 hw2 hB1 hw1
  obtain ⟨nb, hnb2⟩ : ∃ nb, nb = w1.heap.size + 1 := ⟨_, rfl⟩
  obtain ⟨xb, hxb⟩ : ∃ xb, xb = w1.heap.size := ⟨_, rfl⟩
  have Hct : Hid (Calls Tryd.prog 49 #[.pointer (some ⟨cb, 0, none⟩), .agg (w8 nonce)] w1 fun e w' => e = .returned (.func (.func 73) #[] #[.pointer (some ⟨nb, 0, none⟩), .pointer (some ⟨xb, 0, none⟩)]) ∧ w2 = w') := Lib.hid (by
    rw [Hw2.out, hnb2, hxb]; exact (counted_any cb nonce w1).mono (fun _ _ h => ⟨h.1, h.2.symm⟩))
  rw [← hnb2, ← hxb] at Hc2
  clear Hw2 hnb2 hxb
  obtain ⟨tg, htg⟩ : ∃ tg, tg = gcmTag K nonce (box.take n) head := ⟨_, rfl⟩
  have htl : tg.length = 16 := by rw [htg]; exact gcmTag_len _ _ _ _
  obtain ⟨rs, hrs⟩ : ∃ rs, rs = box.drop n := ⟨_, rfl⟩
  obtain ⟨bx, hbx⟩ : ∃ bx, bx = box.take n := ⟨_, rfl⟩
  rw [← htg, ← hrs, ← hbx]
  have Htg := Lib.hid htg
  have Htgl := Lib.hid htl
  rw [← hrs] at HA2 Hdl
  rw [← hbx] at Htg Htl
  have Hr1t : Hid (Rd w bA bc bx) := Lib.hid (by rw [hbx]; exact Hr1.out.take n (by rw [← H1.out]; omega))
  have Hrs := Lib.hid hrs
  clear htg htl hrs hbx
  have Htag : Hid (∀ W, Below w2.heap.size w2 W → Calls Tryd.prog 51 #[.pointer (some ⟨cb, 0, none⟩), .func (.func 73) #[] #[.pointer (some ⟨nb, 0, none⟩), .pointer (some ⟨xb, 0, none⟩)], .slice bA n bc, .slice hA hn hc] W fun e w' => ∃ A c, e = .returned (.slice A 16 c) ∧ Rd w' A c tg ∧ (∀ a, A = some a → W.heap.size ≤ a.block) ∧ Below W.heap.size W w') := Lib.hid (fun W hb => by
    rw [Htg.out]
    exact tag_any nb xb cb K nonce bA hA n bc hn hc bx head Htl.out.symm H2.out (by omega) (by omega) W (Hc2.out.below hb) ((Hr1t.out.below HB2.out).below hb) ((Hr2.out.below HB2.out).below hb))
  have Hhd : Hid (∀ W, Below w2.heap.size w2 W → Calls Tryd.prog 50 #[.func (.func 73) #[] #[.pointer (some ⟨nb, 0, none⟩), .pointer (some ⟨xb, 0, none⟩)], .slice bA n bc] W fun e w' => ∃ A c, e = .returned (.slice A n c) ∧ Own w' W.heap.size (.slice A n c) (hidAll K nonce bx) ∧ Below W.heap.size W w') :=
    Lib.hid (fun W hb => hide_any nb xb cb K nonce bA n bc bx Htl.out.symm (by omega) W (Hc2.out.below hb) ((Hr1t.out.below HB2.out).below hb))
  go_enter Tryd.func119, Tryd.ntmps119
  go_upto_region 4 with (go_at_call 48; go_must (refine (Hask.out _).mono ?_; rintro e w9 ⟨rfl, rfl⟩))
  rw [← Hw1.out]
  clear Hw1 Hask
  go_upto_region 6 with (first
    | (with_reducible refine wpList_load_row rfl 56 _ rfl w.heap.size rfl _ _ (0, 0) _ Hbx.out Tryd.underlying56 rfl Hsz.out ?_)
    | (go_at_call 49; go_must (refine Hct.out.mono ?_; rintro e w9 ⟨rfl, rfl⟩)))
  refine seg_begin (fun _ => True) [] (by kernel_rfl) ?_
  have HBd : Hid (Below w2.heap.size w2 w2.drew) := Lib.hid (Below.refl _ _).drew
  generalize w2.drew = wd at *
  (refine seg_take 0 ?_ rfl (by kernel_rfl) (by kernel_rfl) (by kernel_rfl) (by kernel_rfl) (by kernel_rfl) rfl (fun _ _ _ h => h) rfl ?_ ?_; rotate_left; (focus (intro w; go_simp; try with_reducible rfl)); (try simp only [List.getElem_toArray, List.getElem_cons_zero, List.getElem_cons_succ, Act.put, List.setIfInBounds_toArray, List.set_cons_zero, List.set_cons_succ]); refine seg_take 1 ?_ rfl (by kernel_rfl) (by kernel_rfl) (by kernel_rfl) (by kernel_rfl) (by kernel_rfl) rfl (fun _ _ _ h => h) rfl ?_ ?_; rotate_left; (focus (intro w; go_simp; try with_reducible rfl)); (try simp only [List.getElem_toArray, List.getElem_cons_zero, List.getElem_cons_succ, Act.put, List.setIfInBounds_toArray, List.set_cons_zero, List.set_cons_succ]); refine seg_take 2 ?_ rfl (by kernel_rfl) (by kernel_rfl) (by kernel_rfl) (by kernel_rfl) (by kernel_rfl) rfl (fun _ _ _ h => h) rfl ?_ ?_; rotate_left; (focus (intro w; go_simp; try with_reducible rfl)); (try simp only [List.getElem_toArray, List.getElem_cons_zero, List.getElem_cons_succ, Act.put, List.setIfInBounds_toArray, List.set_cons_zero, List.set_cons_succ]))
  refine seg_take_g 3 (.pointer (some ⟨cb, 0, none⟩)) rfl (by kernel_rfl) (by kernel_rfl) (by kernel_rfl) (by kernel_rfl) rfl (by kernel_rfl) (fun _ _ _ h => h) rfl (fun w => by unfold execOp; go_simp) ?_
  simp only [List.getElem_toArray, List.getElem_cons_zero, List.getElem_cons_succ, Act.put, List.setIfInBounds_toArray, List.set_cons_zero, List.set_cons_succ]
  refine seg_take_g 4 (.func (.func 73) #[] #[.pointer (some ⟨nb, 0, none⟩), .pointer (some ⟨xb, 0, none⟩)]) rfl (by kernel_rfl) (by kernel_rfl) (by kernel_rfl) (by kernel_rfl) rfl (by kernel_rfl) (fun _ _ _ h => h) rfl (fun w => by unfold execOp; go_simp) ?_
  simp only [List.getElem_toArray, List.getElem_cons_zero, List.getElem_cons_succ, Act.put, List.setIfInBounds_toArray, List.set_cons_zero, List.set_cons_succ]
  refine seg_take_g 5 (.slice bA bn bc) rfl (by kernel_rfl) (by kernel_rfl) (by kernel_rfl) (by kernel_rfl) rfl (by kernel_rfl) (fun _ _ _ h => h) rfl (fun w => by unfold execOp; go_simp) ?_
  simp only [List.getElem_toArray, List.getElem_cons_zero, List.getElem_cons_succ, Act.put, List.setIfInBounds_toArray, List.set_cons_zero, List.set_cons_succ]
  refine seg_take_g 6 (.int .i64 (n : Int)) rfl (by kernel_rfl) (by kernel_rfl) (by kernel_rfl) (by kernel_rfl) rfl (by kernel_rfl) (fun _ _ _ h => h) rfl (fun w => by unfold execOp; go_simp) ?_
  simp only [List.getElem_toArray, List.getElem_cons_zero, List.getElem_cons_succ, Act.put, List.setIfInBounds_toArray, List.set_cons_zero, List.set_cons_succ]
  refine seg_take_g 7 (.slice bA n bc) rfl (by kernel_rfl) (by kernel_rfl) (by kernel_rfl) (by kernel_rfl) rfl (by kernel_rfl) (fun _ _ _ h => h) rfl (fun w => by unfold execOp; go_simp) ?_
  simp only [List.getElem_toArray, List.getElem_cons_zero, List.getElem_cons_succ, Act.put, List.setIfInBounds_toArray, List.set_cons_zero, List.set_cons_succ]
  refine seg_take_g 8 (.slice hA hn hc) rfl (by kernel_rfl) (by kernel_rfl) (by kernel_rfl) (by kernel_rfl) rfl (by kernel_rfl) (fun _ _ _ h => h) rfl (fun w => by unfold execOp; go_simp) ?_
  simp only [List.getElem_toArray, List.getElem_cons_zero, List.getElem_cons_succ, Act.put, List.setIfInBounds_toArray, List.set_cons_zero, List.set_cons_succ]
  refine seg_take_g 10 (.slice bA bn bc) rfl (by kernel_rfl) (by kernel_rfl) (by kernel_rfl) (by kernel_rfl) rfl (by kernel_rfl) (fun _ _ _ h => h) rfl (fun w => by unfold execOp; go_simp) ?_
  simp only [List.getElem_toArray, List.getElem_cons_zero, List.getElem_cons_succ, Act.put, List.setIfInBounds_toArray, List.set_cons_zero, List.set_cons_succ]
  refine seg_take_g 11 (.int .i64 (n : Int)) rfl (by kernel_rfl) (by kernel_rfl) (by kernel_rfl) (by kernel_rfl) rfl (by kernel_rfl) (fun _ _ _ h => h) rfl (fun w => by unfold execOp; go_simp) ?_
  simp only [List.getElem_toArray, List.getElem_cons_zero, List.getElem_cons_succ, Act.put, List.setIfInBounds_toArray, List.set_cons_zero, List.set_cons_succ]
  refine seg_take_g 12 (.slice A2 16 c2) rfl (by kernel_rfl) (by kernel_rfl) (by kernel_rfl) (by kernel_rfl) rfl (by kernel_rfl) (fun _ _ _ h => h) rfl (fun w => by unfold execOp; go_simp) ?_
  simp only [List.getElem_toArray, List.getElem_cons_zero, List.getElem_cons_succ, Act.put, List.setIfInBounds_toArray, List.set_cons_zero, List.set_cons_succ]
  (refine seg_rest [9, 13, 14, 15] _ _ _ (by kernel_rfl) ?_ _ rfl)
  (refine segs_out rfl ?_; (simp only [pick, List.getElem?_toArray, List.getElem_toArray, List.getElem_cons_zero, List.getElem_cons_succ, List.getElem?_cons_zero, List.getElem?_cons_succ, Act.put, List.setIfInBounds_toArray, List.set_cons_zero, List.set_cons_succ]))
  have Hrd2 : Hid (∀ W, Below w2.heap.size w2 W → Rd W A2 c2 rs) := Lib.hid (fun W hb => HA2.out W ((Hr1.out.below HB2.out).below hb))
  have hws : w.heap.size ≤ w2.heap.size := HB2.out.size
  by_cases heq : tg = rs
  · have hde : decide (tg = rs) = true := by simp [heq]
    go_wp2_with (first
      | (go_at_call 51; go_must (refine (Htag.out _ HBd.out).mono ?_; rintro e w4 ⟨A4, c4, rfl, hr4, _, hb4⟩; have Hr4 := Lib.hid hr4; have HB4 : Hid (Below w2.heap.size w2 w4) := Lib.hid (HBd.out.trans (hb4.mono HBd.out.size)); clear hr4 hb4))
      | (go_at_call 120; go_must (refine (equal_any A4 A2 16 16 c4 c2 tg rs Htgl.out.symm Hdl.out.symm _ Hr4.out (Hrd2.out _ HB4.out) (by omega) (by omega)).mono ?_; rw [hde]; rintro e w5 ⟨rfl, hb5⟩; have HB5 : Hid (Below w2.heap.size w2 w5) := Lib.hid (HB4.out.trans (hb5.mono HB4.out.size)); clear hb5))
      | (go_at_call 50; go_must (refine (Hhd.out _ HB5.out).mono ?_; rintro e w6 ⟨A6, c6, rfl, ho6, hb6⟩; have Ho6 := Lib.hid ho6; have HB6 := Lib.hid hb6; clear ho6 hb6)))
    go_ret2
    refine ⟨_, _, rfl, fun _ => ⟨rfl, Ho6.out.lower (Nat.le_trans hws HB5.out.size)⟩, fun h => absurd heq h, HB2.out.trans ((HB5.out.trans (HB6.out.mono HB5.out.size)).mono hws)⟩
  · have hde : decide (tg = rs) = false := by simp [heq]
    go_wp2_with (first
      | (go_at_call 51; go_must (refine (Htag.out _ HBd.out).mono ?_; rintro e w4 ⟨A4, c4, rfl, hr4, _, hb4⟩; have Hr4 := Lib.hid hr4; have HB4 : Hid (Below w2.heap.size w2 w4) := Lib.hid (HBd.out.trans (hb4.mono HBd.out.size)); clear hr4 hb4))
      | (go_at_call 120; go_must (refine (equal_any A4 A2 16 16 c4 c2 tg rs Htgl.out.symm Hdl.out.symm _ Hr4.out (Hrd2.out _ HB4.out) (by omega) (by omega)).mono ?_; rw [hde]; rintro e w5 ⟨rfl, hb5⟩; have HB5 : Hid (Below w2.heap.size w2 w5) := Lib.hid (HB4.out.trans (hb5.mono HB4.out.size)); clear hb5)))
    go_ret2
    refine ⟨_, _, rfl, fun h => absurd h heq, fun _ => ⟨rfl, rfl⟩, HB2.out.trans (HB5.out.mono hws)⟩
end Go.Proofs.YtiboflejmnjdhaaDoor
