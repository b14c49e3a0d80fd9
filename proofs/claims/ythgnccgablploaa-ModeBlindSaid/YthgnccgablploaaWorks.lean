/- Helpers of the laws: works. -/
import Derived.Test.YthgnccgablploaaLaw6
set_option linter.unusedVariables false
set_option linter.unusedSimpArgs false
set_option maxRecDepth 100000
namespace Go.Proofs.Ythgnccgablploaa
open Go Go.RowKit Go.Conc
set_option maxHeartbeats 4000000 in
theorem works_any (F R : List Int) (w : World) (hTb : Tabs F R w) :
    Calls Try.prog 11 #[] w fun e w' => e = .returned (.bool true) ∧ Below w.heap.size w w' := by
  have HTb := Lib.hid hTb
  clear hTb
  have hmk := make31
  go_enter Try.func11, Try.ntmps11
  go_upto_region 2 with (first
    | (go_at_call 21; go_must (refine (up_any 1 64 w (by omega)).mono ?_; rintro e w1 ⟨A1, c1, rfl, h1, h2⟩; obtain ⟨A2, c2, e1, h3, -⟩ := h1.rd; cases e1; have U1 := Lib.hid h3; have U2 := Lib.hid h2; clear h1 h2 h3))
    | (go_at_call 6; go_must (refine (new_tp F R A1 64 c1 (upL 1 64) w1 (upL_len _ _).symm U1.out (by rw [upL_len]; omega)).mono ?_; rintro e w2 ⟨tb, rfl, h1, h2, h3⟩; have N1 := Lib.hid h1; have N2 := Lib.hid h2; have N3 := Lib.hid h3; clear h1 h2 h3))
    | (go_at_call 5; go_must (have hB := U2.out.trans (N3.out.mono U2.out.size); refine (wm_ideal F R w tb (upL 1 64) w2 (HTb.out.below hB) hB N1.out (Nat.le_trans U2.out.size N2.out) (by rw [upL_len]; omega)).mono ?_; rintro e w3 ⟨mb, rfl, h1, h2⟩; have HW := Lib.hid h1; clear hB h1 h2 N1 N2 N3 U1 U2)))
  go_upto_region 3 with (first
    | (go_at_call 22; go_must (refine (real_err _ _ _ _ (by omega)).mono ?_; rintro e w4 ⟨rfl, rfl⟩)))
  have HWx := Lib.hid (HW.out.step ((Below.refl _ w3).alloc (Nat.le_refl _) (.cells m31 5)))
  clear HW
  generalize World.alloc w3 _ = w4 at *
  have HW := HWx
  clear HWx
  go_upto_region 5 with (first
    | (go_at_call 21; go_must ((first | (have hx := HWs2; clear hx; refine (up_any 1 32 _ (by omega)).mono ?_) | (have hx := HWs1; clear hx; refine (up_any 33 32 _ (by omega)).mono ?_) | refine (up_any 1 32 _ (by omega)).mono ?_); rintro e w1 ⟨A1, c1, rfl, h1, h2⟩; obtain ⟨A2, c2, e1, h3, -⟩ := h1.rd; cases e1; have UB := Lib.hid h3; (first | replace HWs2 := Lib.hid (HWs2.out.step h2) | replace HWs1 := Lib.hid (HWs1.out.step h2) | replace HW := Lib.hid (HW.out.step h2)); clear h1 h2 h3))
    | (go_at_call 23; go_must (first
      | (refine (named_w2 F R w mb tb _ _ _ HWs2.out UB.out).mono ?_; rintro e wn ⟨rfl, h1⟩; replace HWs2 := Lib.hid h1; clear h1 UB)
      | (refine (named_w1 F R w mb tb _ _ _ HWs1.out UB.out).mono ?_; rintro e wn ⟨rfl, h1⟩; have HWs2 := Lib.hid h1; clear h1 UB HWs1)
      | (refine (named_w0 F R w mb tb _ _ _ HW.out UB.out).mono ?_; rintro e wn ⟨rfl, h1⟩; have HWs1 := Lib.hid h1; clear h1 UB HW))))
  go_wp2
  go_loopw [5, 6] (fun v i wr => ∃ (k : Nat) (A : Option Addr) (c : Nat), k ≤ 40 ∧ i = .int .i64 k ∧ v = .slice A k c ∧ Hid (Own wr wn.heap.size (.slice A k c) (List.replicate k 170)) ∧ Below wn.heap.size wn wr) (fun _ i _ => 40 - (intOf i).toNat)
  case atStart => exact ⟨0, none, 0, by omega, rfl, rfl, Lib.hid (Own.nil _ _), Below.refl _ _⟩
  case round =>
    obtain ⟨k, A, c, hk, rfl, rfl, Ho, hB⟩ := hrel
    by_cases hlt : k < 40
    · go_wp2_with (at_builtin; go_must (refine app_rd rfl _ _ rfl wn.heap.size (.slice A k c) (List.replicate k 170) rfl (Ho.out.alloc _) _ _ _ [170] rfl rfl (Rd.new1 wr _ _ _) (k + 1) (by simp) (by simp; omega) (by simp; have := hB.size; omega) ?_; intro A' c' w1 ho hg hat; have Ho2 := Lib.hid ho; have Hg := Lib.hid hg; clear ho hg hat))
      go_roundw
      case rel => exact ⟨k + 1, A', c', by omega, by go_num, rfl, by rw [show List.replicate (k + 1) (170 : Int) = List.replicate k 170 ++ [170] from List.replicate_succ']; exact Ho2, (hB.alloc hB.size _).grown Hg.out (by simp; have := hB.size; omega) (fun j hj => (Ho.out.lt j hj).1)⟩
      case measure => simp [intOf]; omega
    · obtain rfl : k = 40 := by omega
      have HF := Lib.hid Ho.out.rd'
      have HW := Lib.hid (HWs2.out.step hB)
      clear Ho hB HWs2
      have hcs := conv_h
      go_wp2_with (first
        | (go_at_call 21; go_must (refine (up_any 9 12 wr (by omega)).mono ?_; rintro e wu ⟨Ap, cp, rfl, h1, h2⟩; have UP := Lib.hid h1.rd'; have UF := Lib.hid (HF.out.below h2); have HWu := Lib.hid (HW.out.step h2); clear h1 h2 HW HF))
        | (go_at_call 6; go_must (first
          | (have hx := HO2; clear hx; refine (new_nil F R _).mono ?_; rintro e wy ⟨tb3, rfl, h2⟩; have HWy := Lib.hid (HW8.out.step h2); have GB3 := Lib.hid (GB2.out.below h2); have GX3 := Lib.hid (GX2.out.below h2); have GF3 := Lib.hid (GF2.out.below h2); have GP3 := Lib.hid (GP2.out.below h2); clear h2 HW8 GB2 GX2 GF2 GP2 HO2)
          | (refine (wm_new F R w [] mb (upL 1 64) ws2 tb (upL 1 64) (upL 1 64) 0 0 A 40 c forty wu HWu.out (by simp) UF.out (by simp)).mono ?_; rintro e wv ⟨tb2, rfl, h1, -, h2⟩; have HT1 := Lib.hid h1; have VP := Lib.hid (UP.out.below h2); have VF := Lib.hid (UF.out.below h2); clear h1 h2 UP UF HWu)))
        | (go_at_call 8; go_must (first
          | (have hx := GB3; clear hx; refine (seal_256 F R w mb tb2 tb3 _ HWy.out).mono ?_; rintro e wz ⟨rfl, rfl⟩)
          | (refine (seal_w F R w mb tb2 _ 1 Ap cp _ (HT1.out.step (below_one wv _)) (Rd.new1 wv 104 _ _) (VP.out.alloc _)).mono ?_; rintro e w5 ⟨A5, c5, rfl, h1, h2, h3⟩; have HS5 := Lib.hid h2; have B5 := Lib.hid h1; have P5 := Lib.hid (h3.rd _ _ _ (VP.out.alloc _)); have F5 := Lib.hid (h3.rd _ _ _ (VF.out.alloc _)); clear h1 h2 h3 HT1 VP VF)))
        | (go_at_call 9; go_must (first
          | (have hx := HX1; clear hx; refine (open_w4 F R w mb tb2 _ 1 A5 c5 _ (HW7.out.step (below_one w7 _)) (Rd.new1 w7 104 _ _) (GB.out.alloc _)).mono ?_; rintro e w8 ⟨A8, n8, c8, rfl, h1⟩; have HW8 := Lib.hid ((HW7.out.step (below_one w7 _)).step h1); have GB2 := Lib.hid ((GB.out.alloc _).below h1); have GX2 := Lib.hid ((GX.out.alloc _).below h1); have GF2 := Lib.hid ((GF.out.alloc _).below h1); have GP2 := Lib.hid ((GP.out.alloc _).below h1); have HO2 := Lib.hid trivial; clear h1 GB GX GF GP HW7 HX1)
          | (refine (open_w3 F R w mb tb2 _ 1 A5 c5 _ (HS5.out.step (below_one w5 _)) (Rd.new1 w5 104 _ _) (B5.out.alloc _)).mono ?_; rintro e w7 ⟨A7, n7, c7, rfl, xs7, hn7, hr7, hs7, h1⟩; have HW7 := Lib.hid ((HS5.out.step (below_one w5 _)).step h1); have GB := Lib.hid ((B5.out.alloc _).below h1); have GX := Lib.hid hr7; have GF := Lib.hid ((F5.out.alloc _).below h1); have GP := Lib.hid ((P5.out.alloc _).below h1); have HX1 := Lib.hid hs7; have HXn := Lib.hid hn7; have HXs := Lib.hid hs7; clear h1 hr7 hs7 hn7 HS5 B5 F5 P5)))
        | (go_at_call 10; go_must (first
          | (have hx := HE1; clear hx; refine (eqb_true A7 Ap n7 c7 12 cp xs7 (upL 9 12) _ HXn.out GX3.out (upL_len _ _).symm GP3.out HXs.out).mono ?_; rintro e wq ⟨rfl, rfl⟩)
          | (refine (eqb_true A5 A 40 c5 40 c forty forty _ (by simp) GB3.out (by simp) GF3.out rfl).mono ?_; rintro e wq ⟨rfl, rfl⟩; have HE1 := Lib.hid trivial)))
        | (go_at_call 24; go_must (refine (len_w3 F R w mb tb2 _ HWy.out).mono ?_; rintro e wq ⟨rfl, rfl⟩)))
      go_ret
      exact ⟨rfl, HWy.out.below⟩
end Go.Proofs.Ythgnccgablploaa
