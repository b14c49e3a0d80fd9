/- ModeSealed: what Open answers. -/
import Derived.Test.YthgnccgablploaaSeal2
set_option linter.unusedVariables false
set_option linter.unusedSimpArgs false
set_option maxRecDepth 100000
namespace Go.Proofs.Ythgnccgablploaa
open Go Go.RowKit Go.Conc
/-- Open, where the table is that of the seals. -/
theorem open_last (F R : List Int) (w0 : World) (Pr : List Nat) (mb : Nat) (seed : List Int) (s : St) (tb : Nat) (tseed tleft : List Int) (tp tat : Nat) (l : List (Tx × Sl)) (ep : Int) (hA : Option Addr) (hn hc : Nat) (hd : List Int) (bA : Option Addr) (bn bc : Nat) (bs : List Int) (w : World) (hW : Wm F R w0 Pr mb seed s tb tseed tleft tp tat w) (hbx : s.bx = bxOf l) (hl28 : ∀ x ∈ l, 28 ≤ x.2.xs.length)
    (he0 : 0 ≤ ep) (he1 : ep ≤ 255) (hhn : hn = hd.length) (hh : Rd w hA hc hd) (hhm : hn ≤ 4096) (hbn : bn = bs.length) (hb : Rd w bA bc bs) (hbm : bn ≤ 4124) (was : Int) (hwas : was = lastJ l (ep, strOfNums hd, strOfNums bs) l.length) :
    Calls Try.prog 9 #[.pointer (some ⟨mb, 0, none⟩), .int .i64 ep, .slice hA hn hc, .slice bA bn bc] w fun e w' => ∃ A n c, e = .returned (.tuple #[.slice A n c, .int .i64 (if was < 0 then 80 else 0)]) ∧ ∃ xs : List Int, n = xs.length ∧ Rd w' A c xs ∧ (0 ≤ was → ∃ x, l[was.toNat]? = some x ∧ strOfNums xs = strOfNums (x.1.pl.take 100)) ∧ Below w.heap.size w w' := by
  have hg := mget_bxOf (ep, strOfNums hd, strOfNums bs) l
  rw [← hwas, ← hbx] at hg
  by_cases h28 : 28 ≤ bn
  · refine (wm_open F R w0 Pr mb seed s tb tseed tleft tp tat ep hA hn hc hd bA bn bc bs w hW he0 he1 hhn hh hhm hbn hb h28 hbm).mono ?_
    rintro e w' ⟨A, n, c, h1, xs, h2, h3, h4, h5⟩
    have hrng := lastJ_ge l (ep, strOfNums hd, strOfNums bs) l.length
    rw [← hwas] at hrng
    by_cases hw0 : was < 0
    · rw [if_pos hw0] at hg
      rw [hg] at h1
      exact ⟨A, n, c, by rw [h1, if_pos hw0]; rfl, xs, h2, h3, by omega, h5⟩
    · rw [if_neg hw0] at hg
      obtain ⟨x, hx⟩ : ∃ x, l[was.toNat]? = some x := ⟨l[was.toNat]'(by omega), List.getElem?_eq_getElem _⟩
      rw [hx, Option.map_some] at hg
      rw [hg] at h1
      exact ⟨A, n, c, by rw [h1, if_neg hw0]; rfl, xs, h2, h3, fun _ => ⟨x, hx, h4 _ hg⟩, h5⟩
  · have hsh := lastJ_short l (ep, strOfNums hd, strOfNums bs) bs rfl (by omega) hl28 l.length
    rw [← hwas] at hsh
    obtain ⟨own, town, g1, g2, g3, g4⟩ := hW.ex
    refine (open_short F R mb seed s own ep hA hn hc bA bn bc w g1 he0 he1 hhm (by omega)).mono ?_
    rintro e w' ⟨rfl, rfl⟩
    exact ⟨none, 0, 0, by rw [if_pos (by omega)], [], rfl, Rd.none_ _, by omega, Below.refl _ _⟩
theorem eqb_q (A B : Option Addr) (n c m d : Nat) (xs ys : List Int) (r : Bool) (w : World) (hn : n = xs.length) (hx : Rd w A c xs) (hm : m = ys.length) (hy : Rd w B d ys) (hr : r = decide (strOfNums xs = strOfNums ys)) :
    Calls Try.prog 10 #[.slice A n c, .slice B m d] w fun e w' => e = .returned (.bool r) ∧ w' = w := by
  rw [hr]
  refine (eqb_any A B n c m d xs ys w hn hx hm hy).mono ?_
  rintro e w' ⟨h1, h2⟩
  exact ⟨h1, h2.symm⟩
theorem field_plain (a b c : Value) (W : World) (hc : ∃ A n d, c = .slice A n d) : (Instr.field 32 (.agg #[a, b, c]) 2).run Try.prog W = .ok c W := by
  obtain ⟨A, n, d, rfl⟩ := hc
  kernel_rfl
end Go.Proofs.Ythgnccgablploaa
