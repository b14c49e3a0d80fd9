/- Helpers of the laws: EqBytes, Bring, CopyBytes. -/
import Derived.Test.YthgnccgablploaaMd3
set_option linter.unusedVariables false
set_option linter.unusedSimpArgs false
set_option maxRecDepth 100000
namespace Go.Proofs.Ythgnccgablploaa
open Go Go.RowKit Go.Conc
theorem eqb_any (A B : Option Addr) (n c m d : Nat) (xs ys : List Int) (w : World) (hn : n = xs.length) (hx : Rd w A c xs) (hm : m = ys.length) (hy : Rd w B d ys) :
    Calls Try.prog 10 #[.slice A n c, .slice B m d] w fun e w' => e = .returned (.bool (decide (strOfNums xs = strOfNums ys))) ∧ w = w' := by
  have h1 := conv_str hx n hn
  have h2 := conv_str hy m hm
  clear hx hy hn hm
  go_enter Try.func10, Try.ntmps10
  go_wp2
  go_ret
  refine ⟨?_, rfl⟩
  show Ending.returned (Value.bool ((strOfNums xs).toList == (strOfNums ys).toList)) = _
  rw [← beq_toListBytes, ba_beq]
theorem bring_any (i : Int) (w : World) (h0 : -9223372036854775808 ≤ i) (h1 : i ≤ 9223372036854775807) :
    Calls Try.prog 18 #[.int .i64 i, .int .i64 256] w fun e w' => e = .returned (.int .i64 (i % 256)) ∧ w = w' := by
  have hm := Int.tmod_eq_emod (a := i) (b := 256)
  by_cases hneg : i.tmod 256 < 0
  · have he : i.tmod 256 + 256 = i % 256 := by split at hm <;> simp at hm <;> omega
    clear hm
    go_enter Try.func18, Try.ntmps18
    go_wp2
    go_ret
    exact ⟨rfl, rfl⟩
  · have he : i.tmod 256 = i % 256 := by split at hm <;> simp at hm <;> omega
    clear hm
    go_enter Try.func18, Try.ntmps18
    go_wp2
    go_ret
    exact ⟨rfl, rfl⟩
theorem copyb_any (A : Option Addr) (n c : Nat) (xs : List Int) (w : World) (hn : n = xs.length) (hr : Rd w A c xs) (hl : xs.length ≤ 140737488355328) :
    Calls Try.prog 12 #[.slice A n c] w fun e w' => ∃ A1 c1, e = .returned (.slice A1 n c1) ∧ Own w' w.heap.size (.slice A1 n c1) xs ∧ Below w.heap.size w w' := by
  have Hr := Lib.hid hr
  have Hn := Lib.hid hn
  clear hr hn
  go_enter Try.func12, Try.ntmps12
  go_wp2_with (at_builtin; go_must (refine app_rd rfl _ _ rfl w.heap.size (.slice none 0 0) [] rfl (Own.nil w _) A c n xs rfl Hn.out Hr.out n (by rw [Hn.out]; simp) (by simpa using hl) (Nat.le_refl _) ?_; intro A' c' w1 ho hg hat; have Ho := Lib.hid ho; have Hg := Lib.hid hg; clear ho hg hat))
  go_ret
  exact ⟨A', c', rfl, Ho.out, (Below.refl _ w).grown Hg.out (Nat.le_refl _) (by intro g hg; simp [Value.ownBlock] at hg)⟩
end Go.Proofs.Ythgnccgablploaa
