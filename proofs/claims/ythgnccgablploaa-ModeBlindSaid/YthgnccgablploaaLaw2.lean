/- Helpers of the laws: up, turned. -/
import Derived.Test.YthgnccgablploaaLaw1
set_option linter.unusedVariables false
set_option linter.unusedSimpArgs false
set_option maxRecDepth 100000
namespace Go.Proofs.Ythgnccgablploaa
open Go Go.RowKit Go.Conc
/-- Bytes that count up. -/
def upL (first n : Nat) : List Int := (List.range n).map fun i => ((first + i : Nat) : Int)
theorem upL_len (first n : Nat) : (upL first n).length = n := by simp [upL]
theorem upL_succ (first n : Nat) : upL first (n + 1) = upL first n ++ [((first + n : Nat) : Int)] := by simp [upL, List.range_succ]
set_option maxHeartbeats 1000000 in
theorem up_any (first n : Nat) (w : World) (h : first + n ≤ 256) :
    Calls Try.prog 21 #[.int .i64 first, .int .i64 n] w fun e w' => ∃ A c, e = .returned (.slice A n c) ∧ Own w' w.heap.size (.slice A n c) (upL first n) ∧ Below w.heap.size w w' := by
  go_enter Try.func21, Try.ntmps21
  go_wp2
  go_loopw [5, 6] (fun v i wr => ∃ (k : Nat) (A : Option Addr) (c : Nat), k ≤ n ∧ i = .int .i64 k ∧ v = .slice A k c ∧ Hid (Own wr w.heap.size (.slice A k c) (upL first k)) ∧ Below w.heap.size w wr) (fun _ i _ => n - (intOf i).toNat)
  case atStart => exact ⟨0, none, 0, by omega, rfl, rfl, Lib.hid (Own.nil _ _), Below.refl _ _⟩
  case round =>
    obtain ⟨k, A, c, hk, rfl, rfl, Ho, hB⟩ := hrel
    by_cases hlt : k < n
    · go_wp2_with (at_builtin; go_must (refine app_rd rfl _ _ rfl w.heap.size (.slice A k c) (upL first k) rfl (Ho.out.alloc _) _ _ _ [((first + k : Nat) : Int)] rfl rfl (Rd.new1 wr _ _ _) (k + 1) (by simp [upL_len]) (by simp [upL_len]; omega) (by simp; have := hB.size; omega) ?_; intro A' c' w1 ho hg hat; have Ho2 := Lib.hid ho; have Hg := Lib.hid hg; clear ho hg hat))
      go_roundw
      case rel => exact ⟨k + 1, A', c', by omega, by go_num, rfl, by rw [upL_succ]; exact Ho2, (hB.alloc hB.size _).grown Hg.out (by simp; have := hB.size; omega) (fun j hj => (Ho.out.lt j hj).1)⟩
      case measure => simp [intOf]; omega
    · obtain rfl : k = n := by omega
      go_wp2
      go_ret
      exact ⟨A, c, rfl, Ho.out, hB⟩
/-- A byte, turned. -/
def turnL (t : Int) (xs : List Int) : List Int := xs.map fun x => bits .xor .u8 x t
theorem turnL_len (t : Int) (xs : List Int) : (turnL t xs).length = xs.length := by simp [turnL]
theorem turnL_succ (t : Int) (xs : List Int) (k : Nat) (h : k < xs.length) : (turnL t xs).take (k + 1) = (turnL t xs).take k ++ [bits .xor .u8 (xs[k]?.getD 0) t] := by
  have h2 : k < (turnL t xs).length := by rw [turnL_len]; exact h
  rw [List.take_succ_eq_append_getElem h2]
  simp [turnL, h]
set_option maxHeartbeats 1000000 in
theorem turned_any (t : Int) (A0 : Option Addr) (n c0 : Nat) (xs : List Int) (w : World) (hn : n = xs.length) (hr : Rd w A0 c0 xs) (hl : n ≤ 1000) :
    Calls Try.prog 13 #[.slice A0 n c0, .int .u8 t] w fun e w' => ∃ A c, e = .returned (.slice A n c) ∧ Own w' w.heap.size (.slice A n c) (turnL t xs) ∧ Below w.heap.size w w' := by
  have Hr := Lib.hid hr
  have Hn := Lib.hid hn
  clear hr hn
  go_enter Try.func13, Try.ntmps13
  go_wp2
  go_loopw [5, 6] (fun v i wr => ∃ (k : Nat) (A : Option Addr) (c : Nat), k ≤ n ∧ i = .int .i64 k ∧ v = .slice A k c ∧ Hid (Own wr w.heap.size (.slice A k c) ((turnL t xs).take k)) ∧ Below w.heap.size w wr) (fun _ i _ => n - (intOf i).toNat)
  case atStart => exact ⟨0, none, 0, by omega, rfl, rfl, Lib.hid (Own.nil _ _), Below.refl _ _⟩
  case round =>
    obtain ⟨k, A, c, hk, rfl, rfl, Ho, hB⟩ := hrel
    by_cases hlt : k < n
    · obtain ⟨b, off, rfl, hc⟩ := (Hr.out.below hB).cells (by have := Hn.out; omega)
      have hck := hc k (by have := Hn.out; omega)
      have hlk : ((turnL t xs).take k).length = k := by rw [List.length_take, turnL_len]; have := Hn.out; omega
      have Hlk := Lib.hid hlk
      have hkx : k < xs.length := by have := Hn.out; omega
      have Hkx := Lib.hid hkx
      clear hc hlk hkx
      go_wp2_with (at_builtin; go_must (refine app_rd rfl _ _ rfl w.heap.size (.slice A k c) ((turnL t xs).take k) rfl (Ho.out.alloc _) _ _ _ [bits .xor .u8 (xs[k]?.getD 0) t] rfl rfl (Rd.new1 wr _ _ _) (k + 1) (by rw [Hlk.out]; rfl) (by rw [Hlk.out]; simp; omega) (by simp; have := hB.size; omega) ?_; intro A' c' w1 ho hg hat; have Ho2 := Lib.hid ho; have Hg := Lib.hid hg; clear ho hg hat))
      go_roundw
      case rel => exact ⟨k + 1, A', c', by omega, by go_num, rfl, by rw [turnL_succ t xs k Hkx.out]; exact Ho2, (hB.alloc hB.size _).grown Hg.out (by simp; have := hB.size; omega) (fun j hj => (Ho.out.lt j hj).1)⟩
      case measure => simp [intOf]; omega
    · obtain rfl : k = n := by omega
      go_wp2
      go_ret
      refine ⟨A, c, rfl, ?_, hB⟩
      have h1 := Ho.out
      rw [List.take_of_length_le (by rw [turnL_len]; have := Hn.out; omega)] at h1
      exact h1
end Go.Proofs.Ythgnccgablploaa
