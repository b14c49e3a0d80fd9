/- Contracts: slices.Clone of bytes, and the writer of package num (numbers of one byte and of eight, raw bytes), as long as nothing is wrong. -/
import Derived.Test.YthgnccgablploaaProg
import Derived.Test.YthgnccgablploaaReg
import Derived.Test.YthgnccgablploaaBase
import Derived.Test.YthgnccgablploaaMem
import Derived.Deep.DeepMust
import Derived.Outline
set_option linter.unusedVariables false
set_option linter.unusedSimpArgs false
namespace Go.Proofs.Ythgnccgablploaa
open Go.RowKit

/-- slices.Clone: a row of its own, or nil. -/
theorem clone_any (A : Option Addr) (c : Nat) (xs : List Int) (w : World) (hr : Rd w A c xs) (hl : xs.length ≤ 140737488355328) :
    Calls Try.prog 17 #[.slice A xs.length c] w fun e w' => ∃ v, e = .returned v ∧ Own w' w.heap.size v xs ∧ Below w.heap.size w w' := by
  have hB := Below.refl w.heap.size w
  cases A with
  | none =>
    have hc := hr.nil rfl
    subst hc
    obtain rfl : xs = [] := List.eq_nil_of_length_eq_zero (by have := hr.le; omega)
    simp only [List.length_nil]
    have he := fun W => Lib.run_eql_slice_nil (P := Try.prog) W 22 5 none 0 0 0 0 Try.underlying22
    simp only [Option.isNone_none] at he
    clear hB hr hl
    go_enter Try.func17, Try.ntmps17
    go_wp2
    go_ret
    exact ⟨_, rfl, Own.nil _ _, Below.refl _ _⟩
  | some ad =>
    have he := fun W => Lib.run_eql_slice_nil (P := Try.prog) W 22 5 (some ad) xs.length c 0 0 Try.underlying22
    simp only [Option.isNone_some] at he
    have Hr := Lib.hid hr
    clear hr
    go_enter Try.func17, Try.ntmps17
    go_wp2_with (at_builtin; refine app_rd rfl _ _ rfl w.heap.size (.slice (some ⟨w.heap.size, 0, none⟩) 0 0) [] rfl (Own.new w w.heap.size [] (Nat.le_refl _) (by simp)) _ _ _ xs rfl rfl (Hr.out.alloc _) xs.length (by simp) (by simpa using hl) (by simp) ?_; intro A' c' w1 ho hg hat; have Ho := Lib.hid ho; have Hg := Lib.hid hg; clear ho hg hat)
    go_ret
    refine ⟨_, rfl, by simpa using Ho.out, ?_⟩
    exact (hB.alloc (Nat.le_refl _) _).grown Hg.out (by simp) (by simp [Value.ownBlock])

/-- cmp.Or of two noughts. -/
theorem or_zero (g : Nat) (w : World) (h0 : w.cell? ⟨g, 0, none⟩ = some (.int .i64 0)) (h1 : w.cell? ⟨g, 1, none⟩ = some (.int .i64 0)) :
    Calls Try.prog 63 #[.slice (some ⟨g, 0, none⟩) 2 2] w fun e w' => e = .returned (.int .i64 0) ∧ w = w' := by
  go_enter Try.func63, Try.ntmps63
  go_wp2
  go_loop [8] (fun i => ∃ k : Nat, k ≤ 2 ∧ i = .int .i64 k) (fun i => 2 - (intOf i).toNat)
  case atStart => exact ⟨0, by omega, rfl⟩
  case round =>
    obtain ⟨k, hk, rfl⟩ := hrel
    by_cases hlt : k < 2
    · have hc : w.cell? ⟨g, k, none⟩ = some (.int .i64 0) := by
        rcases (show k = 0 ∨ k = 1 by omega) with rfl | rfl <;> assumption
      clear h0 h1
      go_wp2
      go_round
      case rel => exact ⟨k + 1, by omega, by go_num⟩
      case measure => simp [intOf]; omega
    · go_wp2
      go_ret
      exact ⟨rfl, rfl⟩

/-- A writer that has written bs, and nothing is wrong. -/
structure IsW (w : World) (base wb : Nat) (bs : List Int) : Prop where
  low : base ≤ wb
  row : ∃ sv, w.heap[wb]? = some (.cells #[sv, .int .i64 0] 109 (0, 0)) ∧ Own w base sv bs
theorem IsW.below {w w' : World} {base wb : Nat} {bs : List Int} (h : IsW w base wb bs) (hb : Below w.heap.size w w') : IsW w' base wb bs := by
  obtain ⟨sv, h1, h2⟩ := h.row
  exact ⟨h.low, sv, below_at hb h1 (blk_lt h1), h2.below hb⟩

theorem write_new (w : World) : Calls Try.prog 53 #[] w fun e w' => e = .returned (.pointer (some ⟨w.heap.size, 0, none⟩)) ∧ w' = w.alloc (.cells #[.slice none 0 0, .int .i64 0] 109) := by
  go_enter Try.func53, Try.ntmps53
  go_wp2
  go_ret
  exact ⟨rfl, rfl⟩
theorem IsW.new (w : World) : IsW (w.alloc (.cells #[.slice none 0 0, .int .i64 0] 109)) w.heap.size w.heap.size [] := ⟨Nat.le_refl _, _, new_at rfl, Own.nil _ _⟩

theorem write_new2 (w : World) : Calls Try.prog 53 #[] w fun e w' => e = .returned (.pointer (some ⟨w.heap.size, 0, none⟩)) ∧ IsW w' w.heap.size w.heap.size [] ∧ Below w.heap.size w w' :=
  (write_new w).mono fun e w' h => ⟨h.1, by rw [h.2]; exact IsW.new w, by rw [h.2]; exact (Below.refl _ _).alloc (Nat.le_refl _) _⟩

theorem put_ok (base wb : Nat) (bs : List Int) (A : Option Addr) (c m : Nat) (xs : List Int) (w : World) (hw : IsW w base wb bs) (hm : m = xs.length) (hr : Rd w A c xs) (hl : bs.length + xs.length ≤ 140737488355328) :
    Calls Try.prog 58 #[.pointer (some ⟨wb, 0, none⟩), .int .i64 0, .slice A m c] w fun e w' => e = .returned (.pointer (some ⟨wb, 0, none⟩)) ∧ IsW w' base wb (bs ++ xs) ∧ Below base w w' := by
  obtain ⟨hlow, sv, hb, ho⟩ := hw
  have c0 : w.cell? ⟨wb, 0, none⟩ = some sv := by simp [World.cell?, hb]
  have c1 : w.cell? ⟨wb, 1, none⟩ = some (.int .i64 0) := by simp [World.cell?, hb]
  have f0 : w.frozen? ⟨wb, 0, none⟩ = false := frozen_row hb 0
  have f1 : w.frozen? ⟨wb, 1, none⟩ = false := frozen_row hb 1
  have hlt := blk_lt hb
  have hne := ho.ne hb (by decide)
  have Hb := Lib.hid hb
  have Ho := Lib.hid ho
  have Hr := Lib.hid hr
  have Hne := Lib.hid hne
  have Hm := Lib.hid hm
  obtain ⟨A0, c0', rfl, hr0, hat⟩ := ho.rd
  clear hb ho hr hne hr0 hat hm
  go_enter Try.func58, Try.ntmps58
  have Hr1 : Hid (Rd ((w.setCell ⟨wb, 1, none⟩ (.int .i64 0)).alloc (.cells #[.int .i64 0, .int .i64 0] 26)) A c xs) := Lib.hid ((Hr.out.setCell c1 (by simp) _).alloc _)
  have Ho1 : Hid (Own ((w.setCell ⟨wb, 1, none⟩ (.int .i64 0)).alloc (.cells #[.int .i64 0, .int .i64 0] 26)) base (.slice A0 bs.length c0') bs) := Lib.hid ((Ho.out.setCell Hne.out _).alloc _)
  go_wp2_with (first | (go_at_call 63; refine (or_zero _ _ (cell_new rfl rfl) (cell_new rfl rfl)).mono ?_; rintro e w' ⟨rfl, rfl⟩) | (at_builtin; go_must (refine app_rd rfl _ _ rfl base (.slice A0 bs.length c0') bs rfl Ho1.out A c m xs rfl Hm.out Hr1.out (bs.length + m) (by rw [Hm.out]) hl (by simp; omega) ?_; intro A' c' w1 ho hg hat; have hw1 : w1.heap[wb]? = some (.cells #[.slice A0 bs.length c0', .int .i64 0] 109 (0, 0)) := (hg.block wb (by simp; omega) (fun e => Hne.out e.symm)).trans (blk_alloc (blk_set Hb.out 1 _) _); have hc1 : w1.cell? ⟨wb, 0, none⟩ = some (.slice A0 bs.length c0') := blk_cell hw1 0 rfl; have hf1 : w1.frozen? ⟨wb, 0, none⟩ = false := frozen_row hw1 0; have Hw1 := Lib.hid hw1; have Ho2 := Lib.hid ho; have Hg := Lib.hid hg; clear ho hg hat hw1)))
  go_ret
  refine ⟨rfl, ⟨hlow, _, blk_set Hw1.out 0 _, Ho2.out.setCell (Ho2.out.ne Hw1.out (by decide)) _⟩, ?_⟩
  exact (((Below.refl base w).setCell (p := ⟨wb, 1, none⟩) hlow _).alloc (by simp; omega) _ |>.grown Hg.out (by simp; omega) (fun k hk => (Ho.out.lt k hk).1)).setCell (p := ⟨wb, 0, none⟩) hlow _

theorem raw_ok (base wb : Nat) (bs : List Int) (A : Option Addr) (c m : Nat) (xs : List Int) (w : World) (hw : IsW w base wb bs) (hm : m = xs.length) (hr : Rd w A c xs) (hl : bs.length + xs.length ≤ 140737488355328) :
    Calls Try.prog 54 #[.pointer (some ⟨wb, 0, none⟩), .slice A m c] w fun e w' => e = .returned (.pointer (some ⟨wb, 0, none⟩)) ∧ IsW w' base wb (bs ++ xs) ∧ Below base w w' := by
  have Hm := Lib.hid hm
  clear hm
  go_enter Try.func54, Try.ntmps54
  go_wp2_with (go_at_call 58; refine (put_ok base wb bs A c m xs w hw Hm.out hr hl).mono ?_; rintro e w' ⟨rfl, h1, h2⟩)
  go_ret
  exact ⟨rfl, h1, h2⟩

theorem wide_eight (w : World) : Calls Try.prog 59 #[.int .i64 8] w fun e w' => e = .returned (.bool true) ∧ w = w' := by
  go_enter Try.func59, Try.ntmps59
  go_wp2
  go_ret
  exact ⟨rfl, rfl⟩
theorem wide_one (w : World) : Calls Try.prog 59 #[.int .i64 1] w fun e w' => e = .returned (.bool true) ∧ w = w' := by
  go_enter Try.func59, Try.ntmps59
  go_wp2
  go_ret
  exact ⟨rfl, rfl⟩

/-- The first i bytes of n, written in eight. -/
def beTo (n : Int) (i : Nat) : List Int := (List.range i).map fun k => n / 2 ^ (8 * (7 - k)) % 256
theorem beTo_len (n : Int) (i : Nat) : (beTo n i).length = i := by simp [beTo]
theorem beTo_succ (n : Int) (i : Nat) : beTo n (i + 1) = beTo n i ++ [n / 2 ^ (8 * (7 - i)) % 256] := by simp [beTo, List.range_succ]

set_option maxHeartbeats 1000000 in
theorem num_eight (base wb : Nat) (bs : List Int) (n : Int) (w : World) (hw : IsW w base wb bs) (h0 : 0 ≤ n) (h1 : n ≤ 9007199254740991) (hl : bs.length ≤ 140737488355000) :
    Calls Try.prog 55 #[.pointer (some ⟨wb, 0, none⟩), .int .i64 8, .int .i64 n] w fun e w' => e = .returned (.pointer (some ⟨wb, 0, none⟩)) ∧ IsW w' base wb (bs ++ beTo n 8) ∧ Below base w w' := by
  have hz : (n / 18446744073709551616 != 0) = false := by rw [bne_eq_false_iff_eq]; omega
  have Hw := Lib.hid hw
  have hb : base ≤ w.heap.size := by obtain ⟨hlow, sv, h, _⟩ := hw; have := blk_lt h; omega
  clear hw
  go_enter Try.func55, Try.ntmps55
  go_wp2_with (first | (go_at_call 59; refine (wide_eight _).mono ?_; rintro e w' ⟨rfl, rfl⟩))
  go_loopw [7, 28] (fun v i wr => ∃ (k : Nat) (A : Option Addr) (c : Nat), k ≤ 8 ∧ i = .int .i64 k ∧ v = .slice A k c ∧ Hid (Own wr w.heap.size (.slice A k c) (beTo n k)) ∧ Below w.heap.size w wr) (fun _ i _ => 8 - (intOf i).toNat)
  case atStart => exact ⟨0, none, 0, by omega, rfl, rfl, Own.nil _ _, Below.refl _ _⟩
  case round =>
    obtain ⟨k, A, c, hk, rfl, rfl, Ho, hB⟩ := hrel
    by_cases hlt : k < 8
    · clear hz
      go_wp2_with (at_builtin; go_must (refine app_rd rfl _ _ rfl w.heap.size (.slice A k c) (beTo n k) rfl (Ho.out.alloc _) _ _ _ [n / 2 ^ (8 * (7 - k)) % 256] rfl rfl (Rd.new1 wr _ _ _) (k + 1) (by simp [beTo_len]) (by simp [beTo_len]; omega) (by simp; have := hB.size; omega) ?_; intro A' c' w1 ho hg hat; have Ho2 := Lib.hid ho; have Hg := Lib.hid hg; clear ho hg hat))
      go_roundw
      case rel => exact ⟨k + 1, A', c', by omega, by go_num, rfl, by rw [beTo_succ]; exact Ho2, (hB.alloc hB.size _).grown Hg.out (by simp; have := hB.size; omega) (fun j hj => (Ho.out.lt j hj).1)⟩
      case measure => simp [intOf]; omega
    · obtain rfl : k = 8 := by omega
      obtain ⟨_, _, hA, hr, _⟩ := Ho.out.rd
      cases hA
      have Hr := Lib.hid hr
      clear hr hz
      go_wp2_with (go_at_call 58; go_must (refine (put_ok base wb bs A c 8 (beTo n 8) wr (Hw.out.below hB) rfl Hr.out (by rw [beTo_len]; omega)).mono ?_; rintro e w' ⟨rfl, h1, h2⟩))
      go_ret
      exact ⟨rfl, h1, (hB.mono hb).trans h2⟩

set_option maxHeartbeats 1000000 in
theorem num_one (base wb : Nat) (bs : List Int) (n : Int) (w : World) (hw : IsW w base wb bs) (h0 : 0 ≤ n) (h1 : n < 256) (hl : bs.length ≤ 140737488355000) :
    Calls Try.prog 55 #[.pointer (some ⟨wb, 0, none⟩), .int .i64 1, .int .i64 n] w fun e w' => e = .returned (.pointer (some ⟨wb, 0, none⟩)) ∧ IsW w' base wb (bs ++ [n]) ∧ Below base w w' := by
  have hz : (n / 256 != 0) = false := by rw [bne_eq_false_iff_eq]; omega
  have Hw := Lib.hid hw
  have hb : base ≤ w.heap.size := by obtain ⟨hlow, sv, h, _⟩ := hw; have := blk_lt h; omega
  clear hw
  go_enter Try.func55, Try.ntmps55
  go_wp2_with (first | (go_at_call 59; refine (wide_one _).mono ?_; rintro e w' ⟨rfl, rfl⟩))
  go_loopw [7, 28] (fun v i wr => ∃ (k : Nat) (A : Option Addr) (c : Nat), k ≤ 1 ∧ i = .int .i64 k ∧ v = .slice A k c ∧ Hid (Own wr w.heap.size (.slice A k c) (if k = 0 then [] else [n])) ∧ Below w.heap.size w wr) (fun _ i _ => 1 - (intOf i).toNat)
  case atStart => exact ⟨0, none, 0, by omega, rfl, rfl, Own.nil _ _, Below.refl _ _⟩
  case round =>
    obtain ⟨k, A, c, hk, rfl, rfl, Ho, hB⟩ := hrel
    by_cases hlt : k < 1
    · obtain rfl : k = 0 := by omega
      clear hz
      have hn : n / 2 ^ (8 * (0 : Int)).toNat % 256 = n := by simp; omega
      have e1 : n % 256 = n := by omega
      go_wp2_with (at_builtin; go_must (refine app_rd rfl _ _ rfl w.heap.size (.slice A 0 c) [] rfl (Ho.out.alloc _) _ _ _ [n] rfl rfl (Rd.new1 wr _ _ _) 1 rfl (by simp) (by simp; have := hB.size; omega) ?_; intro A' c' w1 ho hg hat; have Ho2 := Lib.hid ho; have Hg := Lib.hid hg; clear ho hg hat))
      go_roundw
      case rel => exact ⟨1, A', c', by omega, by go_num, rfl, Ho2, (hB.alloc hB.size _).grown Hg.out (by simp; have := hB.size; omega) (fun j hj => (Ho.out.lt j hj).1)⟩
      case measure => simp [intOf]
    · obtain rfl : k = 1 := by omega
      obtain ⟨_, _, hA, hr, _⟩ := Ho.out.rd
      cases hA
      have Hr := Lib.hid hr
      clear hr hz
      go_wp2_with (go_at_call 58; go_must (refine (put_ok base wb bs A c 1 [n] wr (Hw.out.below hB) rfl Hr.out (by simp; omega)).mono ?_; rintro e w' ⟨rfl, h1, h2⟩))
      go_ret
      exact ⟨rfl, h1, (hB.mono hb).trans h2⟩

theorem bytes_ok (base wb : Nat) (bs : List Int) (w : World) (hw : IsW w base wb bs) (hl : bs.length ≤ 140737488355328) :
    Calls Try.prog 56 #[.pointer (some ⟨wb, 0, none⟩)] w fun e w' => ∃ v, e = .returned (.tuple #[v, .int .i64 0]) ∧ Own w' w.heap.size v bs ∧ Below w.heap.size w w' := by
  obtain ⟨hlow, sv, hb, ho⟩ := hw
  have c1 : w.cell? ⟨wb, 1, none⟩ = some (.int .i64 0) := blk_cell hb 1 rfl
  obtain ⟨A, c, rfl, hr, _⟩ := ho.rd
  have c0 : w.cell? ⟨wb, 0, none⟩ = some (.slice A bs.length c) := blk_cell hb 0 rfl
  have Hr := Lib.hid hr
  clear ho hb hr
  go_enter Try.func56, Try.ntmps56
  go_wp2_with (go_at_call 17; go_must (refine (clone_any A c bs w Hr.out hl).mono ?_; rintro e w' ⟨v, rfl, h1, h2⟩))
  go_ret2
  exact ⟨v, rfl, h1, h2⟩
end Go.Proofs.Ythgnccgablploaa
