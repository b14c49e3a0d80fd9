/- Contracts of package aes: turn, double, add. -/
import Derived.Test.YtiboflejmnjdhaaDoorProg
import Derived.Test.YtiboflejmnjdhaaDoorJA
import Derived.Test.YtiboflejmnjdhaaDoorJC
import Derived.Test.YtiboflejmnjdhaaDoorJB
import Derived.Lib.Hide
import Derived.IntWalk
import Derived.Laws.BitsAllLaws
import Derived.Outline
import Derived.ArgAppend
section
set_option linter.unusedVariables false
set_option linter.unusedSimpArgs false
set_option maxRecDepth 100000
namespace Go.Proofs.YtiboflejmnjdhaaDoor
open Go Go.RowKit
def x8 (x y : Int) : Int := bits .xor .u8 x y
def turn8 (x n : Int) : Int := bits BinOp.or IntKind.u8 (x * 2 ^ n.toNat % 256) (x / 2 ^ (8 - n).toNat)
def double8 (x : Int) : Int := bits BinOp.xor IntKind.u8 (x * 2 % 256) (bits BinOp.and IntKind.u8 27 (-(x / 128) % 256))
theorem bits8_range (o : BinOp) (x y : Int) : 0 ≤ bits o .u8 x y ∧ bits o .u8 x y < 256 := by
  unfold bits
  simp only [IntKind.wrap, IntKind.bits, IntKind.signed]
  split <;> (simp; try omega)
theorem x8_range (x y : Int) : 0 ≤ x8 x y ∧ x8 x y < 256 := bits8_range _ _ _
theorem x8_back (x k : Int) (h0 : 0 ≤ x) (h1 : x < 256) : x8 (x8 x k) k = x := by
  obtain ⟨n, rfl⟩ := Int.eq_ofNat_of_zero_le h0
  have hb : ∀ b : BitVec IntKind.u8.bits, IntKind.u8.wrap (b.toNat : Int) = b.toNat := fun b => by
    have h : b.toNat < 256 := b.isLt
    rw [IntKind.wrap_u8']
    omega
  have e : ∀ b : BitVec IntKind.u8.bits, BitVec.ofInt IntKind.u8.bits (b.toNat : Int) = b := fun b => by
    apply BitVec.eq_of_toNat_eq
    have h : b.toNat < 2 ^ IntKind.u8.bits := b.isLt
    simp [BitVec.toNat_ofInt]
  have e2 : ((BitVec.ofInt IntKind.u8.bits (n : Int)).toNat : Int) = n := by
    show (((BitVec.ofInt 8 (n : Int)).toNat : Nat) : Int) = _
    simp [BitVec.toNat_ofInt]
    omega
  have hx : ∀ a b : Int, bits .xor .u8 a b = ((BitVec.ofInt IntKind.u8.bits a ^^^ BitVec.ofInt IntKind.u8.bits b).toNat : Int) := fun a b => hb _
  show bits .xor .u8 (bits .xor .u8 _ k) k = _
  rw [hx, hx, e, BitVec.xor_assoc, BitVec.xor_self, BitVec.xor_zero]
  exact e2
theorem turn8_any (x n : Int) (h0 : 0 < n) (h1 : n < 8) (w : World) : Calls Tryd.prog 71 #[.int .u8 x, .int .i64 n] w fun e w' => e = .returned (.int .u8 (turn8 x n)) ∧ ∃ m, w' = w.drewN m := by
  go_enter Tryd.func71, Tryd.ntmps71
  go_wp2
  go_quiet (fail)
  go_wp2
  go_ret
  exact ⟨rfl, _, rfl⟩
theorem double_any (x : Int) (w : World) : Calls Tryd.prog 46 #[.int .u8 x] w fun e w' => e = .returned (.int .u8 (double8 x)) ∧ w = w' := by
  go_enter Tryd.func46, Tryd.ntmps46
  go_wp2
  go_ret
  exact ⟨rfl, rfl⟩
/-- a, the first k of which are xored with those of b. -/
def xorUp (a b : List Int) : Nat → List Int
  | 0 => a
  | k + 1 => (xorUp a b k).set k (x8 ((xorUp a b k).getD k 0) (b.getD k 0))
theorem xorUp_len (a b : List Int) : ∀ k, (xorUp a b k).length = a.length
  | 0 => rfl
  | k + 1 => by simp [xorUp, xorUp_len a b k]
theorem add16_any (a b : List Int) (ha : a.length = 16) (hb : b.length = 16) (w : World) :
    Calls Tryd.prog 91 #[.agg (w8 a), .agg (w8 b)] w fun e w' => e = .returned (.agg (w8 (xorUp a b 16))) ∧ Below w.heap.size w w' := by
  have Ha := Lib.hid ha
  have Hb := Lib.hid hb
  clear ha hb
  go_enter Tryd.func91, Tryd.ntmps91
  go_wp2
  obtain ⟨w1, hw1⟩ : ∃ w1, w1 = (w.alloc (.cells (w8 a) 50)).alloc (.cells (w8 b) 50) := ⟨_, rfl⟩
  go_loopw [6] (fun i wr => ∃ k : Nat, k ≤ 16 ∧ i = .int .i64 k ∧ Hid (wr.heap[w.heap.size]? = some (.cells (w8 (xorUp a b k)) 50 (0, 0))) ∧ Hid (wr.heap[w.heap.size + 1]? = some (.cells (w8 b) 50 (0, 0))) ∧ Hid (wr.heap[w.heap.size + 2]? = some (.cells (w8 (List.replicate 16 0)) 50 (0, 0))) ∧ Hid (Below w.heap.size w wr))
    (fun i _ => 16 - (intOf i).toNat)
  case atStart =>
    refine ⟨0, by omega, rfl, Lib.hid ?_, Lib.hid ?_, Lib.hid (new_at (by simp)), Lib.hid ?_⟩
    · exact blk_alloc (blk_alloc (new_at rfl) _) _
    · exact blk_alloc (new_at (by simp)) _
    · exact (((Below.refl _ _).alloc (Nat.le_refl _) _).alloc (by simp) _).alloc (by simp; omega) _
  case round =>
    obtain ⟨k, hk, rfl, H0, H1, H2, HB⟩ := hrel
    by_cases hlt : k < 16
    · have hc := cell_w8 H0.out k (by rw [xorUp_len, Ha.out]; exact hlt)
      have hf := frozen_row H0.out k
      have hc1 := cell_w8 H1.out k (by rw [Hb.out]; exact hlt)
      obtain ⟨x, hx⟩ : ∃ x, x = (xorUp a b k).getD k 0 := ⟨_, rfl⟩
      obtain ⟨y, hy⟩ : ∃ y, y = b.getD k 0 := ⟨_, rfl⟩
      rw [← hx] at hc
      rw [← hy] at hc1
      have Hx := Lib.hid hx
      have Hy := Lib.hid hy
      clear hx hy
      go_wp2
      refine wp_region_quiet_tail_lit 8 (by kernel_rfl) (by kernel_rfl) ?_
      simp only [List.take_succ_cons, List.take_zero, List.drop_succ_cons, List.drop_zero]
      repeat (go_big_quiet_step (fail))
      refine wpQuiet_nil ?_
      rintro _ ⟨nq, rfl⟩
      go_wp2
      go_roundw
      case rel =>
        refine ⟨k + 1, by omega, by go_num, Lib.hid ?_, Lib.hid ?_, Lib.hid ?_, Lib.hid ?_⟩
        · have := set_w8 (W := wr.drewN nq) H0.out k (x8 x y)
          rw [Hx.out, Hy.out] at this
          rw [xorUp, Hx.out, Hy.out]; exact this
        · exact blk_far (w := wr.drewN nq) H1.out (by simp) _
        · exact blk_far (w := wr.drewN nq) H2.out (by simp) _
        · exact (below_drewN HB.out nq).setCell (by simp) _
      case measure => simp [intOf]; omega
    · obtain rfl : k = 16 := by omega
      have hsz : Hid ((Tryd.prog.info? 50).map (·.size) = some (w8 (xorUp a b 16)).size) := Lib.hid (by rw [w8_size, xorUp_len, Ha.out]; kernel_rfl)
      have hold : Hid ((w8 (List.replicate 16 0)).size = (w8 (xorUp a b 16)).size) := Lib.hid (by rw [w8_size, w8_size, xorUp_len, Ha.out]; rfl)
      go_wp2_with (first | (with_reducible refine wpList_load_row rfl 50 _ rfl w.heap.size rfl _ _ (0, 0) _ H0.out Tryd.underlying50 rfl hsz.out ?_) | (with_reducible refine wpList_store_row rfl 50 _ _ rfl (w.heap.size + 2) _ rfl rfl _ _ H2.out hsz.out hold.out (w8_one _) ?_))
      refine bodyPost_ret (results_cell_row Tryd.results91 _ _ (w.heap.size + 2) _ _ (0, 0) _ rfl (setRow_heap _ _ _ _ _ _ H2.out) Tryd.underlying50 rfl hsz.out) rfl ⟨rfl, ?_⟩
      exact below_setRow HB.out (by omega) _
end Go.Proofs.YtiboflejmnjdhaaDoor
end
section
set_option linter.unusedVariables false
set_option linter.unusedSimpArgs false
set_option maxRecDepth 100000
namespace Go.Proofs.YtiboflejmnjdhaaDoor
open Go Go.RowKit
/-- The powers. -/
def pw : Nat → Int
  | 0 => 1
  | k + 1 => x8 (pw k) (double8 (pw k))
theorem pw_range : ∀ k, 0 ≤ pw k ∧ pw k < 256
  | 0 => by simp [pw]
  | k + 1 => x8_range _ _
def powUp : Nat → List Int
  | 0 => List.replicate 255 0
  | k + 1 => (powUp k).set k (pw k)
theorem powUp_len : ∀ k, (powUp k).length = 255
  | 0 => by simp [powUp]
  | k + 1 => by simp [powUp, powUp_len k]
theorem powUp_get : ∀ k j, j < k → k ≤ 255 → (powUp k).getD j 0 = pw j
  | 0, j, h, _ => by omega
  | k + 1, j, h, h2 => by
    have hl := powUp_len k
    rw [powUp, List.getD_eq_getElem?_getD, List.getElem?_set]
    by_cases hj : k = j
    · subst hj; rw [if_pos rfl, if_pos (by omega)]; rfl
    · rw [if_neg hj, ← List.getD_eq_getElem?_getD]
      exact powUp_get k j (by omega) (by omega)
def invUp : Nat → List Int
  | 0 => List.replicate 256 0
  | k + 1 => (invUp k).set (pw k).toNat ((powUp 255).getD ((255 - k) % 255) 0)
theorem invUp_len : ∀ k, (invUp k).length = 256
  | 0 => by simp [invUp]
  | k + 1 => by simp [invUp, invUp_len k]
def box1 (y : Int) : Int := x8 (x8 (x8 (x8 (x8 y (turn8 y 1)) (turn8 y 2)) (turn8 y 3)) (turn8 y 4)) 99
def boxUp : Nat → List Int
  | 0 => List.replicate 256 0
  | k + 1 => (boxUp k).set k (box1 ((invUp 255).getD k 0))
theorem boxUp_len : ∀ k, (boxUp k).length = 256
  | 0 => by simp [boxUp]
  | k + 1 => by simp [boxUp, boxUp_len k]
/-- The tables. -/
def aesTabs : List Int := invUp 255 ++ boxUp 256
def aesBox : List Int := boxUp 256
theorem w8_set (l : List Int) (k : Nat) (x : Int) : (w8 l).setIfInBounds k (.int .u8 x) = w8 (l.set k x) := by simp [w8, List.map_set]
theorem w8_app (a b : List Int) : w8 (a ++ b) = w8 a ++ w8 b := by simp [w8]
theorem cell_tab {W : World} {B : Nat} {a b : List Int} {t : TypeId} (h : W.heap[B]? = some (.cells (w8 (a ++ b)) t (0, 0))) (ha : a.length = 256) (i : Nat) (hi : i < b.length) : W.cell? ⟨B, 256 + i, none⟩ = some (.int .u8 (b.getD i 0)) := by
  rw [cell_w8 h (256 + i) (by simp; omega)]
  congr 2
  simp [List.getD_eq_getElem?_getD, List.getElem?_append_right, ha]
theorem set_lo (a b : List Int) (i : Nat) (x : Int) (h : i < a.length) : (a ++ b).set i x = a.set i x ++ b := by
  rw [List.set_append, if_pos h]
theorem set_hi (a b : List Int) (n i : Nat) (x : Int) (h : a.length = n) : (a ++ b).set (n + i) x = a ++ b.set i x := by
  rw [List.set_append, if_neg (by omega), h, show n + i - n = i by omega]
theorem range_lo {W : World} {B : Nat} {a b : List Int} {t : TypeId} {fr : Nat × Nat} (h : W.heap[B]? = some (.cells (w8 (a ++ b)) t fr)) : W.rangeAt B 0 (w8 a).toList := fun j v hv => by
  rw [cell_of_row W B (0 + j) _ t fr h, Nat.zero_add, w8_app]
  have hj := (List.getElem?_eq_some_iff.1 hv).1
  rw [Array.getElem?_append_left (by simpa using hj)]
  simpa using hv
theorem range_hi {W : World} {B n : Nat} {a b : List Int} {t : TypeId} {fr : Nat × Nat} (h : W.heap[B]? = some (.cells (w8 (a ++ b)) t fr)) (hn : a.length = n) : W.rangeAt B n (w8 b).toList := fun j v hv => by
  rw [cell_of_row W B (n + j) _ t fr h, w8_app, Array.getElem?_append_right (by rw [w8_size]; omega), w8_size, hn, show n + j - n = j by omega]
  simpa using hv
theorem load_mid8 {P : Program} {ops : Array Oper} {rest : List Oper} {op : Oper} {a : Act} {w : World} {Q : Exit → Act → World → Prop} (hgd : op.guard = none) (ty : TypeId) (x : Operand) (ho : op.op = .load ty x)
    (b o : Nat) (hx : a.eval x = .pointer (some ⟨b, o, none⟩)) (l : List Int) (d : TypeDesc) (hc : w.rangeAt b o (w8 l).toList)
    (hu : P.underlying ty = some d) (hd : d.isRow = true) (hi : (P.info? ty).map (·.size) = some l.length)
    (h : wpList P ops Q rest (a.put op.dst (.agg (w8 l))) w) : wpList P ops Q (op :: rest) a w :=
  wpList_load_mid hgd ty x ho b o hx (w8 l).toList d hc hu hd (by rw [hi]; simp [w8]) (by simpa using h)
set_option maxHeartbeats 1000000 in
theorem build_any (w : World) : Calls Tryd.prog 45 #[] w fun e w' => e = .returned (.agg (w8 aesTabs)) ∧ Below w.heap.size w w' := by
  go_enter Tryd.func45, Tryd.ntmps45
  go_wp2
  go_loopw [2, 8] (fun x i wr => ∃ k : Nat, k ≤ 255 ∧ i = .int .i64 k ∧ x = .int .u8 (pw k) ∧ Hid (wr.heap[w.heap.size]? = some (.cells (w8 (List.replicate 512 0)) 99 (0, 0))) ∧ Hid (wr.heap[w.heap.size + 1]? = some (.cells (w8 (powUp k)) 145 (0, 0))) ∧ Hid (Below w.heap.size w wr))
    (fun _ i _ => 255 - (intOf i).toNat)
  case atStart => exact ⟨0, by omega, rfl, rfl, Lib.hid (blk_alloc (new_at rfl) _), Lib.hid (new_at (by simp)), Lib.hid (((Below.refl _ _).alloc (Nat.le_refl _) _).alloc (by simp) _)⟩
  case round =>
    obtain ⟨k, hk, rfl, rfl, H0, H1, HB⟩ := hrel
    by_cases hlt : k < 255
    · have hc := cell_w8 H1.out k (by rw [powUp_len]; exact hlt)
      have hf := frozen_row H1.out k
      go_wp2_with (go_at_call 46; go_must (refine (double_any _ _).mono ?_; rintro e w' ⟨rfl, rfl⟩))
      go_roundw
      case rel => exact ⟨k + 1, by omega, by go_num, rfl, Lib.hid (blk_far H0.out (by simp) _), Lib.hid (set_w8 H1.out k (pw k)), Lib.hid (HB.out.setCell (by simp) _)⟩
      case measure => simp [intOf]; omega
    · obtain rfl : k = 255 := by omega
      have hsz : Hid ((Tryd.prog.info? 145).map (·.size) = some (w8 (powUp 255)).size) := Lib.hid (by rw [w8_size, powUp_len]; kernel_rfl)
      have H0' : Hid (wr.heap[w.heap.size]? = some (.cells (w8 (invUp 0 ++ boxUp 0)) 99 (0, 0))) := Lib.hid (by rw [show invUp 0 ++ boxUp 0 = List.replicate 512 0 from (by simp [invUp, boxUp])]; exact H0.out)
      obtain ⟨wp, rfl⟩ : ∃ wp : World, wp = wr := ⟨_, rfl⟩
      go_wp2_with (with_reducible refine wpList_load_row rfl 145 _ rfl (w.heap.size + 1) rfl _ _ (0, 0) _ H1.out Tryd.underlying145 rfl hsz.out ?_)
      clear H0
      go_loopw [20] (fun i wr => ∃ k : Nat, k ≤ 255 ∧ i = .int .i64 k ∧ Hid (wr.heap[w.heap.size]? = some (.cells (w8 (invUp k ++ boxUp 0)) 99 (0, 0))) ∧ Hid (wr.heap[w.heap.size + 1]? = some (.cells (w8 (powUp 255)) 145 (0, 0))) ∧ Hid (Below w.heap.size w wr))
        (fun i _ => 255 - (intOf i).toNat)
      case atStart => exact ⟨0, by omega, rfl, H0', H1, HB⟩
      case round =>
        clear H0' H1 HB hk hlt
        obtain ⟨k, hk, rfl, H0, H1, HB⟩ := hrel
        by_cases hlt : k < 255
        · obtain ⟨p, hp⟩ := Int.eq_ofNat_of_zero_le (pw_range k).1
          have hp2 : p < 256 := by have := (pw_range k).2; omega
          obtain ⟨v, hv⟩ : ∃ v, v = (powUp 255).getD ((255 - k) % 255) 0 := ⟨_, rfl⟩
          have hq : (255 - (k : Int)) % 255 = (((255 - k) % 255 : Nat) : Int) := by omega
          obtain ⟨q, hq2⟩ : ∃ q, q = (255 - k) % 255 := ⟨_, rfl⟩
          have hq3 : q < 255 := by omega
          rw [← hq2] at hq hv
          have hix := run_index_row (P := Tryd.prog) Tryd.underlying145 Tryd.underlying5 (by kernel_rfl) (w8 (powUp 255)) k hlt _ (w8_get _ _ (by rw [powUp_len]; omega))
          rw [powUp_get 255 k (by omega) (by omega), hp] at hix
          have hcq := cell_w8 H1.out q (by rw [powUp_len]; omega)
          rw [← hv] at hcq
          have hf := frozen_row H0.out p
          have hc0 := cell_w8 H0.out p (by simp [invUp_len]; omega)
          have Hp := Lib.hid hp
          have Hv := Lib.hid hv
          have Hq2 := Lib.hid hq2
          clear hp hv hq2
          go_wp2
          go_roundw
          case rel => exact ⟨k + 1, by omega, by go_num, Lib.hid (by have := set_w8 H0.out p v; rw [set_lo _ _ _ _ (by rw [invUp_len]; exact hp2)] at this; rw [invUp, Hp.out, ← Hq2.out, ← Hv.out]; exact this), Lib.hid (blk_far H1.out (by simp) _), Lib.hid (HB.out.setCell (by simp) _)⟩
          case measure => simp [intOf]; omega
        · obtain rfl : k = 255 := by omega
          have hsz1 : Hid ((Tryd.prog.info? 97).map (·.size) = some (invUp 255).length) := Lib.hid (by rw [invUp_len]; kernel_rfl)
          have HR := Lib.hid (range_lo H0.out)
          obtain ⟨wi, rfl⟩ : ∃ wi : World, wi = wr := ⟨_, rfl⟩
          go_wp2_with (with_reducible refine load_mid8 rfl 97 _ rfl w.heap.size 0 rfl (invUp 255) _ HR.out Tryd.underlying97 rfl hsz1.out ?_)
          clear H1 HR
          go_loopw [35] (fun i wr => ∃ k : Nat, k ≤ 256 ∧ i = .int .i64 k ∧ Hid (wr.heap[w.heap.size]? = some (.cells (w8 (invUp 255 ++ boxUp k)) 99 (0, 0))) ∧ Hid (Below w.heap.size w wr))
            (fun i _ => 256 - (intOf i).toNat)
          case atStart => exact ⟨0, by omega, rfl, H0, HB⟩
          case round =>
            clear H0 HB hk hlt
            obtain ⟨k, hk, rfl, H0, HB⟩ := hrel
            by_cases hlt : k < 256
            · obtain ⟨y, hy⟩ : ∃ y, y = (invUp 255).getD k 0 := ⟨_, rfl⟩
              have hix := run_index_row (P := Tryd.prog) Tryd.underlying97 Tryd.underlying5 (by kernel_rfl) (w8 (invUp 255)) k hlt _ (w8_get _ _ (by rw [invUp_len]; omega))
              rw [← hy] at hix
              have hc0 := cell_tab H0.out (invUp_len 255) k (by rw [boxUp_len]; omega)
              have hf := frozen_row H0.out (256 + k)
              have Hy := Lib.hid hy
              clear hy
              go_wp2_with (go_at_call 71; go_must (refine (turn8_any _ _ (by decide) (by decide) _).mono ?_; rintro e w' ⟨rfl, m2, rfl⟩))
              go_roundw
              case rel => exact ⟨k + 1, by omega, by go_num, Lib.hid (by rw [boxUp, ← Hy.out, ← set_hi (invUp 255) (boxUp k) 256 k _ (invUp_len 255)]; exact set_w8 (W := _) H0.out (256 + k) (box1 y)), Lib.hid ((below_drewN HB.out _).setCell (Nat.le_refl _) _)⟩
              case measure => simp [intOf]; omega
            · obtain rfl : k = 256 := by omega
              have hsz2 : Hid ((Tryd.prog.info? 99).map (·.size) = some (w8 (invUp 255 ++ boxUp 256)).size) := Lib.hid (by rw [w8_size, List.length_append, invUp_len, boxUp_len]; kernel_rfl)
              go_wp2_with (first | (with_reducible refine wpList_load_row rfl 99 _ rfl w.heap.size rfl _ _ (0, 0) _ H0.out Tryd.underlying99 rfl hsz2.out ?_) | (with_reducible refine wpList_store_row rfl 99 _ _ rfl w.heap.size _ rfl rfl _ _ H0.out hsz2.out rfl (w8_one _) ?_))
              refine bodyPost_ret (results_cell_row Tryd.results45 _ _ w.heap.size _ _ (0, 0) _ rfl (setRow_heap _ _ _ _ _ _ H0.out) Tryd.underlying99 rfl hsz2.out) rfl ⟨rfl, ?_⟩
              exact below_setRow HB.out (by omega) _
end Go.Proofs.YtiboflejmnjdhaaDoor
end
section
set_option linter.unusedVariables false
set_option linter.unusedSimpArgs false
set_option maxRecDepth 100000
namespace Go.Proofs.YtiboflejmnjdhaaDoor
open Go Go.RowKit
structure At8 (w : World) (base g off c : Nat) (xs : List Int) : Prop where
  ge : base ≤ g
  blk : ∃ cs, w.heap[g]? = some (.cells cs 5 (0, 0)) ∧ off + c ≤ cs.size ∧ ∀ j, j < xs.length → cs[off + j]? = some (.int .u8 (xs.getD j 0))
  le : xs.length ≤ c
  big : c ≤ 9223372036854775807
theorem At8.lt {w : World} {base g off c : Nat} {xs : List Int} (h : At8 w base g off c xs) : g < w.heap.size := by
  obtain ⟨cs, h1, _⟩ := h.blk; exact blk_lt h1
theorem At8.cell {w : World} {base g off c : Nat} {xs : List Int} (h : At8 w base g off c xs) (j : Nat) (hj : j < xs.length) : w.cell? ⟨g, off + j, none⟩ = some (.int .u8 (xs.getD j 0)) := by
  obtain ⟨cs, h1, _, h3⟩ := h.blk
  exact blk_cell h1 _ (h3 j hj)
theorem At8.frozen {w : World} {base g off c : Nat} {xs : List Int} (h : At8 w base g off c xs) (j : Nat) : w.frozen? ⟨g, j, none⟩ = false := by
  obtain ⟨cs, h1, _, h3⟩ := h.blk
  exact frozen_row h1 _
theorem At8.rd {w : World} {base g off c : Nat} {xs : List Int} (h : At8 w base g off c xs) : Rd w (some ⟨g, off, none⟩) c xs :=
  ⟨h.le, h.big, by simp, fun _ => ⟨g, off, rfl, fun j hj => h.cell j hj⟩⟩
theorem At8.keep {w w' : World} {base g off c : Nat} {xs : List Int} (h : At8 w base g off c xs) (hk : w'.heap[g]? = w.heap[g]?) : At8 w' base g off c xs :=
  ⟨h.ge, by obtain ⟨cs, h1, h2⟩ := h.blk; exact ⟨cs, hk.trans h1, h2⟩, h.le, h.big⟩
theorem At8.below {w w' : World} {base g off c : Nat} {xs : List Int} (h : At8 w base g off c xs) (hb : Below w.heap.size w w') : At8 w' base g off c xs := h.keep (hb.block _ h.lt)
theorem At8.drewN {w : World} {base g off c : Nat} {xs : List Int} (h : At8 w base g off c xs) (n : Nat) : At8 (w.drewN n) base g off c xs := h.keep rfl
theorem At8.drop {w : World} {base g off c : Nat} {xs : List Int} (h : At8 w base g off c xs) (m : Nat) (hm : m ≤ xs.length) : At8 w base g (off + m) (c - m) (xs.drop m) := by
  obtain ⟨cs, h1, h2, h3⟩ := h.blk
  have := h.le
  have := h.big
  refine ⟨h.ge, ⟨cs, h1, by omega, fun j hj => ?_⟩, by simp; omega, by omega⟩
  rw [List.length_drop] at hj
  rw [show off + m + j = off + (m + j) by omega, h3 (m + j) (by omega)]
  simp [List.getD_eq_getElem?_getD, List.getElem?_drop]
theorem At8.set {w : World} {base g off c : Nat} {xs : List Int} (h : At8 w base g off c xs) (j : Nat) (hj : j < xs.length) (x : Int) : At8 (w.setCell ⟨g, off + j, none⟩ (.int .u8 x)) base g off c (xs.set j x) := by
  obtain ⟨cs, h1, h2, h3⟩ := h.blk
  have := h.le
  refine ⟨h.ge, ⟨_, blk_set h1 (off + j) (.int .u8 x), by simpa using h2, fun i hi => ?_⟩, by simpa using h.le, h.big⟩
  rw [List.length_set] at hi
  rw [Array.getElem?_setIfInBounds]
  by_cases hij : j = i
  · subst hij
    rw [if_pos rfl, if_pos (by omega)]
    simp [List.getD_eq_getElem?_getD, hj]
  · rw [if_neg (by omega), h3 i hi]
    simp [List.getD_eq_getElem?_getD, List.getElem?_set, hij]
theorem Own.at8 {w : World} {base : Nat} {A : Option Addr} {n c : Nat} {xs : List Int} (h : Own w base (.slice A n c) xs) (h0 : 0 < xs.length) : ∃ g, A = some ⟨g, 0, none⟩ ∧ n = xs.length ∧ At8 w base g 0 c xs := by
  have h' := h
  rcases h.2 with ⟨_, hn⟩ | ⟨g, cap, cur, he, hb, hg, hle, hmx, hs, htk⟩
  · omega
  · injection he with e1 e2 e3
    subst e1 e2 e3
    have hl := h.1
    simp [bytes] at hl
    refine ⟨g, rfl, rfl, hb, ⟨cur, hg, by omega, fun j hj => ?_⟩, hle, by simpa [maxLen] using hmx⟩
    have h4 : (cur.toList.take (xs.length * 1))[j]? = some (.int .u8 (xs.getD j 0)) := by
      rw [htk]
      simp [bytes, List.getElem?_map, hj]
    rw [List.getElem?_take] at h4
    split at h4
    · simpa using h4
    · cases h4
/-- 'append(x, y)', one byte behind a slice that is owned. -/
theorem At8.app1 {w : World} {base g off c : Nat} {xs : List Int} (h : At8 w base g off c xs) (hbase : base ≤ w.heap.size) (b o : Nat) (c2 : Nat) (y : Int) (hy : w.cell? ⟨b, o, none⟩ = some (.int .u8 y)) (ty : TypeId) (hl : xs.length + 1 ≤ 140737488355328) :
    ∃ g' off' c' w', (Builtin.append_ #[22, 22] ty #[.slice (some ⟨g, off, none⟩) xs.length c, .slice (some ⟨b, o, none⟩) 1 c2]).run Tryd.prog w = .ok (.slice (some ⟨g', off', none⟩) (xs.length + 1) c') w' ∧
      At8 w' base g' off' c' (xs ++ [y]) ∧ Below base w w' ∧ (g' = g ∨ w.heap.size ≤ g') := by
  obtain ⟨i0, hi, hz0, hz1, hz2⟩ := info_parts infoU8
  obtain ⟨cs, h1, h2, h3⟩ := h.blk
  have hle := h.le
  have hnews : ∀ j u, [Value.int .u8 y][j]? = some u → w.cell? ((⟨b, o, none⟩ : Addr).add j) = some u := by
    intro j u hj
    cases j with
    | zero => simp at hj; subst hj; simpa [Addr.add] using hy
    | succ j => simp at hj
  by_cases hr : xs.length + 1 ≤ c
  · have hrun := run_append_room_cells (P := Tryd.prog) w 22 ty 5 i0 Tryd.underlying22 hi g off xs.length c ⟨b, o, none⟩ 1 c2 [.int .u8 y] (by simp [hz1]) hnews (by simp [Value.oneCell']) hr
      (fun j hj => by
        simp at hj; subst hj
        rw [hz1, Nat.mul_one, Nat.add_zero, blk_cell h1 (off + xs.length) (v := cs[off + xs.length]'(by omega)) (by simp)]; rfl) (fun j hj => frozen_row h1 _)
    rw [hz1, Nat.mul_one] at hrun
    simp only [World.setCells] at hrun
    refine ⟨g, off, c, _, hrun, ⟨h.ge, ⟨_, blk_set h1 (off + xs.length) (.int .u8 y), by simpa using h2, fun j hj => ?_⟩, by simpa using hr, h.big⟩, (Below.refl _ w).setCell (p := ⟨g, off + xs.length, none⟩) h.ge _, .inl rfl⟩
    simp only [List.length_append, List.length_singleton] at hj
    rw [Array.getElem?_setIfInBounds]
    by_cases hjl : j = xs.length
    · subst hjl
      rw [if_pos rfl, if_pos (by omega)]
      simp [List.getD_eq_getElem?_getD]
    · rw [if_neg (by omega), h3 j (by omega)]
      simp [List.getD_eq_getElem?_getD, List.getElem?_append_left (show j < xs.length by omega)]
  · obtain ⟨v', w', hrun, hown, hg⟩ := run_append_arg_grows (P := Tryd.prog) w 22 ty 5 i0 (.int .u8 0) 1 1 Tryd.underlying22 hi hz0 hz1 hz2 rfl (by decide) ⟨g, off, none⟩ xs.length c (bytes xs) (by simp [bytes])
      (fun j u hj => by
        have hjl : j < xs.length := by simpa [bytes] using (List.getElem?_eq_some_iff.1 hj).1
        have ha : (⟨g, off, none⟩ : Addr).add j = ⟨g, off + j, none⟩ := by unfold Addr.add; split <;> simp_all
        rw [ha, h.cell j hjl]
        simp [bytes, hjl] at hj
        simp [hj, hjl]) ⟨b, o, none⟩ 1 c2 [.int .u8 y] (by simp) hnews (by omega) (by simp only [maxLen]; omega) (by omega)
    have hown' : Own w' w.heap.size v' (xs ++ [y]) := by simpa [Own, bytes] using hown
    obtain ⟨A', c', rfl, _, _⟩ := hown'.rd
    obtain ⟨g', rfl, _, ha⟩ := hown'.at8 (by simp)
    refine ⟨g', 0, c', w', by simpa using hrun, ⟨Nat.le_trans hbase ha.ge, ha.blk, ha.le, ha.big⟩, ?_, ?_⟩
    · exact (Kp.of_grown (S := []) hg (by simp)).below hbase (by simp)
    · exact .inr ha.ge
end Go.Proofs.YtiboflejmnjdhaaDoor
end
section
set_option linter.unusedVariables false
set_option linter.unusedSimpArgs false
set_option maxRecDepth 100000
namespace Go.Proofs.YtiboflejmnjdhaaDoor
open Go Go.RowKit
theorem field_tabs (cs : Array Value) (W : World) : (Instr.field 99 (.agg cs) 1).run Tryd.prog W = .ok (.agg (cs.extract 256 512)) W := by kernel_rfl
theorem ext_hi (a b : List Int) (ha : a.length = 256) (hb : b.length = 256) : (w8 (a ++ b)).extract 256 512 = w8 b := by
  apply Array.toList_inj.1
  have h : ((List.map (Value.int IntKind.u8) b).take 256) = List.map (Value.int IntKind.u8) b := List.take_of_length_le (by simp [hb])
  simp only [w8, List.extract_toArray, List.extract_eq_take_drop, List.map_append]
  rw [List.drop_append, List.drop_of_length_le (by simp [ha]), List.length_map, ha]
  exact h
theorem field_box (W : World) : (Instr.field 99 (.agg (w8 aesTabs)) 1).run Tryd.prog W = .ok (.agg (w8 aesBox)) W := by
  have h := ext_hi _ _ (invUp_len 255) (boxUp_len 256)
  rw [field_tabs]
  exact congrArg (fun c => Result.ok (Value.agg c) W) h
/-- x, the first k bytes of which went through the box. -/
def boxX (l : List Int) : Nat → List Int
  | 0 => l
  | k + 1 => (boxX l k).set k (aesBox.getD ((boxX l k).getD k 0).toNat 0)
theorem boxX_len (l : List Int) : ∀ k, (boxX l k).length = l.length
  | 0 => rfl
  | k + 1 => by simp [boxX, boxX_len l k]
theorem boxX_hi (l : List Int) : ∀ k j, k ≤ j → (boxX l k).getD j 0 = l.getD j 0
  | 0, _, _ => rfl
  | k + 1, j, h => by
    rw [boxX, List.getD_eq_getElem?_getD, List.getElem?_set_ne (by omega), ← List.getD_eq_getElem?_getD]
    exact boxX_hi l k j (by omega)
def tail4 (all : List Int) : List Int := all.drop (all.length - 4)
def rotX (x : List Int) : List Int := boxX (x.drop 1 ++ [x.getD 0 0]) 4
def preX (n : Nat) (all : List Int) (p : Int) : List Int := if (n + 4) % 4 = 0 then (rotX (tail4 all)).set 0 (x8 ((rotX (tail4 all)).getD 0 0) p) else tail4 all
/-- The bytes of the keys, and the power, behind n rounds. -/
def ksch (K : List Int) : Nat → List Int × Int
  | 0 => (K, 1)
  | n + 1 => ((ksch K n).1 ++ xorUp (preX n (ksch K n).1 (ksch K n).2) ((ksch K n).1.drop (4 * n)) 4, if (n + 4) % 4 = 0 then double8 (ksch K n).2 else (ksch K n).2)
theorem tail4_len {all : List Int} (h : 4 ≤ all.length) : (tail4 all).length = 4 := by simp [tail4]; omega
theorem rotX_len {all : List Int} (h : 4 ≤ all.length) : (rotX (tail4 all)).length = 4 := by
  rw [rotX, boxX_len, List.length_append, List.length_drop, tail4_len h]; rfl
theorem preX_len {n : Nat} {all : List Int} {p : Int} (h : 4 ≤ all.length) : (preX n all p).length = 4 := by
  unfold preX; split
  · rw [List.length_set, rotX_len h]
  · exact tail4_len h
theorem ksch_len (K : List Int) (hK : K.length = 16) : ∀ n, (ksch K n).1.length = 16 + 4 * n
  | 0 => by simp [ksch, hK]
  | n + 1 => by
    have h := ksch_len K hK n
    rw [ksch, List.length_append, xorUp_len, preX_len (by omega), h]
    omega
def By8 (l : List Int) : Prop := ∀ x ∈ l, 0 ≤ x ∧ x < 256
theorem By8.get {l : List Int} (h : By8 l) (j : Nat) : 0 ≤ l.getD j 0 ∧ l.getD j 0 < 256 := by
  by_cases hj : j < l.length
  · rw [List.getD_eq_getElem?_getD, List.getElem?_eq_getElem hj]
    exact h _ (List.getElem_mem hj)
  · rw [List.getD_eq_getElem?_getD, List.getElem?_eq_none (by omega)]
    simp
theorem By8.app {a b : List Int} (ha : By8 a) (hb : By8 b) : By8 (a ++ b) := fun x hx => (List.mem_append.1 hx).elim (ha x) (hb x)
theorem By8.drop {a : List Int} (ha : By8 a) (n : Nat) : By8 (a.drop n) := fun x hx => ha x (List.drop_subset _ _ hx)
theorem By8.take {a : List Int} (ha : By8 a) (n : Nat) : By8 (a.take n) := fun x hx => ha x (List.take_subset _ _ hx)
theorem By8.set {a : List Int} (ha : By8 a) (n : Nat) {y : Int} (hy : 0 ≤ y ∧ y < 256) : By8 (a.set n y) := fun x hx => by
  rcases List.mem_or_eq_of_mem_set hx with h | rfl
  · exact ha x h
  · exact hy
theorem xorUp_get (a b : List Int) (n : Nat) (hn : n ≤ a.length) : ∀ j, j < n → (xorUp a b n).getD j 0 = x8 (a.getD j 0) (b.getD j 0) := by
  have hi : ∀ n j, n ≤ j → (xorUp a b n).getD j 0 = a.getD j 0 := by
    intro n
    induction n with
    | zero => intro j _; rfl
    | succ n ih =>
      intro j hj
      rw [xorUp, List.getD_eq_getElem?_getD, List.getElem?_set_ne (by omega), ← List.getD_eq_getElem?_getD]
      exact ih j (by omega)
  induction n with
  | zero => intro j h; omega
  | succ n ih =>
    intro j hj
    rw [xorUp, List.getD_eq_getElem?_getD, List.getElem?_set]
    by_cases h : n = j
    · subst h
      rw [if_pos rfl, if_pos (by rw [xorUp_len]; omega), hi n n (Nat.le_refl _)]
      rfl
    · rw [if_neg h, ← List.getD_eq_getElem?_getD]
      exact ih (by omega) j (by omega)
theorem By8.of_get {l : List Int} (h : ∀ j, j < l.length → 0 ≤ l.getD j 0 ∧ l.getD j 0 < 256) : By8 l := fun x hx => by
  obtain ⟨j, hj, rfl⟩ := List.getElem_of_mem hx
  have := h j hj
  rwa [List.getD_eq_getElem?_getD, List.getElem?_eq_getElem hj] at this
theorem xorUp_by8 (a b : List Int) : By8 (xorUp a b a.length) := .of_get fun j hj => by
  rw [xorUp_len] at hj
  rw [xorUp_get a b _ (Nat.le_refl _) j hj]
  exact x8_range _ _
theorem ksch_by8 (K : List Int) (hK : K.length = 16) (hb : By8 K) : ∀ n, By8 (ksch K n).1
  | 0 => hb
  | n + 1 => by
    rw [ksch]
    refine (ksch_by8 K hK hb n).app ?_
    have h := xorUp_by8 (preX n (ksch K n).1 (ksch K n).2) ((ksch K n).1.drop (4 * n))
    rwa [preX_len (by rw [ksch_len K hK]; omega)] at h
end Go.Proofs.YtiboflejmnjdhaaDoor
end
