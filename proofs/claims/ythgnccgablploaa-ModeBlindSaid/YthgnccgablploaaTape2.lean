/- Contracts of package tape: what a tape is; begin. -/
import Derived.Test.YthgnccgablploaaTape
import Derived.Test.YthgnccgablploaaRegF
import Derived.Conc.SmallLaws
set_option linter.unusedVariables false
set_option linter.unusedSimpArgs false
set_option maxRecDepth 100000
namespace Go.Proofs.Ythgnccgablploaa
open Go Go.RowKit Go.Conc
/-- The blocks that wait. -/
def waits (F R seed : List Int) (p q : Nat) : Array Value := ((List.range q).map fun i => Value.agg (w8 (blkOf F R seed (p + i)))).toArray
theorem waits_size (F R seed : List Int) (p q : Nat) : (waits F R seed p q).size = q := by simp [waits]
theorem waits_push (F R seed : List Int) (p q : Nat) : (waits F R seed p q).push (.agg (w8 (blkOf F R seed (p + q)))) = waits F R seed p (q + 1) := by simp [waits, List.range_succ]
theorem waits_shift (F R seed : List Int) (p q : Nat) : (waits F R seed p (q + 1)).extract 1 (q + 1) = waits F R seed (p + 1) q := by
  apply Array.ext
  · simp [waits]
  · intro i h1 h2
    simp [waits] at h1 h2 ⊢
    congr 2
    omega
theorem waits_head (F R seed : List Int) (p q : Nat) : (waits F R seed p (q + 1)).getD 0 undef = .agg (w8 (blkOf F R seed p)) := by simp [waits]
/-- A tape's row. -/
def trow (sA : Option Addr) (sn sc : Nat) (lA : Option Addr) (ln lc : Nat) (made : Nat) (ch : Option Nat) (at_ : Nat) (begun : Bool) : Array Value :=
  #[.slice sA sn sc, .slice lA ln lc, .int .i64 made, .chan ch, .int .i64 at_, .bool begun]
/-- The channel of a tape. -/
def Waits (F R : List Int) (w : World) (ch : Option Nat) (seed : List Int) (p q : Nat) : Prop :=
  match ch with
  | none => q = 0
  | some cb => q ≤ 4 ∧ ∃ s r, w.heap[cb]? = some (.chan 4 (waits F R seed p q) false s r false)
/-- A tape of a seed: left comes next, then the blocks from number p on; q wait; at were drawn. -/
structure IsT (F R : List Int) (w : World) (tb : Nat) (ch : Option Nat) (sA : Option Addr) (sc : Nat) (seed left : List Int) (p at_ : Nat) : Prop where
  row : ∃ lA lc q begun, w.heap[tb]? = some (.cells (trow sA seed.length sc lA left.length lc (p + q) ch at_ begun) 64 (0, 0)) ∧ Rd w sA sc seed ∧ Rd w lA lc left ∧ Waits F R w ch seed p q
theorem Waits.kp {F R : List Int} {S : List Nat} {w w' : World} {ch : Option Nat} {seed : List Int} {p q : Nat} (h : Waits F R w ch seed p q) (hk : Kp S w w') (hS : ∀ c, ch = some c → c ∉ S) : Waits F R w' ch seed p q := by
  cases ch with
  | none => exact h
  | some cb =>
    obtain ⟨h1, s, r, h2⟩ := h
    exact ⟨h1, s, r, hk.at_ h2 (hS cb rfl)⟩
/-- Where the slices of a tape lie is no matter, if only cells of other kinds are written. -/
theorem IsT.below {F R : List Int} {w w' : World} {tb : Nat} {ch : Option Nat} {sA : Option Addr} {sc : Nat} {seed left : List Int} {p at_ : Nat} (h : IsT F R w tb ch sA sc seed left p at_) (hk : Below w.heap.size w w') : IsT F R w' tb ch sA sc seed left p at_ := by
  obtain ⟨lA, lc, q, bg, h1, h2, h3, h4⟩ := h.row
  refine ⟨lA, lc, q, bg, below_at hk h1 (blk_lt h1), h2.below hk, h3.below hk, ?_⟩
  cases ch with
  | none => exact h4
  | some cb =>
    obtain ⟨h5, s, r, h6⟩ := h4
    exact ⟨h5, s, r, below_at hk h6 (blk_lt h6)⟩
theorem IsT.lt {F R : List Int} {w : World} {tb : Nat} {ch : Option Nat} {sA : Option Addr} {sc : Nat} {seed left : List Int} {p at_ : Nat} (h : IsT F R w tb ch sA sc seed left p at_) : tb < w.heap.size := by
  obtain ⟨lA, lc, q, bg, h1, h2, h3, h4⟩ := h.row
  exact blk_lt h1

theorem eql_chan' (d : Nat) (x y : Option Nat) (w : World) : (Op.equalIn (d + 1) 62 (.chan x) (.chan y)).run Try.prog w = .ok (x == y) w := by
  simp [Op.equalIn, run_underlying Try.underlying62]
theorem eql_chan (x y : Option Nat) (w : World) : (binOp .eql 62 (.chan x) (.chan y)).run Try.prog w = .ok (.bool (x == y)) w := by
  have h := eql_chan' 9999 x y w
  have e : Op.equal 62 (.chan x) (.chan y) = Op.equalIn (9999 + 1) 62 (.chan x) (.chan y) := rfl
  simp only [binOp, e, Sem.run_bind, h, Result.andThen_ok, Sem.run_pure]
theorem make_chan (w : World) : (Instr.makeChan 62 (.int .i64 4)).run Try.prog w = .ok (.chan (some w.heap.size)) (w.alloc (.chan 4 #[] false 0 0 false)) := by
  have hi0 : (Try.prog.info? 42).map (·.bytes) = some 32 := by kernel_rfl
  obtain ⟨i, hi, hb⟩ := Option.map_eq_some_iff.1 hi0
  simpa using run_makeChan (P := Try.prog) (w := w) Try.underlying62 hi .i64 4 (by omega) (by rw [hb]; omega)
/-- Where a tape's left bytes lie: if there are any. -/
def LeftIn (w : World) (tb : Nat) (G : Nat → Prop) : Prop := ∀ A n c a, w.cell? ⟨tb, 1, none⟩ = some (.slice A n c) → 0 < n → A = some a → G a.block
theorem begin_any2 (F R : List Int) (tb : Nat) (ch : Option Nat) (sA : Option Addr) (sc : Nat) (seed left : List Int) (p at_ : Nat) (w : World) (hT : IsT F R w tb ch sA sc seed left p at_) :
    Calls Try.prog 25 #[.pointer (some ⟨tb, 0, none⟩)] w fun e w' => e = .returned (.tuple #[]) ∧ (∃ cb, IsT F R w' tb (some cb) sA sc seed left p at_ ∧ (ch = some cb ∨ (ch = none ∧ w.heap.size ≤ cb))) ∧ Kp [tb] w w' ∧ w'.cell? ⟨tb, 1, none⟩ = w.cell? ⟨tb, 1, none⟩ := by
  obtain ⟨lA, lc, q, bg, h1, h2, h3, h4⟩ := hT
  have c3 : w.cell? ⟨tb, 3, none⟩ = some (.chan ch) := blk_cell h1 3 rfl
  have hlt := blk_lt h1
  have H1 := Lib.hid h1
  have H2 := Lib.hid h2
  have H3 := Lib.hid h3
  have H4 := Lib.hid h4
  clear h1 h2 h3 h4
  have heq := fun W => eql_chan ch none W
  cases ch with
  | some cb =>
    have f5 : w.frozen? ⟨tb, 5, none⟩ = false := frozen_row H1.out 5
    have c5 : w.cell? ⟨tb, 5, none⟩ = some (.bool bg) := blk_cell H1.out 5 rfl
    go_enter Try.func25, Try.ntmps25
    go_wp2
    go_end0
    refine ⟨rfl, ⟨cb, ⟨lA, lc, q, true, blk_set H1.out 5 _, H2.out.setCell c5 (by simp) _, H3.out.setCell c5 (by simp) _, ?_⟩, .inl rfl⟩, (Kp.refl [tb] w).setCell (p := ⟨tb, 5, none⟩) (by simp) _, (blk_cell (blk_set H1.out 5 _) 1 rfl).trans (blk_cell H1.out 1 rfl).symm⟩
    obtain ⟨h5, s, r, h6⟩ := H4.out
    exact ⟨h5, s, r, blk_far h6 (by rintro rfl; have := H1.out.symm.trans h6; simp at this) _⟩
  | none =>
    have f5 : w.frozen? ⟨tb, 5, none⟩ = false := frozen_row H1.out 5
    have c5 : w.cell? ⟨tb, 5, none⟩ = some (.bool bg) := blk_cell H1.out 5 rfl
    have f3 : w.frozen? ⟨tb, 3, none⟩ = false := frozen_row H1.out 3
    have hmk := make_chan w
    go_enter Try.func25, Try.ntmps25
    go_wp2
    go_end0
    have hq : q = 0 := H4.out
    subst hq
    have h1 := blk_set (blk_set H1.out 3 (.chan (some w.heap.size))) 5 (.bool true)
    have c5' : (w.setCell ⟨tb, 3, none⟩ (.chan (some w.heap.size))).cell? ⟨tb, 5, none⟩ = some (.bool bg) := blk_cell (blk_set H1.out 3 _) 5 rfl
    refine ⟨rfl, ⟨w.heap.size, ⟨lA, lc, 0, true, blk_alloc h1 _, ((H2.out.setCell c3 (by simp) _).setCell c5' (by simp) _).alloc _, ((H3.out.setCell c3 (by simp) _).setCell c5' (by simp) _).alloc _, ?_⟩, .inr ⟨trivial, Nat.le_refl _⟩⟩, (((Kp.refl [tb] w).setCell (p := ⟨tb, 3, none⟩) (by simp) _).setCell (p := ⟨tb, 5, none⟩) (by simp) _).alloc _, (blk_cell (blk_alloc h1 _) 1 rfl).trans (blk_cell H1.out 1 rfl).symm⟩
    exact ⟨by omega, 0, 0, new_at (by simp [World.setCell])⟩
theorem begin_any (F R : List Int) (tb : Nat) (ch : Option Nat) (sA : Option Addr) (sc : Nat) (seed left : List Int) (p at_ : Nat) (w : World) (hT : IsT F R w tb ch sA sc seed left p at_) :
    Calls Try.prog 25 #[.pointer (some ⟨tb, 0, none⟩)] w fun e w' => e = .returned (.tuple #[]) ∧ (∃ cb, IsT F R w' tb (some cb) sA sc seed left p at_ ∧ (ch = some cb ∨ (ch = none ∧ w.heap.size ≤ cb))) ∧ Kp [tb] w w' := by
  refine (begin_any2 F R tb ch sA sc seed left p at_ w hT).mono ?_
  rintro e w' ⟨h1, h2, h3, _⟩
  exact ⟨h1, h2, h3⟩
end Go.Proofs.Ythgnccgablploaa
