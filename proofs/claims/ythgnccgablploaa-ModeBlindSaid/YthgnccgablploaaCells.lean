/- Many cells of one block stored at once; loads of many cells in a region that draws its order. -/
import Derived.Test.YthgnccgablploaaMem
import Derived.Deep.MidRow
import Derived.Laws.Rows
set_option linter.unusedVariables false
set_option linter.unusedSimpArgs false
namespace Go.Proofs.Ythgnccgablploaa
open Go Go.RowKit
def setAll (cs : Array Value) : Nat → List Value → Array Value
  | _, [] => cs
  | o, v :: r => setAll (cs.setIfInBounds o v) (o + 1) r
theorem blk_setCells {b : Nat} {t : TypeId} {fr : Nat × Nat} : ∀ (vs : List Value) (o : Nat) (cs : Array Value) (w : World), w.heap[b]? = some (.cells cs t fr) → (w.setCells b o vs).heap[b]? = some (.cells (setAll cs o vs) t fr)
  | [], _, _, _, h => h
  | v :: r, o, cs, w, h => by
    rw [World.setCells, setAll]
    exact blk_setCells r (o + 1) _ _ (blk_set h o v)
theorem setAll_list (Y : List Value) : ∀ (vs xs pre : List Value), xs.length = vs.length → setAll (pre ++ xs ++ Y).toArray pre.length vs = (pre ++ vs ++ Y).toArray
  | [], xs, pre, h => by
    obtain rfl : xs = [] := List.eq_nil_of_length_eq_zero h
    simp [setAll]
  | v :: r, [], pre, h => by simp at h
  | v :: r, x :: xs, pre, h => by
    rw [setAll]
    have h1 := setAll_list Y r xs (pre ++ [v]) (by simpa using h)
    simp only [List.append_assoc, List.cons_append, List.nil_append, List.length_append, List.length_cons, List.length_nil, Nat.zero_add] at h1 ⊢
    rw [← h1]
    congr 1
    simp
theorem setAll_head (xs ys : Array Value) (Y : Array Value) (h : xs.size = ys.size) : setAll (xs ++ Y) 0 ys.toList = ys ++ Y := by
  have := setAll_list Y.toList ys.toList xs.toList [] (by simpa using h)
  have e : xs ++ Y = (xs.toList ++ Y.toList).toArray := by simp
  have e2 : ys ++ Y = (ys.toList ++ Y.toList).toArray := by simp
  rw [e, e2]
  simpa using this
theorem Kp.setCells {S : List Nat} {a : World} {b : Nat} : ∀ (vs : List Value) (o : Nat) {w : World}, Kp S a w → (b < a.heap.size → b ∈ S) → Kp S a (w.setCells b o vs)
  | [], _, _, h, _ => h
  | v :: r, o, w, h, hp => by rw [World.setCells]; exact Kp.setCells r (o + 1) (h.setCell (p := ⟨b, o, none⟩) hp v) hp
theorem there_row {w : World} {b : Nat} {cs : Array Value} {t : TypeId} (h : w.heap[b]? = some (.cells cs t (0, 0))) (o n : Nat) (hn : o + n ≤ cs.size) : w.there b o n := fun j hj => by
  refine ⟨?_, frozen_row h _⟩
  rw [blk_cell h (o + j) (v := cs[o + j]'(by omega)) (by simp)]
  rfl
theorem alloc_drew {w wd : World} {o : Obj} (h : (w.alloc o).drew = wd) : Below w.heap.size w wd ∧ wd.heap[w.heap.size]? = some o := by
  subst h
  exact ⟨((Below.refl w.heap.size w).alloc (Nat.le_refl _) _).drew, new_at (W := w) rfl⟩
/-- Bytes that are read lie in no block of words. -/
theorem Rd.setRow {W : World} {A : Option Addr} {c : Nat} {xs : List Int} (h : Rd W A c xs) {g : Nat} {ws : List Int} {t : TypeId} {fr : Nat × Nat} (hg : W.heap[g]? = some (.cells (w32 ws) t fr)) (cs : Array Value) : Rd (W.setRow g cs) A c xs :=
  ⟨h.le, h.big, h.nil, fun hp => by
    obtain ⟨b, off, e, hc⟩ := h.cells hp
    refine ⟨b, off, e, fun j hj => ?_⟩
    have h1 := hc j hj
    have hne : b ≠ g := by
      rintro rfl
      simp only [World.cell?, hg] at h1
      by_cases hl : off + j < ws.length
      · simp [w32, hl] at h1
      · simp [w32, hl] at h1
    exact (World.cell?_of_block (setRow_other _ _ _ _ hne)).trans h1⟩
section
variable {P : Program} {o : Oper} {a : Act} {W : World}
theorem yields_load_row (ty : TypeId) (x : Operand) (ho : o.op = .load ty x) (g : Nat) (hx : a.eval x = .pointer (some ⟨g, 0, none⟩)) (t : TypeId) (cs : Array Value) (fr : Nat × Nat) (d : TypeDesc) (hg : W.heap[g]? = some (.cells cs t fr))
    (hu : P.underlying ty = some d) (hd : (match d with | .struct _ | .array _ _ => true | _ => false) = true) (hi : (P.info? ty).map (·.size) = some cs.size) : (execOp a.eval o).run P W = .ok (.value (.agg cs)) W := by
  unfold execOp
  simp only [ho, hx, Instr.loadAt, Instr.sureAddr, Sem.run_bind, Sem.run_pure, Result.andThen_ok, run_loadVar_row W g t ty cs fr d hg hu hd hi]
theorem yields_load_mid (ty : TypeId) (x : Operand) (ho : o.op = .load ty x) (b i : Nat) (hx : a.eval x = .pointer (some ⟨b, i, none⟩)) (cs : List Value) (d : TypeDesc) (hc : W.rangeAt b i cs)
    (hu : P.underlying ty = some d) (hd : d.isRow = true) (hi : (P.info? ty).map (·.size) = some cs.length) : (execOp a.eval o).run P W = .ok (.value (.agg cs.toArray)) W := by
  unfold execOp
  simp only [ho, hx, Instr.loadAt, Instr.sureAddr, Sem.run_bind, Sem.run_pure, Result.andThen_ok, run_loadVar_mid W b i ty cs d hc hu hd hi]
end
end Go.Proofs.Ythgnccgablploaa
