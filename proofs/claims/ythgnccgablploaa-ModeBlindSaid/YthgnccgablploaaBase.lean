/- Words on worlds and blocks, over whatever program. -/
import Derived.WalkKit
import Derived.Deep.QuietTactic
import Derived.BigQuiet
import Derived.WalkSpells
import Derived.WalkLawsBesides
import Derived.KernelRfl
set_option linter.unusedVariables false
set_option linter.unusedSimpArgs false
namespace Go.Proofs.Ythgnccgablploaa
open Go Go.RowKit
/-- A block of words. -/
def w32 (l : List Int) : Array Value := (l.map (Value.int .u32)).toArray
/-- A block of bytes. -/
def w8 (l : List Int) : Array Value := (l.map (Value.int .u8)).toArray
def wk (q : IntKind) (l : List Int) : Array Value := (l.map (Value.int q)).toArray
theorem w32_size (l : List Int) : (w32 l).size = l.length := by simp [w32]
theorem w8_size (l : List Int) : (w8 l).size = l.length := by simp [w8]
theorem w32_one (l : List Int) : (w32 l).all (·.oneCell') = true := by simp [w32, Value.oneCell']
theorem w8_one (l : List Int) : (w8 l).all (·.oneCell') = true := by simp [w8, Value.oneCell']
theorem w32_get (l : List Int) (k : Nat) (h : k < l.length) : (w32 l)[k]? = some (.int .u32 (l.getD k 0)) := by simp [w32, h]
theorem w8_get (l : List Int) (k : Nat) (h : k < l.length) : (w8 l)[k]? = some (.int .u8 (l.getD k 0)) := by simp [w8, h]

theorem new_at {W : World} {o : Obj} {n : Nat} (h : n = W.heap.size) : (W.alloc o).heap[n]? = some o := h ▸ heap_alloc_new W o
theorem blk_alloc {w : World} {g : Nat} {o : Obj} (h : w.heap[g]? = some o) (o' : Obj) : (w.alloc o').heap[g]? = some o := (Below.heap_alloc w o' g (Array.getElem?_eq_some_iff.1 h).1).trans h
theorem blk_set {w : World} {g : Nat} {t : TypeId} {cs : Array Value} {fr : Nat × Nat} (h : w.heap[g]? = some (.cells cs t fr)) (i : Nat) (u : Value) : (w.setCell ⟨g, i, none⟩ u).heap[g]? = some (.cells (cs.setIfInBounds i u) t fr) := by
  simp [World.setCell, Array.getElem?_modify, h]
theorem blk_far {w : World} {g : Nat} {o : Obj} (h : w.heap[g]? = some o) {p : Addr} (hp : g ≠ p.block) (u : Value) : (w.setCell p u).heap[g]? = some o := (Below.heap_setCell w p u g hp).trans h
theorem blk_cell {w : World} {g : Nat} {t : TypeId} {cs : Array Value} {fr : Nat × Nat} (h : w.heap[g]? = some (.cells cs t fr)) (i : Nat) {v : Value} (hv : cs[i]? = some v) : w.cell? ⟨g, i, none⟩ = some v := by
  simp only [World.cell?, h, Option.isSome_none]
  exact hv
theorem cell_new {W : World} {cs : Array Value} {t : TypeId} {fr : Nat × Nat} {i n : Nat} {v : Value} (hn : n = W.heap.size) (h : cs[i]? = some v) : (W.alloc (.cells cs t fr)).cell? ⟨n, i, none⟩ = some v := by
  have := new_at (W := W) (o := .cells cs t fr) hn
  simp only [World.cell?, this, Option.isSome_none]
  exact h
theorem cell_w32 {W : World} {B : Nat} {ws : List Int} {t : TypeId} (h : W.heap[B]? = some (.cells (w32 ws) t (0, 0))) (i : Nat) (hi : i < ws.length) : W.cell? ⟨B, i, none⟩ = some (.int .u32 (ws.getD i 0)) := by
  simp [World.cell?, h, w32, hi]
theorem cell_w8 {W : World} {B : Nat} {ws : List Int} {t : TypeId} (h : W.heap[B]? = some (.cells (w8 ws) t (0, 0))) (i : Nat) (hi : i < ws.length) : W.cell? ⟨B, i, none⟩ = some (.int .u8 (ws.getD i 0)) := by
  simp [World.cell?, h, w8, hi]
theorem frozen_row {W : World} {B : Nat} {cs : Array Value} {t : TypeId} (h : W.heap[B]? = some (.cells cs t (0, 0))) (i : Nat) : W.frozen? ⟨B, i, none⟩ = false := by
  simp [World.frozen?, h]
theorem set_w32 {W : World} {B : Nat} {ws : List Int} {t : TypeId} (h : W.heap[B]? = some (.cells (w32 ws) t (0, 0))) (i : Nat) (x : Int) : (W.setCell ⟨B, i, none⟩ (.int .u32 x)).heap[B]? = some (.cells (w32 (ws.set i x)) t (0, 0)) := by
  simp [World.setCell, Array.getElem?_modify, h, w32, List.map_set]
theorem set_w8 {W : World} {B : Nat} {ws : List Int} {t : TypeId} (h : W.heap[B]? = some (.cells (w8 ws) t (0, 0))) (i : Nat) (x : Int) : (W.setCell ⟨B, i, none⟩ (.int .u8 x)).heap[B]? = some (.cells (w8 (ws.set i x)) t (0, 0)) := by
  simp [World.setCell, Array.getElem?_modify, h, w8, List.map_set]
theorem below_drewN {B : Nat} {w W : World} (h : Below B w W) (n : Nat) : Below B w (W.drewN n) := ⟨h.os, h.tape, h.output, h.size, h.block⟩
theorem below_setRow {B : Nat} {w W : World} (h : Below B w W) {g : Nat} (hg : B ≤ g) (cs : Array Value) : Below B w (W.setRow g cs) :=
  h.trans ⟨rfl, rfl, rfl, by simp [World.setRow], fun k hk => by simp only [World.setRow]; rw [Array.getElem?_modify]; simp; omega⟩
theorem run_index_row {P : Program} {t e n : Nat} {q : IntKind} (ht : P.underlying t = some (.array n e)) (he : P.underlying e = some (.int q)) (hs : (P.info? e).map (·.size) = some 1) (cs : Array Value) (k : Nat) (hk : k < n) (v : Value) (hv : cs[k]? = some v) (W : World) :
    (Instr.index t (.agg cs) (.int .i64 k)).run P W = .ok v W := by
  obtain ⟨i, hi, hi1⟩ := Option.map_eq_some_iff.1 hs
  have h1 : (k : Int) < (n : Int) := by omega
  have h2 : cs[k * 1]? = some v := by simpa using hv
  simp [Instr.index, run_underlying ht, run_underlying he, asIntOf, h1, sizeOf, typeInfo, hi, hi1, part, isAgg, hv]
  omega
theorem setRow_alloc (W : World) (old cs : Array Value) (t : TypeId) (fr : Nat × Nat) : (W.alloc (.cells old t fr)).setRow W.heap.size cs = W.alloc (.cells cs t fr) := by
  have h : (W.heap.push (.cells old t fr)).modify W.heap.size (fun | .cells _ t f => .cells cs t f | o => o) = W.heap.push (.cells cs t fr) := by
    apply Array.ext_getElem?
    intro i
    rw [Array.getElem?_modify, Array.getElem?_push, Array.getElem?_push]
    by_cases hi : i = W.heap.size
    · subst hi; simp
    · simp [hi, Ne.symm hi]
  show ({ (W.alloc (.cells old t fr)) with heap := (W.heap.push (.cells old t fr)).modify W.heap.size _ } : World) = { W with heap := W.heap.push (.cells cs t fr) }
  rw [← h]
  rfl
theorem wpList_store_new {P : Program} {ops : Array Oper} {rest : List Oper} {o : Oper} {a : Act} {w : World} {Q : Exit → Act → World → Prop} (hgd : o.guard = none) (ty : TypeId) (x y : Operand) (ho : o.op = .store ty x y)
    (cells : Array Value) (hx : a.eval x = .pointer (some ⟨w.heap.size, 0, none⟩)) (hy : a.eval y = .agg cells)
    (t : TypeId) (old : Array Value) (hi : (P.info? ty).map (·.size) = some cells.size) (hold : old.size = cells.size) (h1 : cells.all (·.oneCell') = true)
    (h : wpList P ops Q rest (a.put o.dst undef) (w.alloc (.cells cells t))) : wpList P ops Q (o :: rest) a (w.alloc (.cells old t)) :=
  wpList_store_row hgd ty x y ho w.heap.size cells hx hy t old (new_at rfl) hi hold h1 (by rw [setRow_alloc]; exact h)
end Go.Proofs.Ythgnccgablploaa
