/- Contracts of package mode: the ideal mode's tables. -/
import Derived.Test.YthgnccgablploaaTape5
import Derived.Test.YthgnccgablploaaMaps
set_option linter.unusedVariables false
set_option linter.unusedSimpArgs false
set_option maxRecDepth 100000
namespace Go.Proofs.Ythgnccgablploaa
open Go Go.RowKit
/-- A table: no map yet, or one. -/
def IsTb {K V : Type} (w : World) (mr : Option Nat) (kv : K → Value) (vv : V → Value) (m : List (K × V)) : Prop :=
  match mr with
  | none => m = []
  | some r => IsM w r kv vv m
abbrev BK := Int × ByteArray × ByteArray
theorem zero_str (w : World) : (zeroValue 9).run Try.prog w = .ok (.string ByteArray.empty) w := by
  have h0 : (Try.prog.info? 9).bind (·.zero) = some (.string ByteArray.empty) := by kernel_rfl
  obtain ⟨i, hi, hz⟩ := Option.bind_eq_some_iff.1 h0
  simp [zeroValue, typeInfo, hi, hz]
theorem yields_lookup {P : Program} {o : Oper} {a : Act} {W : World} (t : TypeId) (x ix : Operand) (ok : Bool) (ho : o.op = .lookup t x ix ok) (vx vk v : Value) (hx : a.eval x = vx) (hk : a.eval ix = vk) (h : (Instr.lookup t vx vk ok).run P W = .ok v W) : (execOp a.eval o).run P W = .ok (.value v) W := by
  unfold execOp
  simp [ho, hx, hk, h]
theorem look_tb_box (mr : Option Nat) (k : BK) (m : List (BK × ByteArray)) (w : World) (hm : IsTb w mr kvb Value.string m) : (Instr.lookup 53 (.map mr) (kvb k) true).run Try.prog w = .ok (found k m Value.string (.string ByteArray.empty)) w := by
  cases mr with
  | none =>
    have hm : m = [] := hm
    subst hm
    exact look_boxnil (V := Unit) 53 9 Try.underlying53 _ k w (zero_str w)
  | some r => exact look_box 53 9 Try.underlying53 Value.string _ k m r w hm (zero_str w)
theorem IsTb.below {K V : Type} {w w' : World} {mr : Option Nat} {kv : K → Value} {vv : V → Value} {m : List (K × V)} (h : IsTb w mr kv vv m) (hb : Below w.heap.size w w') : IsTb w' mr kv vv m := by
  cases mr with
  | none => exact h
  | some r =>
    obtain ⟨es, cl, h1, h2⟩ := h
    exact ⟨es, cl, below_at hb h1 (blk_lt h1), h2⟩
theorem get_box (ib off : Nat) (mr : Option Nat) (e1 : Int) (h1 b1 : ByteArray) (m : List (BK × ByteArray)) (w : World) (hc : w.cell? ⟨ib, off, none⟩ = some (.map mr)) (hm : IsTb w mr kvb Value.string m) :
    Calls Try.prog 49 #[.pointer (some ⟨ib, off, none⟩), .agg #[.int .i64 e1, .string h1, .string b1]] w fun e w' => e = .returned (found (e1, h1, b1) m Value.string (.string ByteArray.empty)) ∧ Below w.heap.size w w' := by
  have Hc := Lib.hid hc
  have Hm := Lib.hid hm
  obtain ⟨fv, fb, hf⟩ : ∃ fv fb, found (e1, h1, b1) m Value.string (.string ByteArray.empty) = .tuple #[fv, .bool fb] := ⟨_, _, rfl⟩
  have Hf := Lib.hid hf
  clear hc hm hf
  go_enter Try.func49, Try.ntmps49
  go_wp2
  refine seg_begin (fun W => W.cell? ⟨ib, off, none⟩ = some (.map mr) ∧ Hid (W.heap[w.heap.size]? = some (.cells #[.int .i64 e1, .string h1, .string b1] 96 (0, 0))) ∧ Hid (IsTb W mr kvb Value.string m)) [3, 4, 5] (by kernel_rfl) ?_
  generalize hwd : World.drew _ = wd
  have hB := (alloc_drew hwd).1
  have HS : Hid (wd.cell? ⟨ib, off, none⟩ = some (.map mr) ∧ Hid (wd.heap[w.heap.size]? = some (.cells #[.int .i64 e1, .string h1, .string b1] 96 (0, 0))) ∧ Hid (IsTb wd mr kvb Value.string m)) :=
    Lib.hid ⟨(hB.cell (p := ⟨ib, off, none⟩) (World.block_lt_of_cell? w _ Hc.out)).trans Hc.out, Lib.hid (alloc_drew hwd).2, Lib.hid (Hm.out.below hB)⟩
  have HB := Lib.hid hB
  clear hwd hB
  (refine seg_take 0 ?_ rfl (by kernel_rfl) (by kernel_rfl) (by kernel_rfl) (by kernel_rfl) (by kernel_rfl) rfl (fun _ _ _ h => h) rfl ?_ ?_; rotate_left; (focus (intro w; go_simp; try with_reducible rfl)); (try simp only [List.getElem_toArray, List.getElem_cons_zero, List.getElem_cons_succ, Act.put, List.setIfInBounds_toArray, List.set_cons_zero, List.set_cons_succ]); refine seg_take 1 ?_ rfl (by kernel_rfl) (by kernel_rfl) (by kernel_rfl) (by kernel_rfl) (by kernel_rfl) rfl (fun _ _ _ h => h) rfl ?_ ?_; rotate_left; (focus (intro w; go_simp; try with_reducible rfl)); (try simp only [List.getElem_toArray, List.getElem_cons_zero, List.getElem_cons_succ, Act.put, List.setIfInBounds_toArray, List.set_cons_zero, List.set_cons_succ]); refine seg_take 2 ?_ rfl (by kernel_rfl) (by kernel_rfl) (by kernel_rfl) (by kernel_rfl) (by kernel_rfl) rfl (fun _ _ _ h => h) rfl ?_ ?_; rotate_left; (focus (intro w; go_simp; try with_reducible rfl)); (try simp only [List.getElem_toArray, List.getElem_cons_zero, List.getElem_cons_succ, Act.put, List.setIfInBounds_toArray, List.set_cons_zero, List.set_cons_succ]); refine seg_read 3 ?_ rfl (by kernel_rfl) (by kernel_rfl) (by kernel_rfl) (by kernel_rfl) (by kernel_rfl) (by kernel_rfl) (fun _ _ _ h => h) rfl HS.out ?_ ?_; rotate_left; (focus (intro w hSw; (try dsimp only at hSw); go_split_ands; go_simp; try with_reducible rfl)); (try simp only [List.getElem_toArray, List.getElem_cons_zero, List.getElem_cons_succ, Act.put, List.setIfInBounds_toArray, List.set_cons_zero, List.set_cons_succ]))
  (refine seg_read 4 (.agg #[.int .i64 e1, .string h1, .string b1]) rfl (by kernel_rfl) (by kernel_rfl) (by kernel_rfl) (by kernel_rfl) (by kernel_rfl) (by kernel_rfl) (fun _ _ _ h => h) rfl HS.out (fun W hW => yields_load_row 96 _ rfl w.heap.size rfl _ _ _ _ hW.2.1.out Try.underlying96 rfl (by kernel_rfl)) ?_; (try simp only [List.getElem_toArray, List.getElem_cons_zero, List.getElem_cons_succ, Act.put, List.setIfInBounds_toArray, List.set_cons_zero, List.set_cons_succ]))
  (refine seg_read 5 (.tuple #[fv, .bool fb]) rfl (by kernel_rfl) (by kernel_rfl) (by kernel_rfl) (by kernel_rfl) (by kernel_rfl) (by kernel_rfl) (fun _ _ _ h => h) rfl HS.out (fun W hW => yields_lookup _ _ _ _ rfl _ _ _ rfl rfl (by rw [← Hf.out]; exact look_tb_box mr (e1, h1, b1) m W hW.2.2.out)) ?_; (try simp only [List.getElem_toArray, List.getElem_cons_zero, List.getElem_cons_succ, Act.put, List.setIfInBounds_toArray, List.set_cons_zero, List.set_cons_succ]))
  (refine seg_take 6 ?_ rfl (by kernel_rfl) (by kernel_rfl) (by kernel_rfl) (by kernel_rfl) (by kernel_rfl) rfl (fun _ _ _ h => h) rfl ?_ ?_; rotate_left; (focus (intro w; go_simp; try with_reducible rfl)); (try simp only [List.getElem_toArray, List.getElem_cons_zero, List.getElem_cons_succ, Act.put, List.setIfInBounds_toArray, List.set_cons_zero, List.set_cons_succ]); refine seg_take 7 ?_ rfl (by kernel_rfl) (by kernel_rfl) (by kernel_rfl) (by kernel_rfl) (by kernel_rfl) rfl (fun _ _ _ h => h) rfl ?_ ?_; rotate_left; (focus (intro w; go_simp; try with_reducible rfl)); (try simp only [List.getElem_toArray, List.getElem_cons_zero, List.getElem_cons_succ, Act.put, List.setIfInBounds_toArray, List.set_cons_zero, List.set_cons_succ]); refine seg_take 8 ?_ rfl (by kernel_rfl) (by kernel_rfl) (by kernel_rfl) (by kernel_rfl) (by kernel_rfl) rfl (fun _ _ _ h => h) rfl ?_ ?_; rotate_left; (focus (intro w; go_simp; try with_reducible rfl)); (try simp only [List.getElem_toArray, List.getElem_cons_zero, List.getElem_cons_succ, Act.put, List.setIfInBounds_toArray, List.set_cons_zero, List.set_cons_succ]); refine seg_take 9 ?_ rfl (by kernel_rfl) (by kernel_rfl) (by kernel_rfl) (by kernel_rfl) (by kernel_rfl) rfl (fun _ _ _ h => h) rfl ?_ ?_; rotate_left; (focus (intro w; go_simp; try with_reducible rfl)); (try simp only [List.getElem_toArray, List.getElem_cons_zero, List.getElem_cons_succ, Act.put, List.setIfInBounds_toArray, List.set_cons_zero, List.set_cons_succ]); refine seg_take 10 ?_ rfl (by kernel_rfl) (by kernel_rfl) (by kernel_rfl) (by kernel_rfl) (by kernel_rfl) rfl (fun _ _ _ h => h) rfl ?_ ?_; rotate_left; (focus (intro w; go_simp; try with_reducible rfl)); (try simp only [List.getElem_toArray, List.getElem_cons_zero, List.getElem_cons_succ, Act.put, List.setIfInBounds_toArray, List.set_cons_zero, List.set_cons_succ]))
  (refine anyB_done (by kernel_rfl) ?_)
  go_wp2
  go_ret2
  exact ⟨by rw [Hf.out]; rfl, HB.out⟩
theorem eql_map (t tk te : TypeId) (ht : Try.prog.underlying t = some (.map tk te)) (x : Option Nat) (w : World) : (binOp .eql t (.map x) (.map none)).run Try.prog w = .ok (.bool x.isNone) w := by
  have h : ∀ d, (Op.equalIn (d + 1) t (.map x) (.map none)).run Try.prog w = .ok x.isNone w := fun d => by
    cases x <;> simp [Op.equalIn, run_underlying ht]
  have h2 := h 9999
  have e : Op.equal t (.map x) (.map none) = Op.equalIn (9999 + 1) t (.map x) (.map none) := rfl
  simp only [binOp, e, Sem.run_bind, h2, Result.andThen_ok, Sem.run_pure]
end Go.Proofs.Ythgnccgablploaa
