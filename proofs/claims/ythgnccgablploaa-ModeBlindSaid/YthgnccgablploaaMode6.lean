/- Contracts of package mode: put of names. -/
import Derived.Test.YthgnccgablploaaMode5
set_option linter.unusedVariables false
set_option linter.unusedSimpArgs false
set_option maxRecDepth 100000
namespace Go.Proofs.Ythgnccgablploaa
open Go Go.RowKit
theorem put_name (ib off : Nat) (t : TypeId) (row : Array Value) (mr : Option Nat) (k : ByteArray) (v : List Int) (m : List (ByteArray × List Int)) (w : World) (hr : w.heap[ib]? = some (.cells row t (0, 0))) (hc : row[off]? = some (.map mr)) (hm : IsTb w mr Value.string vvn m) (hv : v.length = 32) :
    Calls Try.prog 48 #[.pointer (some ⟨ib, off, none⟩), .string k, .agg (w8 v)] w fun e w' => e = .returned (.tuple #[]) ∧ ∃ r, IsTb w' (some r) Value.string vvn (mput k v m) ∧ w'.heap[ib]? = some (.cells (row.setIfInBounds off (.map (some r))) t (0, 0)) ∧ (mr = some r ∨ (mr = none ∧ w.heap.size ≤ r)) ∧ Kp (ib :: mr.toList) w w' := by
  have Hr := Lib.hid hr
  have Hm := Lib.hid hm
  have c1 : w.cell? ⟨ib, off, none⟩ = some (.map mr) := blk_cell hr off hc
  have hlt := blk_lt hr
  have f1 : w.frozen? ⟨ib, off, none⟩ = false := frozen_row hr off
  have heq := fun W => eql_map 50 _ _ Try.underlying50 mr W
  have hmk := make_map 50
  have hsz : Hid ((Try.prog.info? 43).map (·.size) = some (w8 v).size) := Lib.hid (by rw [w8_size, hv]; kernel_rfl)
  clear hr hm hc
  cases mr with
  | none =>
    go_enter Try.func48, Try.ntmps48
    go_wp2
    have hm0 : m = [] := Hm.out
    subst hm0
    refine seg_begin (fun W => W.cell? ⟨ib, off, none⟩ = some (.map (some (w.heap.size + 1))) ∧ Hid (W.heap[w.heap.size]? = some (.cells (w8 v) 43 (0, 0)))) [3, 5] (by kernel_rfl) ?_
    have hrow := blk_alloc (blk_alloc (blk_set Hr.out off (.map (some (w.heap.size + 1)))) (.cells (w8 v) 43)) (.map #[] 0)
    generalize hwd : World.drew _ = wd
    have hrd : wd.heap[ib]? = some (.cells (row.setIfInBounds off (.map (some (w.heap.size + 1)))) t (0, 0)) := by rw [← hwd]; exact hrow
    have hkd : wd.heap[w.heap.size]? = some (.cells (w8 v) 43 (0, 0)) := by rw [← hwd]; exact blk_alloc (new_at (by simp [World.setCell])) _
    have hmd : wd.heap[w.heap.size + 1]? = some (.map #[] 0) := by rw [← hwd]; exact new_at (by simp [World.setCell])
    have hkp : Kp [ib] w wd := by rw [← hwd]; exact ((((Kp.refl [ib] w).setCell (p := ⟨ib, off, none⟩) (by simp) _).alloc _).alloc _).drewN 1
    have hcd : wd.cell? ⟨ib, off, none⟩ = some (.map (some (w.heap.size + 1))) := by
      refine blk_cell hrd off ?_
      have := (cell_in_row Hr.out c1)
      simp [Array.getElem?_setIfInBounds, this]
    have HS : Hid (wd.cell? ⟨ib, off, none⟩ = some (.map (some (w.heap.size + 1))) ∧ Hid (wd.heap[w.heap.size]? = some (.cells (w8 v) 43 (0, 0)))) := Lib.hid ⟨hcd, Lib.hid hkd⟩
    obtain ⟨es, cl, hup, hes⟩ := upd_str 50 43 Try.underlying50 vvn k v [] (w.heap.size + 1) wd ⟨#[], 0, hmd, rfl⟩
    have Hup := Lib.hid hup
    have Hes := Lib.hid hes
    have Hkp := Lib.hid hkp
    have Hrd := Lib.hid hrd
    have Hmd := Lib.hid hmd
    clear hup hes hkp hrd hmd hkd hcd hwd hrow c1 f1
    (refine seg_take 0 ?_ rfl (by kernel_rfl) (by kernel_rfl) (by kernel_rfl) (by kernel_rfl) (by kernel_rfl) rfl (fun _ _ _ h => h) rfl ?_ ?_; rotate_left; (focus (intro w; go_simp; try with_reducible rfl)); (try simp only [List.getElem_toArray, List.getElem_cons_zero, List.getElem_cons_succ, Act.put, List.setIfInBounds_toArray, List.set_cons_zero, List.set_cons_succ]); refine seg_take 1 ?_ rfl (by kernel_rfl) (by kernel_rfl) (by kernel_rfl) (by kernel_rfl) (by kernel_rfl) rfl (fun _ _ _ h => h) rfl ?_ ?_; rotate_left; (focus (intro w; go_simp; try with_reducible rfl)); (try simp only [List.getElem_toArray, List.getElem_cons_zero, List.getElem_cons_succ, Act.put, List.setIfInBounds_toArray, List.set_cons_zero, List.set_cons_succ]); refine seg_take 2 ?_ rfl (by kernel_rfl) (by kernel_rfl) (by kernel_rfl) (by kernel_rfl) (by kernel_rfl) rfl (fun _ _ _ h => h) rfl ?_ ?_; rotate_left; (focus (intro w; go_simp; try with_reducible rfl)); (try simp only [List.getElem_toArray, List.getElem_cons_zero, List.getElem_cons_succ, Act.put, List.setIfInBounds_toArray, List.set_cons_zero, List.set_cons_succ]); refine seg_take 4 ?_ rfl (by kernel_rfl) (by kernel_rfl) (by kernel_rfl) (by kernel_rfl) (by kernel_rfl) rfl (fun _ _ _ h => h) rfl ?_ ?_; rotate_left; (focus (intro w; go_simp; try with_reducible rfl)); (try simp only [List.getElem_toArray, List.getElem_cons_zero, List.getElem_cons_succ, Act.put, List.setIfInBounds_toArray, List.set_cons_zero, List.set_cons_succ]); refine seg_read 3 ?_ rfl (by kernel_rfl) (by kernel_rfl) (by kernel_rfl) (by kernel_rfl) (by kernel_rfl) (by kernel_rfl) (fun _ _ _ h => h) rfl HS.out ?_ ?_; rotate_left; (focus (intro w hSw; (try dsimp only at hSw); go_split_ands; go_simp; try with_reducible rfl)); (try simp only [List.getElem_toArray, List.getElem_cons_zero, List.getElem_cons_succ, Act.put, List.setIfInBounds_toArray, List.set_cons_zero, List.set_cons_succ]))
    (refine seg_read 5 (.agg (w8 v)) rfl (by kernel_rfl) (by kernel_rfl) (by kernel_rfl) (by kernel_rfl) (by kernel_rfl) (by kernel_rfl) (fun _ _ _ h => h) rfl HS.out (fun W hW => yields_load_row 43 _ rfl w.heap.size rfl _ _ _ _ hW.2.out Try.underlying43 rfl hsz.out) ?_; (try simp only [List.getElem_toArray, List.getElem_cons_zero, List.getElem_cons_succ, Act.put, List.setIfInBounds_toArray, List.set_cons_zero, List.set_cons_succ]))
    skip
    (refine anyB_step 6 rfl (by kernel_rfl) ?_; (try simp only [List.getElem_toArray, List.getElem_cons_zero, List.getElem_cons_succ]))
    have hup : (Instr.mapUpdate 50 (.map (some (w.heap.size + 1))) (.string k) (.agg (w8 v))).run Try.prog wd = .ok () (setMap wd (w.heap.size + 1) es cl) := Hup.out
    go_wp2
    refine ⟨nofun, ?_⟩
    (refine anyB_done (by kernel_rfl) ?_)
    go_end0
    have hlt2 := blk_lt Hmd.out
    refine ⟨rfl, w.heap.size + 1, ⟨es, cl, ?_, Hes.out⟩, ?_, .inr ⟨trivial, by omega⟩, ?_⟩
    · simp [setMap, hlt2]
    · simp only [setMap]; rw [Array.getElem?_setIfInBounds_ne (by omega)]; exact Hrd.out
    · exact Hkp.out.trans (T := [w.heap.size + 1]) ⟨rfl, rfl, rfl, by simp [setMap], fun j _ hj => by simp only [setMap]; rw [Array.getElem?_setIfInBounds_ne (by simp at hj; omega)]⟩ (by intro x hx hl; simp at hx; omega)
  | some r =>
    have c1' := c1
    go_enter Try.func48, Try.ntmps48
    go_wp2
    refine seg_begin (fun W => W.cell? ⟨ib, off, none⟩ = some (.map (some r)) ∧ Hid (W.heap[w.heap.size]? = some (.cells (w8 v) 43 (0, 0)))) [3, 5] (by kernel_rfl) ?_
    generalize hwd : World.drew _ = wd
    have hB := (alloc_drew hwd).1
    have hrd : wd.heap[ib]? = some (.cells row t (0, 0)) := below_at hB Hr.out hlt
    have hkd := (alloc_drew hwd).2
    have hmd : IsM wd r Value.string vvn m := Hm.out.below hB
    have HS : Hid (wd.cell? ⟨ib, off, none⟩ = some (.map (some r)) ∧ Hid (wd.heap[w.heap.size]? = some (.cells (w8 v) 43 (0, 0)))) := Lib.hid ⟨(hB.cell (p := ⟨ib, off, none⟩) hlt).trans c1, Lib.hid hkd⟩
    obtain ⟨es, cl, hup, hes⟩ := upd_str 50 43 Try.underlying50 vvn k v m r wd hmd
    have hrl : r < wd.heap.size := by obtain ⟨_, _, h, _⟩ := hmd; exact blk_lt h
    have hri : ib ≠ r := by rintro rfl; obtain ⟨_, _, h, _⟩ := hmd; have := hrd.symm.trans h; cases this
    have hset : row.setIfInBounds off (.map (some r)) = row := by
      have hin := cell_in_row Hr.out c1
      have hv : row[off]? = some (.map (some r)) := by simpa [World.cell?, Hr.out] using c1
      apply Array.ext
      · simp
      · intro j h1 h2
        rw [Array.getElem_setIfInBounds (by simpa using h1)]
        split
        · rename_i h; subst h; rw [Array.getElem?_eq_getElem hin] at hv; exact (Option.some.inj hv).symm
        · rfl
    have Hup := Lib.hid hup
    have Hes := Lib.hid hes
    have Hkp := Lib.hid (Kp.of_below (S := ib :: (some r).toList) hB)
    have Hrd := Lib.hid hrd
    have Hset := Lib.hid hset
    clear hup hes hrd hmd hkd hwd c1 f1 hB hset c1'
    (refine seg_take 0 ?_ rfl (by kernel_rfl) (by kernel_rfl) (by kernel_rfl) (by kernel_rfl) (by kernel_rfl) rfl (fun _ _ _ h => h) rfl ?_ ?_; rotate_left; (focus (intro w; go_simp; try with_reducible rfl)); (try simp only [List.getElem_toArray, List.getElem_cons_zero, List.getElem_cons_succ, Act.put, List.setIfInBounds_toArray, List.set_cons_zero, List.set_cons_succ]); refine seg_take 1 ?_ rfl (by kernel_rfl) (by kernel_rfl) (by kernel_rfl) (by kernel_rfl) (by kernel_rfl) rfl (fun _ _ _ h => h) rfl ?_ ?_; rotate_left; (focus (intro w; go_simp; try with_reducible rfl)); (try simp only [List.getElem_toArray, List.getElem_cons_zero, List.getElem_cons_succ, Act.put, List.setIfInBounds_toArray, List.set_cons_zero, List.set_cons_succ]); refine seg_take 2 ?_ rfl (by kernel_rfl) (by kernel_rfl) (by kernel_rfl) (by kernel_rfl) (by kernel_rfl) rfl (fun _ _ _ h => h) rfl ?_ ?_; rotate_left; (focus (intro w; go_simp; try with_reducible rfl)); (try simp only [List.getElem_toArray, List.getElem_cons_zero, List.getElem_cons_succ, Act.put, List.setIfInBounds_toArray, List.set_cons_zero, List.set_cons_succ]); refine seg_take 4 ?_ rfl (by kernel_rfl) (by kernel_rfl) (by kernel_rfl) (by kernel_rfl) (by kernel_rfl) rfl (fun _ _ _ h => h) rfl ?_ ?_; rotate_left; (focus (intro w; go_simp; try with_reducible rfl)); (try simp only [List.getElem_toArray, List.getElem_cons_zero, List.getElem_cons_succ, Act.put, List.setIfInBounds_toArray, List.set_cons_zero, List.set_cons_succ]); refine seg_read 3 ?_ rfl (by kernel_rfl) (by kernel_rfl) (by kernel_rfl) (by kernel_rfl) (by kernel_rfl) (by kernel_rfl) (fun _ _ _ h => h) rfl HS.out ?_ ?_; rotate_left; (focus (intro w hSw; (try dsimp only at hSw); go_split_ands; go_simp; try with_reducible rfl)); (try simp only [List.getElem_toArray, List.getElem_cons_zero, List.getElem_cons_succ, Act.put, List.setIfInBounds_toArray, List.set_cons_zero, List.set_cons_succ]))
    (refine seg_read 5 (.agg (w8 v)) rfl (by kernel_rfl) (by kernel_rfl) (by kernel_rfl) (by kernel_rfl) (by kernel_rfl) (by kernel_rfl) (fun _ _ _ h => h) rfl HS.out (fun W hW => yields_load_row 43 _ rfl w.heap.size rfl _ _ _ _ hW.2.out Try.underlying43 rfl hsz.out) ?_; (try simp only [List.getElem_toArray, List.getElem_cons_zero, List.getElem_cons_succ, Act.put, List.setIfInBounds_toArray, List.set_cons_zero, List.set_cons_succ]))
    skip
    (refine anyB_step 6 rfl (by kernel_rfl) ?_; (try simp only [List.getElem_toArray, List.getElem_cons_zero, List.getElem_cons_succ]))
    have hup : (Instr.mapUpdate 50 (.map (some r)) (.string k) (.agg (w8 v))).run Try.prog wd = .ok () (setMap wd r es cl) := Hup.out
    go_wp2
    refine ⟨nofun, ?_⟩
    (refine anyB_done (by kernel_rfl) ?_)
    go_end0
    refine ⟨rfl, r, ⟨es, cl, ?_, Hes.out⟩, ?_, .inl rfl, ?_⟩
    · simp [setMap, hrl]
    · rw [Hset.out]; simp only [setMap]; rw [Array.getElem?_setIfInBounds_ne (fun e => hri e.symm)]; exact Hrd.out
    · exact Hkp.out.trans (T := [r]) ⟨rfl, rfl, rfl, by simp [setMap], fun j _ hj => by simp only [setMap]; rw [Array.getElem?_setIfInBounds_ne (by simp at hj; omega)]⟩ (by simp)
end Go.Proofs.Ythgnccgablploaa
