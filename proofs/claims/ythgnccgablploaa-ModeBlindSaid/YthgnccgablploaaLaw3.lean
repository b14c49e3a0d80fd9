/- Helpers of the laws: cut. -/
import Derived.Test.YthgnccgablploaaLaw2
set_option linter.unusedVariables false
set_option linter.unusedSimpArgs false
set_option maxRecDepth 100000
namespace Go.Proofs.Ythgnccgablploaa
open Go Go.RowKit Go.Conc
/-- A text's value. -/
abbrev tval (ep : Int) (hA : Option Addr) (hn hc : Nat) (pA : Option Addr) (pn pc : Nat) : Array Value := #[.int .i64 ep, .slice hA hn hc, .slice pA pn pc]
set_option maxHeartbeats 1000000 in
theorem cut_any (ep : Int) (hA : Option Addr) (hn hc : Nat) (pA : Option Addr) (pn pc : Nat) (w : World) (h0 : -9223372036854775808 ≤ ep) (h1 : ep ≤ 9223372036854775807) (hh : hn ≤ hc) (hp : pn ≤ pc) (hcb : hc ≤ 9223372036854775807) (pcb : pc ≤ 9223372036854775807) :
    Calls Try.prog 7 #[.agg (tval ep hA hn hc pA pn pc)] w fun e w' => e = .returned (.agg (tval (ep % 256) hA (min hn 100) hc pA (min pn 100) pc)) ∧ Below w.heap.size w w' := by
  obtain ⟨hm, hhm⟩ : ∃ hm : Nat, hm = min hn 100 := ⟨_, rfl⟩
  obtain ⟨pm, hpm⟩ : ∃ pm : Nat, pm = min pn 100 := ⟨_, rfl⟩
  rw [← hhm, ← hpm]
  have hmi : min (hn : Int) 100 = hm := by omega
  have pmi : min (pn : Int) 100 = pm := by omega
  have hc1 := fun W => cut_hi hA hn hc hm (by omega) .i64 W
  have hc2 := fun W => cut_hi pA pn pc pm (by omega) .i64 W
  have Hc1 := Lib.hid hc1
  have Hc2 := Lib.hid hc2
  clear hhm hpm hc1 hc2
  go_enter Try.func7, Try.ntmps7
  go_upto_region 1 with (fail)
  generalize hw1 : World.alloc (World.alloc w _) _ = w1
  have hr1 : w1.heap[w.heap.size]? = some (.cells (tval ep hA hn hc pA pn pc) 32 (0, 0)) := by rw [← hw1]; exact blk_alloc (new_at rfl) _
  have hr2 : w1.heap[w.heap.size + 1]? = some (.cells (tval 0 none 0 0 none 0 0) 32 (0, 0)) := by rw [← hw1]; exact new_at (by simp)
  have hB1 : Below w.heap.size w w1 := by rw [← hw1]; exact ((Below.refl _ w).alloc (Nat.le_refl _) _).alloc (by simp) _
  refine seg_begin (fun W => W.cell? ⟨w.heap.size, 0, none⟩ = some (.int .i64 ep) ∧ W.cell? ⟨w.heap.size, 1, none⟩ = some (.slice hA hn hc) ∧ W.cell? ⟨w.heap.size, 2, none⟩ = some (.slice pA pn pc)) [1, 2, 4, 6, 7, 8, 9, 11, 13, 14, 15, 16] (by kernel_rfl) ?_
  have HS : Hid (w1.drew.cell? ⟨w.heap.size, 0, none⟩ = some (.int .i64 ep) ∧ w1.drew.cell? ⟨w.heap.size, 1, none⟩ = some (.slice hA hn hc) ∧ w1.drew.cell? ⟨w.heap.size, 2, none⟩ = some (.slice pA pn pc)) := Lib.hid ⟨blk_cell hr1 0 rfl, blk_cell hr1 1 rfl, blk_cell hr1 2 rfl⟩
  have HR2 : Hid (w1.drew.heap[w.heap.size + 1]? = some (.cells (tval 0 none 0 0 none 0 0) 32 (0, 0))) := Lib.hid hr2
  have HB : Hid (Below w.heap.size w w1.drew) := Lib.hid hB1.drew
  clear hw1 hr1 hr2 hB1
  generalize w1.drew = wd at *
  (refine seg_take 0 ?_ rfl (by kernel_rfl) (by kernel_rfl) (by kernel_rfl) (by kernel_rfl) (by kernel_rfl) rfl (fun _ _ _ h => h) rfl ?_ ?_; rotate_left; (focus (intro w; go_simp; try with_reducible rfl)); (try simp only [List.getElem_toArray, List.getElem_cons_zero, List.getElem_cons_succ, Act.put, List.setIfInBounds_toArray, List.set_cons_zero, List.set_cons_succ]); refine seg_take 3 ?_ rfl (by kernel_rfl) (by kernel_rfl) (by kernel_rfl) (by kernel_rfl) (by kernel_rfl) rfl (fun _ _ _ h => h) rfl ?_ ?_; rotate_left; (focus (intro w; go_simp; try with_reducible rfl)); (try simp only [List.getElem_toArray, List.getElem_cons_zero, List.getElem_cons_succ, Act.put, List.setIfInBounds_toArray, List.set_cons_zero, List.set_cons_succ]); refine seg_take 5 ?_ rfl (by kernel_rfl) (by kernel_rfl) (by kernel_rfl) (by kernel_rfl) (by kernel_rfl) rfl (fun _ _ _ h => h) rfl ?_ ?_; rotate_left; (focus (intro w; go_simp; try with_reducible rfl)); (try simp only [List.getElem_toArray, List.getElem_cons_zero, List.getElem_cons_succ, Act.put, List.setIfInBounds_toArray, List.set_cons_zero, List.set_cons_succ]); refine seg_take 10 ?_ rfl (by kernel_rfl) (by kernel_rfl) (by kernel_rfl) (by kernel_rfl) (by kernel_rfl) rfl (fun _ _ _ h => h) rfl ?_ ?_; rotate_left; (focus (intro w; go_simp; try with_reducible rfl)); (try simp only [List.getElem_toArray, List.getElem_cons_zero, List.getElem_cons_succ, Act.put, List.setIfInBounds_toArray, List.set_cons_zero, List.set_cons_succ]); refine seg_take 12 ?_ rfl (by kernel_rfl) (by kernel_rfl) (by kernel_rfl) (by kernel_rfl) (by kernel_rfl) rfl (fun _ _ _ h => h) rfl ?_ ?_; rotate_left; (focus (intro w; go_simp; try with_reducible rfl)); (try simp only [List.getElem_toArray, List.getElem_cons_zero, List.getElem_cons_succ, Act.put, List.setIfInBounds_toArray, List.set_cons_zero, List.set_cons_succ]); refine seg_read 1 ?_ rfl (by kernel_rfl) (by kernel_rfl) (by kernel_rfl) (by kernel_rfl) (by kernel_rfl) (by kernel_rfl) (fun _ _ _ h => h) rfl HS.out ?_ ?_; rotate_left; (focus (intro w hSw; (try dsimp only at hSw); go_split_ands; go_simp; try with_reducible rfl)); (try simp only [List.getElem_toArray, List.getElem_cons_zero, List.getElem_cons_succ, Act.put, List.setIfInBounds_toArray, List.set_cons_zero, List.set_cons_succ]); refine seg_read 4 ?_ rfl (by kernel_rfl) (by kernel_rfl) (by kernel_rfl) (by kernel_rfl) (by kernel_rfl) (by kernel_rfl) (fun _ _ _ h => h) rfl HS.out ?_ ?_; rotate_left; (focus (intro w hSw; (try dsimp only at hSw); go_split_ands; go_simp; try with_reducible rfl)); (try simp only [List.getElem_toArray, List.getElem_cons_zero, List.getElem_cons_succ, Act.put, List.setIfInBounds_toArray, List.set_cons_zero, List.set_cons_succ]); refine seg_read 6 ?_ rfl (by kernel_rfl) (by kernel_rfl) (by kernel_rfl) (by kernel_rfl) (by kernel_rfl) (by kernel_rfl) (fun _ _ _ h => h) rfl HS.out ?_ ?_; rotate_left; (focus (intro w hSw; (try dsimp only at hSw); go_split_ands; go_simp; try with_reducible rfl)); (try simp only [List.getElem_toArray, List.getElem_cons_zero, List.getElem_cons_succ, Act.put, List.setIfInBounds_toArray, List.set_cons_zero, List.set_cons_succ]); refine seg_read 11 ?_ rfl (by kernel_rfl) (by kernel_rfl) (by kernel_rfl) (by kernel_rfl) (by kernel_rfl) (by kernel_rfl) (fun _ _ _ h => h) rfl HS.out ?_ ?_; rotate_left; (focus (intro w hSw; (try dsimp only at hSw); go_split_ands; go_simp; try with_reducible rfl)); (try simp only [List.getElem_toArray, List.getElem_cons_zero, List.getElem_cons_succ, Act.put, List.setIfInBounds_toArray, List.set_cons_zero, List.set_cons_succ]); refine seg_read 13 ?_ rfl (by kernel_rfl) (by kernel_rfl) (by kernel_rfl) (by kernel_rfl) (by kernel_rfl) (by kernel_rfl) (fun _ _ _ h => h) rfl HS.out ?_ ?_; rotate_left; (focus (intro w hSw; (try dsimp only at hSw); go_split_ands; go_simp; try with_reducible rfl)); (try simp only [List.getElem_toArray, List.getElem_cons_zero, List.getElem_cons_succ, Act.put, List.setIfInBounds_toArray, List.set_cons_zero, List.set_cons_succ]))
  (refine seg_read 7 (.int .i64 hn) rfl (by kernel_rfl) (by kernel_rfl) (by kernel_rfl) (by kernel_rfl) (by kernel_rfl) (by kernel_rfl) (fun _ _ _ h => h) rfl HS.out (fun W _ => by go_simp) ?_; (try simp only [List.getElem_toArray, List.getElem_cons_zero, List.getElem_cons_succ, Act.put, List.setIfInBounds_toArray, List.set_cons_zero, List.set_cons_succ]))
  skip
  (refine seg_read 8 (.int .i64 hm) rfl (by kernel_rfl) (by kernel_rfl) (by kernel_rfl) (by kernel_rfl) (by kernel_rfl) (by kernel_rfl) (fun _ _ _ h => h) rfl HS.out (fun W _ => by go_simp; omega) ?_; (try simp only [List.getElem_toArray, List.getElem_cons_zero, List.getElem_cons_succ, Act.put, List.setIfInBounds_toArray, List.set_cons_zero, List.set_cons_succ]))
  skip
  (refine seg_read 9 (.slice hA hm hc) rfl (by kernel_rfl) (by kernel_rfl) (by kernel_rfl) (by kernel_rfl) (by kernel_rfl) (by kernel_rfl) (fun _ _ _ h => h) rfl HS.out (fun W _ => yields_slice _ _ Try.underlying22 _ _ _ _ rfl _ _ _ rfl (Hc1.out W)) ?_; (try simp only [List.getElem_toArray, List.getElem_cons_zero, List.getElem_cons_succ, Act.put, List.setIfInBounds_toArray, List.set_cons_zero, List.set_cons_succ]))
  skip
  (refine seg_read 14 (.int .i64 pn) rfl (by kernel_rfl) (by kernel_rfl) (by kernel_rfl) (by kernel_rfl) (by kernel_rfl) (by kernel_rfl) (fun _ _ _ h => h) rfl HS.out (fun W _ => by go_simp) ?_; (try simp only [List.getElem_toArray, List.getElem_cons_zero, List.getElem_cons_succ, Act.put, List.setIfInBounds_toArray, List.set_cons_zero, List.set_cons_succ]))
  skip
  (refine seg_read 15 (.int .i64 pm) rfl (by kernel_rfl) (by kernel_rfl) (by kernel_rfl) (by kernel_rfl) (by kernel_rfl) (by kernel_rfl) (fun _ _ _ h => h) rfl HS.out (fun W _ => by go_simp; omega) ?_; (try simp only [List.getElem_toArray, List.getElem_cons_zero, List.getElem_cons_succ, Act.put, List.setIfInBounds_toArray, List.set_cons_zero, List.set_cons_succ]))
  skip
  (refine seg_read 16 (.slice pA pm pc) rfl (by kernel_rfl) (by kernel_rfl) (by kernel_rfl) (by kernel_rfl) (by kernel_rfl) (by kernel_rfl) (fun _ _ _ h => h) rfl HS.out (fun W _ => yields_slice _ _ Try.underlying22 _ _ _ _ rfl _ _ _ rfl (Hc2.out W)) ?_; (try simp only [List.getElem_toArray, List.getElem_cons_zero, List.getElem_cons_succ, Act.put, List.setIfInBounds_toArray, List.set_cons_zero, List.set_cons_succ]))
  skip
  (refine anyB_step 2 rfl (by kernel_rfl) ?_; (try simp only [List.getElem_toArray, List.getElem_cons_zero, List.getElem_cons_succ]))
  go_wp2_with (go_at_call 18; go_must (refine (bring_any ep wd h0 h1).mono ?_; rintro e w2 ⟨rfl, rfl⟩))
  refine ⟨fun _ => HS.out, ?_⟩
  (refine seg_take 17 ?_ rfl (by kernel_rfl) (by kernel_rfl) (by kernel_rfl) (by kernel_rfl) (by kernel_rfl) rfl (fun _ _ _ h => h) rfl ?_ ?_; rotate_left; (focus (intro w; go_simp; try with_reducible rfl)); (try simp only [List.getElem_toArray, List.getElem_cons_zero, List.getElem_cons_succ, Act.put, List.setIfInBounds_toArray, List.set_cons_zero, List.set_cons_succ]))
  (refine anyB_step 18 rfl (by kernel_rfl) ?_; (try simp only [List.getElem_toArray, List.getElem_cons_zero, List.getElem_cons_succ]))
  have hsz : Hid ((Try.prog.info? 32).map (·.size) = some (tval (ep % 256) hA hm hc pA pm pc).size) := Lib.hid (by kernel_rfl)
  have hold : Hid ((tval 0 none 0 0 none 0 0).size = (tval (ep % 256) hA hm hc pA pm pc).size) := Lib.hid rfl
  have hone : Hid ((tval (ep % 256) hA hm hc pA pm pc).all (·.oneCell') = true) := Lib.hid (by simp [Value.oneCell'])
  go_wp2_with (with_reducible refine wpList_store_row rfl 32 _ _ rfl (w.heap.size + 1) (tval (ep % 256) hA hm hc pA pm pc) rfl rfl 32 (tval 0 none 0 0 none 0 0) HR2.out hsz.out hold.out hone.out ?_)
  show AnyB _ _ _ _ _ _ _ _ _ _ _ _
  skip
  (refine anyB_done (by kernel_rfl) ?_)
  go_wp2
  refine bodyPost_ret (results_cell_row Try.results7 _ _ (w.heap.size + 1) _ _ (0, 0) _ rfl (setRow_heap _ _ _ _ _ _ HR2.out) Try.underlying32 rfl hsz.out) rfl ?_
  exact ⟨rfl, below_setRow HB.out (by omega) _⟩
end Go.Proofs.Ythgnccgablploaa
