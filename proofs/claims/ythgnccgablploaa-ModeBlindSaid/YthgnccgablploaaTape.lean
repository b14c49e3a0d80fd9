/- Contracts of package tape. -/
import Derived.Test.YthgnccgablploaaSum
set_option linter.unusedVariables false
set_option linter.unusedSimpArgs false
set_option maxRecDepth 100000
namespace Go.Proofs.Ythgnccgablploaa
open Go.RowKit
/-- A tape's block. -/
def blkOf (F R seed : List Int) (n : Nat) : List Int := shaSum F R (seed ++ beTo n 8)
theorem blkOf_len (F R seed : List Int) (n : Nat) : (blkOf F R seed n).length = 32 := shaSum_len _ _ _

set_option maxHeartbeats 2000000 in
theorem block_any (F R : List Int) (tb n : Nat) (A : Option Addr) (c : Nat) (seed : List Int) (w : World) (hT : Tabs F R w) (hs : w.cell? ⟨tb, 0, none⟩ = some (.slice A seed.length c)) (hr : Rd w A c seed) (hl : seed.length ≤ 10000000000000) (hn : n ≤ 9007199254740991) :
    Calls Try.prog 52 #[.pointer (some ⟨tb, 0, none⟩), .int .i64 n] w fun e w' => e = .returned (.agg (w8 (blkOf F R seed n))) ∧ Below w.heap.size w w' := by
  have HT := Lib.hid hT
  have Hr := Lib.hid hr
  have Hs := Lib.hid hs
  clear hT hr hs
  go_enter Try.func52, Try.ntmps52
  go_wp2
  refine seg_begin (fun W => W.cell? ⟨tb, 0, none⟩ = some (.slice A seed.length c)) [0, 4] (by kernel_rfl) ?_
  generalize hwd : World.drew _ = wd
  have HB0 : Hid (Below w.heap.size w wd) := Lib.hid (alloc_drew hwd).1
  have HO0 : Hid (∃ old : Array Value, old.size = 32 ∧ wd.heap[w.heap.size]? = some (.cells old 42 (0, 0))) := Lib.hid ⟨_, by rfl, (alloc_drew hwd).2⟩
  clear hwd
  have Hs1 : Hid (wd.cell? ⟨tb, 0, none⟩ = some (.slice A seed.length c)) := Lib.hid ((HB0.out.cell (p := ⟨tb, 0, none⟩) (World.block_lt_of_cell? w _ Hs.out)).trans Hs.out)
  (refine seg_take 1 ?_ rfl (by kernel_rfl) (by kernel_rfl) (by kernel_rfl) (by kernel_rfl) (by kernel_rfl) rfl (fun _ _ _ h => h) rfl ?_ ?_; rotate_left; (focus (intro w; go_simp; try with_reducible rfl)); (try simp only [List.getElem_toArray, List.getElem_cons_zero, List.getElem_cons_succ, Act.put, List.setIfInBounds_toArray, List.set_cons_zero, List.set_cons_succ]); refine seg_take 2 ?_ rfl (by kernel_rfl) (by kernel_rfl) (by kernel_rfl) (by kernel_rfl) (by kernel_rfl) rfl (fun _ _ _ h => h) rfl ?_ ?_; rotate_left; (focus (intro w; go_simp; try with_reducible rfl)); (try simp only [List.getElem_toArray, List.getElem_cons_zero, List.getElem_cons_succ, Act.put, List.setIfInBounds_toArray, List.set_cons_zero, List.set_cons_succ]); refine seg_take 3 ?_ rfl (by kernel_rfl) (by kernel_rfl) (by kernel_rfl) (by kernel_rfl) (by kernel_rfl) rfl (fun _ _ _ h => h) rfl ?_ ?_; rotate_left; (focus (intro w; go_simp; try with_reducible rfl)); (try simp only [List.getElem_toArray, List.getElem_cons_zero, List.getElem_cons_succ, Act.put, List.setIfInBounds_toArray, List.set_cons_zero, List.set_cons_succ]); refine seg_take 6 ?_ rfl (by kernel_rfl) (by kernel_rfl) (by kernel_rfl) (by kernel_rfl) (by kernel_rfl) rfl (fun _ _ _ h => h) rfl ?_ ?_; rotate_left; (focus (intro w; go_simp; try with_reducible rfl)); (try simp only [List.getElem_toArray, List.getElem_cons_zero, List.getElem_cons_succ, Act.put, List.setIfInBounds_toArray, List.set_cons_zero, List.set_cons_succ]); refine seg_read 4 ?_ rfl (by kernel_rfl) (by kernel_rfl) (by kernel_rfl) (by kernel_rfl) (by kernel_rfl) (by kernel_rfl) (fun _ _ _ h => h) rfl Hs1.out ?_ ?_; rotate_left; (focus (intro w hSw; (try dsimp only at hSw); go_split_ands; go_simp; try with_reducible rfl)); (try simp only [List.getElem_toArray, List.getElem_cons_zero, List.getElem_cons_succ, Act.put, List.setIfInBounds_toArray, List.set_cons_zero, List.set_cons_succ]))
  (refine anyB_step 0 rfl (by kernel_rfl) ?_; (try simp only [List.getElem_toArray, List.getElem_cons_zero, List.getElem_cons_succ]))
  go_wp2_with (go_at_call 53; go_must (refine (write_new2 _).mono ?_; rintro e w1 ⟨rfl, h1, h2⟩; have HW := Lib.hid h1; have HB1 := Lib.hid h2; clear h1 h2))
  refine ⟨fun _ => (HB1.out.cell (p := ⟨tb, 0, none⟩) (World.block_lt_of_cell? wd _ Hs1.out)).trans Hs1.out, ?_⟩
  (refine anyB_step 5 rfl (by kernel_rfl) ?_; (try simp only [List.getElem_toArray, List.getElem_cons_zero, List.getElem_cons_succ]))
  go_wp2_with (go_at_call 54; go_must (refine (raw_ok wd.heap.size wd.heap.size [] A c seed.length seed w1 HW.out rfl ((Hr.out.below HB0.out).below HB1.out) (by simp; omega)).mono ?_; rintro e w2 ⟨rfl, h1, h2⟩; have HW2 := Lib.hid h1; have HB2 := Lib.hid (HB1.out.trans h2); clear h1 h2 HW HB1))
  refine ⟨nofun, ?_⟩
  (refine anyB_step 7 rfl (by kernel_rfl) ?_; (try simp only [List.getElem_toArray, List.getElem_cons_zero, List.getElem_cons_succ]))
  go_wp2_with (go_at_call 55; go_must (refine (num_eight wd.heap.size wd.heap.size seed n w2 HW2.out (by omega) (by omega) (by omega)).mono ?_; rintro e w3 ⟨rfl, h1, h2⟩; have HW3 := Lib.hid h1; have HB3 := Lib.hid (HB2.out.trans h2); clear h1 h2 HW2 HB2))
  refine ⟨nofun, ?_⟩
  (refine anyB_step 8 rfl (by kernel_rfl) ?_; (try simp only [List.getElem_toArray, List.getElem_cons_zero, List.getElem_cons_succ]))
  go_wp2_with (go_at_call 56; go_must (refine (bytes_ok wd.heap.size wd.heap.size (seed ++ beTo n 8) w3 HW3.out (by simp [beTo_len]; omega)).mono ?_; rintro e w4 ⟨v, rfl, h1, h2⟩; have HO4 := Lib.hid h1; have HB4 := Lib.hid (HB3.out.trans (h2.mono HB3.out.size)); clear h1 h2 HW3 HB3))
  refine ⟨nofun, ?_⟩
  (refine seg_take 9 ?_ rfl (by kernel_rfl) (by kernel_rfl) (by kernel_rfl) (by kernel_rfl) (by kernel_rfl) rfl (fun _ _ _ h => h) rfl ?_ ?_; rotate_left; (focus (intro w; go_simp; try with_reducible rfl)); (try simp only [List.getElem_toArray, List.getElem_cons_zero, List.getElem_cons_succ, Act.put, List.setIfInBounds_toArray, List.set_cons_zero, List.set_cons_succ]); refine seg_take 10 ?_ rfl (by kernel_rfl) (by kernel_rfl) (by kernel_rfl) (by kernel_rfl) (by kernel_rfl) rfl (fun _ _ _ h => h) rfl ?_ ?_; rotate_left; (focus (intro w; go_simp; try with_reducible rfl)); (try simp only [List.getElem_toArray, List.getElem_cons_zero, List.getElem_cons_succ, Act.put, List.setIfInBounds_toArray, List.set_cons_zero, List.set_cons_succ]); refine seg_take 11 ?_ rfl (by kernel_rfl) (by kernel_rfl) (by kernel_rfl) (by kernel_rfl) (by kernel_rfl) rfl (fun _ _ _ h => h) rfl ?_ ?_; rotate_left; (focus (intro w; go_simp; try with_reducible rfl)); (try simp only [List.getElem_toArray, List.getElem_cons_zero, List.getElem_cons_succ, Act.put, List.setIfInBounds_toArray, List.set_cons_zero, List.set_cons_succ]); refine seg_take 12 ?_ rfl (by kernel_rfl) (by kernel_rfl) (by kernel_rfl) (by kernel_rfl) (by kernel_rfl) rfl (fun _ _ _ h => h) rfl ?_ ?_; rotate_left; (focus (intro w; go_simp; try with_reducible rfl)); (try simp only [List.getElem_toArray, List.getElem_cons_zero, List.getElem_cons_succ, Act.put, List.setIfInBounds_toArray, List.set_cons_zero, List.set_cons_succ]); refine seg_take 13 ?_ rfl (by kernel_rfl) (by kernel_rfl) (by kernel_rfl) (by kernel_rfl) (by kernel_rfl) rfl (fun _ _ _ h => h) rfl ?_ ?_; rotate_left; (focus (intro w; go_simp; try with_reducible rfl)); (try simp only [List.getElem_toArray, List.getElem_cons_zero, List.getElem_cons_succ, Act.put, List.setIfInBounds_toArray, List.set_cons_zero, List.set_cons_succ]))
  (refine anyB_done (by kernel_rfl) ?_)
  have hv := HO4.out.rd
  obtain ⟨A5, c5, hv5, hr5, _⟩ := hv
  obtain ⟨m5, hm5⟩ : ∃ m5, m5 = (seed ++ beTo n 8).length := ⟨_, rfl⟩
  rw [← hm5] at hv5
  have Hm5 := Lib.hid hm5
  subst hv5
  clear hm5
  have Hr5 := Lib.hid hr5
  have HB4' : Hid (Below w.heap.size w w4) := Lib.hid (HB0.out.trans (HB4.out.mono HB0.out.size))
  have HO4' : Hid (∃ old : Array Value, old.size = 32 ∧ w4.heap[w.heap.size]? = some (.cells old 42 (0, 0))) := Lib.hid (by obtain ⟨old, h1, h2⟩ := HO0.out; exact ⟨old, h1, below_at HB4.out h2 (blk_lt h2)⟩)
  clear hr5 HO4
  go_wp2_with (first
    | (go_at_call 57; go_must (refine (sum_any F R A5 c5 m5 (seed ++ beTo n 8) w4 (HT.out.below HB4'.out) Hm5.out Hr5.out (by simp [beTo_len]; omega)).mono ?_; rintro e w5 ⟨he, h2⟩; obtain rfl : e = .returned (.agg (w8 (blkOf F R seed n))) := he; have HB5 : Hid (Below w.heap.size w w5) := Lib.hid (HB4'.out.trans (h2.mono HB4'.out.size)); obtain ⟨old, hold', ho'⟩ := HO4'.out; have ho := Lib.hid (below_at h2 ho' (blk_lt ho')); have hsz : Hid ((Try.prog.info? 42).map (·.size) = some (w8 (blkOf F R seed n)).size) := Lib.hid (by rw [w8_size, blkOf_len]; kernel_rfl); have hold : Hid (old.size = (w8 (blkOf F R seed n)).size) := Lib.hid (by rw [w8_size, blkOf_len]; exact hold'); clear h2 hold' ho'))
    | (with_reducible refine wpList_store_row rfl 42 _ _ rfl w.heap.size _ rfl rfl _ _ ho.out hsz.out hold.out (w8_one _) ?_))
  refine bodyPost_ret (results_cell_row Try.results52 _ _ w.heap.size _ _ (0, 0) _ rfl (setRow_heap _ _ _ _ _ _ ho.out) Try.underlying42 rfl hsz.out) rfl ⟨rfl, ?_⟩
  exact below_setRow HB5.out (Nat.le_refl _) _
end Go.Proofs.Ythgnccgablploaa
