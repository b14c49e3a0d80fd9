/- Helpers of the laws: EqBytes, Bring, CopyBytes. -/
import Derived.Test.YtiboflejmnjdhaaDoorJL
section
set_option linter.unusedVariables false
set_option linter.unusedSimpArgs false
set_option maxRecDepth 100000
namespace Go.Proofs.YtiboflejmnjdhaaDoor
open Go Go.RowKit Go.Conc
theorem eqb_any (A B : Option Addr) (n c m d : Nat) (xs ys : List Int) (w : World) (hn : n = xs.length) (hx : Rd w A c xs) (hm : m = ys.length) (hy : Rd w B d ys) :
    Calls Tryd.prog 13 #[.slice A n c, .slice B m d] w fun e w' => e = .returned (.bool (decide (strOfNums xs = strOfNums ys))) ∧ w = w' := by
  have h1 := conv_str hx n hn
  have h2 := conv_str hy m hm
  clear hx hy hn hm
  go_enter Tryd.func13, Tryd.ntmps13
  go_wp2
  go_ret
  refine ⟨?_, rfl⟩
  show Ending.returned (Value.bool ((strOfNums xs).toList == (strOfNums ys).toList)) = _
  rw [← beq_toListBytes, ba_beq]
theorem bring_any (i : Int) (w : World) (h0 : -9223372036854775808 ≤ i) (h1 : i ≤ 9223372036854775807) :
    Calls Tryd.prog 34 #[.int .i64 i, .int .i64 256] w fun e w' => e = .returned (.int .i64 (i % 256)) ∧ w = w' := by
  have hm := Int.tmod_eq_emod (a := i) (b := 256)
  by_cases hneg : i.tmod 256 < 0
  · have he : i.tmod 256 + 256 = i % 256 := by split at hm <;> simp at hm <;> omega
    clear hm
    go_enter Tryd.func34, Tryd.ntmps34
    go_wp2
    go_ret
    exact ⟨rfl, rfl⟩
  · have he : i.tmod 256 = i % 256 := by split at hm <;> simp at hm <;> omega
    clear hm
    go_enter Tryd.func34, Tryd.ntmps34
    go_wp2
    go_ret
    exact ⟨rfl, rfl⟩











end Go.Proofs.YtiboflejmnjdhaaDoor
end
section
set_option linter.unusedVariables false
set_option linter.unusedSimpArgs false
set_option maxRecDepth 100000
namespace Go.Proofs.YtiboflejmnjdhaaDoor
open Go Go.RowKit Go.Conc
/-- Bytes that count up. -/
def upL (first n : Nat) : List Int := (List.range n).map fun i => ((first + i : Nat) : Int)
theorem upL_len (first n : Nat) : (upL first n).length = n := by simp [upL]
theorem upL_succ (first n : Nat) : upL first (n + 1) = upL first n ++ [((first + n : Nat) : Int)] := by simp [upL, List.range_succ]
set_option maxHeartbeats 1000000 in
theorem up_any (first n : Nat) (w : World) (h : first + n ≤ 256) :
    Calls Tryd.prog 25 #[.int .i64 first, .int .i64 n] w fun e w' => ∃ A c, e = .returned (.slice A n c) ∧ Own w' w.heap.size (.slice A n c) (upL first n) ∧ Below w.heap.size w w' := by
  go_enter Tryd.func25, Tryd.ntmps25
  go_wp2
  go_loopw [5, 6] (fun v i wr => ∃ (k : Nat) (A : Option Addr) (c : Nat), k ≤ n ∧ i = .int .i64 k ∧ v = .slice A k c ∧ Hid (Own wr w.heap.size (.slice A k c) (upL first k)) ∧ Below w.heap.size w wr) (fun _ i _ => n - (intOf i).toNat)
  case atStart => exact ⟨0, none, 0, by omega, rfl, rfl, Lib.hid (Own.nil _ _), Below.refl _ _⟩
  case round =>
    obtain ⟨k, A, c, hk, rfl, rfl, Ho, hB⟩ := hrel
    by_cases hlt : k < n
    · go_wp2_with (at_builtin; go_must (refine app_rd rfl _ _ rfl w.heap.size (.slice A k c) (upL first k) rfl (Ho.out.alloc _) _ _ _ [((first + k : Nat) : Int)] rfl rfl (Rd.new1 wr _ _ _) (k + 1) (by simp [upL_len]) (by simp [upL_len]; omega) (by simp; have := hB.size; omega) ?_; intro A' c' w1 ho hg hat; have Ho2 := Lib.hid ho; have Hg := Lib.hid hg; clear ho hg hat))
      go_roundw
      case rel => exact ⟨k + 1, A', c', by omega, by go_num, rfl, by rw [upL_succ]; exact Ho2, (hB.alloc hB.size _).grown Hg.out (by simp; have := hB.size; omega) (fun j hj => (Ho.out.lt j hj).1)⟩
      case measure => simp [intOf]; omega
    · obtain rfl : k = n := by omega
      go_wp2
      go_ret
      exact ⟨A, c, rfl, Ho.out, hB⟩
/-- A byte, turned. -/
def turnL (t : Int) (xs : List Int) : List Int := xs.map fun x => bits .xor .u8 x t
theorem turnL_len (t : Int) (xs : List Int) : (turnL t xs).length = xs.length := by simp [turnL]
theorem turnL_succ (t : Int) (xs : List Int) (k : Nat) (h : k < xs.length) : (turnL t xs).take (k + 1) = (turnL t xs).take k ++ [bits .xor .u8 (xs[k]?.getD 0) t] := by
  have h2 : k < (turnL t xs).length := by rw [turnL_len]; exact h
  rw [List.take_succ_eq_append_getElem h2]
  simp [turnL, h]

































end Go.Proofs.YtiboflejmnjdhaaDoor
end
section
set_option linter.unusedVariables false
set_option linter.unusedSimpArgs false
set_option maxRecDepth 100000
namespace Go.Proofs.YtiboflejmnjdhaaDoor
open Go Go.RowKit Go.Conc
/-- A text's value. -/
abbrev tval (ep : Int) (hA : Option Addr) (hn hc : Nat) (pA : Option Addr) (pn pc : Nat) : Array Value := #[.int .i64 ep, .slice hA hn hc, .slice pA pn pc]
set_option maxHeartbeats 1000000 in
theorem cut_any (ep : Int) (hA : Option Addr) (hn hc : Nat) (pA : Option Addr) (pn pc : Nat) (w : World) (h0 : -9223372036854775808 ≤ ep) (h1 : ep ≤ 9223372036854775807) (hh : hn ≤ hc) (hp : pn ≤ pc) (hcb : hc ≤ 9223372036854775807) (pcb : pc ≤ 9223372036854775807) :
    Calls Tryd.prog 10 #[.agg (tval ep hA hn hc pA pn pc)] w fun e w' => e = .returned (.agg (tval (ep % 256) hA (min hn 100) hc pA (min pn 100) pc)) ∧ Below w.heap.size w w' := by
  obtain ⟨hm, hhm⟩ : ∃ hm : Nat, hm = min hn 100 := ⟨_, rfl⟩
  obtain ⟨pm, hpm⟩ : ∃ pm : Nat, pm = min pn 100 := ⟨_, rfl⟩
  rw [← hhm, ← hpm]
  have hmi : min (hn : Int) 100 = hm := by omega
  have pmi : min (pn : Int) 100 = pm := by omega
  have hc1 := fun W => cut_hi hA hn hc hm (by omega) .i64 W
  have hc2 := fun W => cut_hi pA pn pc pm (by omega) .i64 W
  have Hc1 := Lib.hid hc1
  have Hc2 := Lib.hid hc2
  clear hhm hpm hc1 hc2
  go_enter Tryd.func10, Tryd.ntmps10
  go_upto_region 1 with (fail)
  generalize hw1 : World.alloc (World.alloc w _) _ = w1
  have hr1 : w1.heap[w.heap.size]? = some (.cells (tval ep hA hn hc pA pn pc) 32 (0, 0)) := by rw [← hw1]; exact blk_alloc (new_at rfl) _
  have hr2 : w1.heap[w.heap.size + 1]? = some (.cells (tval 0 none 0 0 none 0 0) 32 (0, 0)) := by rw [← hw1]; exact new_at (by simp)
  have hB1 : Below w.heap.size w w1 := by rw [← hw1]; exact ((Below.refl _ w).alloc (Nat.le_refl _) _).alloc (by simp) _
  refine seg_begin (fun W => W.cell? ⟨w.heap.size, 0, none⟩ = some (.int .i64 ep) ∧ W.cell? ⟨w.heap.size, 1, none⟩ = some (.slice hA hn hc) ∧ W.cell? ⟨w.heap.size, 2, none⟩ = some (.slice pA pn pc)) [1, 2, 4, 6, 7, 8, 9, 11, 13, 14, 15, 16] (by kernel_rfl) ?_
  have HS : Hid (w1.drew.cell? ⟨w.heap.size, 0, none⟩ = some (.int .i64 ep) ∧ w1.drew.cell? ⟨w.heap.size, 1, none⟩ = some (.slice hA hn hc) ∧ w1.drew.cell? ⟨w.heap.size, 2, none⟩ = some (.slice pA pn pc)) := Lib.hid ⟨blk_cell hr1 0 rfl, blk_cell hr1 1 rfl, blk_cell hr1 2 rfl⟩
  have HR2 : Hid (w1.drew.heap[w.heap.size + 1]? = some (.cells (tval 0 none 0 0 none 0 0) 32 (0, 0))) := Lib.hid hr2
  have HB : Hid (Below w.heap.size w w1.drew) := Lib.hid hB1.drew
  clear hw1 hr1 hr2 hB1
  generalize w1.drew = wd at *
  (refine seg_take 0 ?_ rfl (by kernel_rfl) (by kernel_rfl) (by kernel_rfl) (by kernel_rfl) (by kernel_rfl) rfl (fun _ _ _ h => h) rfl ?_ ?_; rotate_left; (focus (intro w; go_simp; try with_reducible rfl)); (try simp only [List.getElem_toArray, List.getElem_cons_zero, List.getElem_cons_succ, Act.put, List.setIfInBounds_toArray, List.set_cons_zero, List.set_cons_succ]); refine seg_take 3 ?_ rfl (by kernel_rfl) (by kernel_rfl) (by kernel_rfl) (by kernel_rfl) (by kernel_rfl) rfl (fun _ _ _ h => h) rfl ?_ ?_; rotate_left; (focus (intro w; go_simp; try with_reducible rfl)); (try simp only [List.getElem_toArray, List.getElem_cons_zero, List.getElem_cons_succ, Act.put, List.setIfInBounds_toArray, List.set_cons_zero, List.set_cons_succ]); refine seg_take 5 ?_ rfl (by kernel_rfl) (by kernel_rfl) (by kernel_rfl) (by kernel_rfl) (by kernel_rfl) rfl (fun _ _ _ h => h) rfl ?_ ?_; rotate_left; (focus (intro w; go_simp; try with_reducible rfl)); (try simp only [List.getElem_toArray, List.getElem_cons_zero, List.getElem_cons_succ, Act.put, List.setIfInBounds_toArray, List.set_cons_zero, List.set_cons_succ]); refine seg_take 10 ?_ rfl (by kernel_rfl) (by kernel_rfl) (by kernel_rfl) (by kernel_rfl) (by kernel_rfl) rfl (fun _ _ _ h => h) rfl ?_ ?_; rotate_left; (focus (intro w; go_simp; try with_reducible rfl)); (try simp only [List.getElem_toArray, List.getElem_cons_zero, List.getElem_cons_succ, Act.put, List.setIfInBounds_toArray, List.set_cons_zero, List.set_cons_succ]); refine seg_take 12 ?_ rfl (by kernel_rfl) (by kernel_rfl) (by kernel_rfl) (by kernel_rfl) (by kernel_rfl) rfl (fun _ _ _ h => h) rfl ?_ ?_; rotate_left; (focus (intro w; go_simp; try with_reducible rfl)); (try simp only [List.getElem_toArray, List.getElem_cons_zero, List.getElem_cons_succ, Act.put, List.setIfInBounds_toArray, List.set_cons_zero, List.set_cons_succ]); refine seg_read 1 ?_ rfl (by kernel_rfl) (by kernel_rfl) (by kernel_rfl) (by kernel_rfl) (by kernel_rfl) (by kernel_rfl) (fun _ _ _ h => h) rfl HS.out ?_ ?_; rotate_left; (focus (intro w hSw; (try dsimp only at hSw); go_split_ands; go_simp; try with_reducible rfl)); (try simp only [List.getElem_toArray, List.getElem_cons_zero, List.getElem_cons_succ, Act.put, List.setIfInBounds_toArray, List.set_cons_zero, List.set_cons_succ]); refine seg_read 4 ?_ rfl (by kernel_rfl) (by kernel_rfl) (by kernel_rfl) (by kernel_rfl) (by kernel_rfl) (by kernel_rfl) (fun _ _ _ h => h) rfl HS.out ?_ ?_; rotate_left; (focus (intro w hSw; (try dsimp only at hSw); go_split_ands; go_simp; try with_reducible rfl)); (try simp only [List.getElem_toArray, List.getElem_cons_zero, List.getElem_cons_succ, Act.put, List.setIfInBounds_toArray, List.set_cons_zero, List.set_cons_succ]); refine seg_read 6 ?_ rfl (by kernel_rfl) (by kernel_rfl) (by kernel_rfl) (by kernel_rfl) (by kernel_rfl) (by kernel_rfl) (fun _ _ _ h => h) rfl HS.out ?_ ?_; rotate_left; (focus (intro w hSw; (try dsimp only at hSw); go_split_ands; go_simp; try with_reducible rfl)); (try simp only [List.getElem_toArray, List.getElem_cons_zero, List.getElem_cons_succ, Act.put, List.setIfInBounds_toArray, List.set_cons_zero, List.set_cons_succ]); refine seg_read 11 ?_ rfl (by kernel_rfl) (by kernel_rfl) (by kernel_rfl) (by kernel_rfl) (by kernel_rfl) (by kernel_rfl) (fun _ _ _ h => h) rfl HS.out ?_ ?_; rotate_left; (focus (intro w hSw; (try dsimp only at hSw); go_split_ands; go_simp; try with_reducible rfl)); (try simp only [List.getElem_toArray, List.getElem_cons_zero, List.getElem_cons_succ, Act.put, List.setIfInBounds_toArray, List.set_cons_zero, List.set_cons_succ]); refine seg_read 13 ?_ rfl (by kernel_rfl) (by kernel_rfl) (by kernel_rfl) (by kernel_rfl) (by kernel_rfl) (by kernel_rfl) (fun _ _ _ h => h) rfl HS.out ?_ ?_; rotate_left; (focus (intro w hSw; (try dsimp only at hSw); go_split_ands; go_simp; try with_reducible rfl)); (try simp only [List.getElem_toArray, List.getElem_cons_zero, List.getElem_cons_succ, Act.put, List.setIfInBounds_toArray, List.set_cons_zero, List.set_cons_succ]))
  (refine seg_read 7 (.int .i64 hn) rfl (by kernel_rfl) (by kernel_rfl) (by kernel_rfl) (by kernel_rfl) (by kernel_rfl) (by kernel_rfl) (fun _ _ _ h => h) rfl HS.out (fun W _ => by go_simp) ?_; (try simp only [List.getElem_toArray, List.getElem_cons_zero, List.getElem_cons_succ, Act.put, List.setIfInBounds_toArray, List.set_cons_zero, List.set_cons_succ]))
  skip
  (refine seg_read 8 (.int .i64 hm) rfl (by kernel_rfl) (by kernel_rfl) (by kernel_rfl) (by kernel_rfl) (by kernel_rfl) (by kernel_rfl) (fun _ _ _ h => h) rfl HS.out (fun W _ => by go_simp; omega) ?_; (try simp only [List.getElem_toArray, List.getElem_cons_zero, List.getElem_cons_succ, Act.put, List.setIfInBounds_toArray, List.set_cons_zero, List.set_cons_succ]))
  skip
  (refine seg_read 9 (.slice hA hm hc) rfl (by kernel_rfl) (by kernel_rfl) (by kernel_rfl) (by kernel_rfl) (by kernel_rfl) (by kernel_rfl) (fun _ _ _ h => h) rfl HS.out (fun W _ => yields_slice _ _ Tryd.underlying22 _ _ _ _ rfl _ _ _ rfl (Hc1.out W)) ?_; (try simp only [List.getElem_toArray, List.getElem_cons_zero, List.getElem_cons_succ, Act.put, List.setIfInBounds_toArray, List.set_cons_zero, List.set_cons_succ]))
  skip
  (refine seg_read 14 (.int .i64 pn) rfl (by kernel_rfl) (by kernel_rfl) (by kernel_rfl) (by kernel_rfl) (by kernel_rfl) (by kernel_rfl) (fun _ _ _ h => h) rfl HS.out (fun W _ => by go_simp) ?_; (try simp only [List.getElem_toArray, List.getElem_cons_zero, List.getElem_cons_succ, Act.put, List.setIfInBounds_toArray, List.set_cons_zero, List.set_cons_succ]))
  skip
  (refine seg_read 15 (.int .i64 pm) rfl (by kernel_rfl) (by kernel_rfl) (by kernel_rfl) (by kernel_rfl) (by kernel_rfl) (by kernel_rfl) (fun _ _ _ h => h) rfl HS.out (fun W _ => by go_simp; omega) ?_; (try simp only [List.getElem_toArray, List.getElem_cons_zero, List.getElem_cons_succ, Act.put, List.setIfInBounds_toArray, List.set_cons_zero, List.set_cons_succ]))
  skip
  (refine seg_read 16 (.slice pA pm pc) rfl (by kernel_rfl) (by kernel_rfl) (by kernel_rfl) (by kernel_rfl) (by kernel_rfl) (by kernel_rfl) (fun _ _ _ h => h) rfl HS.out (fun W _ => yields_slice _ _ Tryd.underlying22 _ _ _ _ rfl _ _ _ rfl (Hc2.out W)) ?_; (try simp only [List.getElem_toArray, List.getElem_cons_zero, List.getElem_cons_succ, Act.put, List.setIfInBounds_toArray, List.set_cons_zero, List.set_cons_succ]))
  skip
  (refine anyB_step 2 rfl (by kernel_rfl) ?_; (try simp only [List.getElem_toArray, List.getElem_cons_zero, List.getElem_cons_succ]))
  go_wp2_with (go_at_call 34; go_must (refine (bring_any ep wd h0 h1).mono ?_; rintro e w2 ⟨rfl, rfl⟩))
  refine ⟨fun _ => HS.out, ?_⟩
  (refine seg_take 17 ?_ rfl (by kernel_rfl) (by kernel_rfl) (by kernel_rfl) (by kernel_rfl) (by kernel_rfl) rfl (fun _ _ _ h => h) rfl ?_ ?_; rotate_left; (focus (intro w; go_simp; try with_reducible rfl)); (try simp only [List.getElem_toArray, List.getElem_cons_zero, List.getElem_cons_succ, Act.put, List.setIfInBounds_toArray, List.set_cons_zero, List.set_cons_succ]))
  (refine anyB_step 18 rfl (by kernel_rfl) ?_; (try simp only [List.getElem_toArray, List.getElem_cons_zero, List.getElem_cons_succ]))
  have hsz : Hid ((Tryd.prog.info? 32).map (·.size) = some (tval (ep % 256) hA hm hc pA pm pc).size) := Lib.hid (by kernel_rfl)
  have hold : Hid ((tval 0 none 0 0 none 0 0).size = (tval (ep % 256) hA hm hc pA pm pc).size) := Lib.hid rfl
  have hone : Hid ((tval (ep % 256) hA hm hc pA pm pc).all (·.oneCell') = true) := Lib.hid (by simp [Value.oneCell'])
  go_wp2_with (with_reducible refine wpList_store_row rfl 32 _ _ rfl (w.heap.size + 1) (tval (ep % 256) hA hm hc pA pm pc) rfl rfl 32 (tval 0 none 0 0 none 0 0) HR2.out hsz.out hold.out hone.out ?_)
  show AnyB _ _ _ _ _ _ _ _ _ _ _ _
  skip
  (refine anyB_done (by kernel_rfl) ?_)
  go_wp2
  refine bodyPost_ret (results_cell_row Tryd.results10 _ _ (w.heap.size + 1) _ _ (0, 0) _ rfl (setRow_heap _ _ _ _ _ _ HR2.out) Tryd.underlying32 rfl hsz.out) rfl ?_
  exact ⟨rfl, below_setRow HB.out (by omega) _⟩
end Go.Proofs.YtiboflejmnjdhaaDoor
end
section
set_option linter.unusedVariables false
set_option linter.unusedSimpArgs false
set_option maxRecDepth 100000
namespace Go.Proofs.YtiboflejmnjdhaaDoor
open Go Go.RowKit Go.Conc
theorem rd_name (w : World) (v : List Int) (h : v.length = 32) : Rd (w.alloc (.cells (w8 v) 47)) (some ⟨w.heap.size, 0, none⟩) 32 v := by
  have := Rd.new w v (by omega) 47 (0, 0)
  rwa [h] at this
set_option maxHeartbeats 1000000 in
theorem named_any (F R : List Int) (mb : Nat) (seed : List Int) (s : St) (own : List Nat) (k : ByteArray) (B : Option Addr) (m d : Nat) (ys : List Int) (w : World)
    (hTb : Tabs F R w) (hI : IsMd F R w mb seed s own) (hl : seed.length ≤ 10000000000000) (hll : s.left.length ≤ 10000000000000) (hp : s.p ≤ 9007199254600000) (hat : s.at_ ≤ 9007199254600000)
    (hks : k.size ≤ 1000) (hm : m = ys.length) (hy : Rd w B d ys) :
    Calls Tryd.prog 26 #[.pointer (some ⟨mb, 0, none⟩), .string k, .slice B m d] w fun e w' => e = .returned (.bool (decide (strOfNums (inm F R seed s k).1 = strOfNums ys))) ∧ (∃ own', IsMd F R w' mb seed (inm F R seed s k).2 own' ∧ Fresh w own own') ∧ Kp own w w' := by
  obtain ⟨kc, w1, hcv, hrd, hbl⟩ := conv_bytes k w (by omega)
  have hname := mname_any F R mb seed s own (some ⟨w.heap.size, 0, none⟩) k.size kc (numsOf k) w1 (hTb.below hbl) (hI.below hbl) hl hll hp hat (numsOf_length k).symm hrd
  rw [strOf_numsOf] at hname
  have Hname := Lib.hid hname
  have HI := Lib.hid hI
  have Hbl := Lib.hid hbl
  have Hy := Lib.hid hy
  have Hm := Lib.hid hm
  obtain ⟨v, hv⟩ : ∃ v, v = (inm F R seed s k).1 := ⟨_, rfl⟩
  rw [← hv]
  have Hv := Lib.hid hv
  clear hname hrd hbl hTb hI hy hm hv
  go_enter Tryd.func26, Tryd.ntmps26
  go_wp2_with (first
    | (go_at_call 19; go_must (refine Hname.out.mono ?_; rintro e w2 ⟨he, h0, h1, h2⟩; rw [← Hv.out] at he h0; obtain rfl : e = .returned (.tuple #[.agg (w8 v), .int .i64 0]) := he; have H0 := Lib.hid h0; have P1 := Lib.hid h1; have P2 := Lib.hid h2; have hsz : Hid ((Tryd.prog.info? 47).map (·.size) = some (w8 v).size) := Lib.hid (by rw [w8_size, h0]; kernel_rfl); have hold : Hid (z32.size = (w8 v).size) := Lib.hid (by rw [w8_size, h0]; rfl); clear h0 h1 h2))
    | (with_reducible refine wpList_store_new rfl 47 _ _ rfl _ rfl rfl _ _ hsz.out hold.out (w8_one _) ?_)
    | (go_at_call 13; go_must (refine (eqb_any (some ⟨w2.heap.size, 0, none⟩) B 32 32 m d v ys _ H0.out.symm (rd_name w2 v H0.out) Hm.out (((Hy.out.below Hbl.out).hard P2.out (fun b hb => ((HI.out.below Hbl.out).blocks b hb).1)).alloc _)).mono ?_; rintro e w3 ⟨rfl, rfl⟩)))
  go_ret
  obtain ⟨own', q1, q2⟩ := P1.out
  have hsz := Hbl.out.size
  refine ⟨by rfl, ⟨own', q1.below ((Below.refl _ w2).alloc (Nat.le_refl _) _), fun b hb => (q2 b hb).imp id (fun h => by omega)⟩, ((Kp.of_below (S := own) Hbl.out).then P2.out).alloc _⟩
end Go.Proofs.YtiboflejmnjdhaaDoor
end
