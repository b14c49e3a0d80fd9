/- The contract of sha.take: a block is summed up. -/
import Derived.Test.YthgnccgablploaaProg
import Derived.Test.YthgnccgablploaaReg
import Derived.Test.YthgnccgablploaaBase
import Derived.Test.YthgnccgablploaaShaF
import Derived.Lib.Hide
import Derived.Outline
set_option linter.unusedVariables false
set_option linter.unusedSimpArgs false
namespace Go.Proofs.Ythgnccgablploaa
open Go.RowKit
theorem turn_any (x n : Int) (h0 : 0 < n) (h1 : n < 32) (w : World) : Calls Try.prog 67 #[.int .u32 x, .int .i64 n] w fun e w' => e = .returned (.int .u32 (rot x n)) ∧ ∃ m, w' = w.drewN m := by
  go_enter Try.func67, Try.ntmps67
  go_wp2
  go_quiet (fail)
  go_wp2
  go_ret
  exact ⟨rfl, _, rfl⟩
set_option maxRecDepth 100000 in
set_option maxHeartbeats 8000000 in
theorem take_any (R : List Int) (v : Eight) (b off n c : Nat) (h64 : 64 ≤ n) (bs : List Int) (w : World) (hbs : ∀ i, i < 64 → w.cell? ⟨b, off + i, none⟩ = some (.int .u8 (bs.getD i 0)))
   (hbb : b < w.heap.size) (hR : w.heap[1]? = some (.cells (w32 R) 122 (0, 0))) (hRl : R.length = 64) :
  Calls Try.prog 65 #[.agg (w32 v.list), .slice (some ⟨b, off, none⟩) n c] w fun e w' => e = .returned (.agg (w32 (shaSums v.list (shaRounds R (shaSched bs 64) v 64).list 8))) ∧ Below w.heap.size w w' := by
  have hgl : 1 < w.heap.size := (Array.getElem?_eq_some_iff.1 hR).1
  go_enter Try.func65, Try.ntmps65
  go_wp2
  go_loopw [23] (fun i wr => ∃ k : Nat, k ≤ 64 ∧ i = .int .i64 k ∧ wr.heap[w.heap.size + 1 + 1]? = some (.cells (w32 (shaSched bs k)) 122 (0, 0)) ∧ Below (w.heap.size + 2) ((w.alloc (.cells (w32 v.list) 116)).alloc (.cells (w32 [0,0,0,0,0,0,0,0]) 116)) wr)
    (fun i _ => 64 - (intOf i).toNat)
  case atStart => exact ⟨0, by omega, rfl, new_at (by simp), (Below.refl _ _).alloc (by simp) _⟩
  case round =>
    obtain ⟨k, hk, rfl, hblk, hB⟩ := hrel
    have hcw : ∀ i, wr.cell? ⟨b, off + i, none⟩ = w.cell? ⟨b, off + i, none⟩ := fun i => by rw [hB.cell (p := ⟨b, off + i, none⟩) (by simp; omega), (Below.refl _ w |>.alloc (Nat.le_refl _) _ |>.alloc (by simp) _).cell (p := ⟨b, off + i, none⟩) hbb]
    by_cases hlt : k < 64
    · clear hR
      by_cases h16 : k < 16
      ·
        --[
        have b0 := (hcw (4*k)).trans (hbs (4*k) (by omega))
        have b1 := (hcw (4*k+1)).trans (hbs (4*k+1) (by omega))
        have b2 := (hcw (4*k+2)).trans (hbs (4*k+2) (by omega))
        have b3 := (hcw (4*k+3)).trans (hbs (4*k+3) (by omega))
        clear hcw hbs
        have hf := frozen_row hblk k
        have hc := cell_w32 hblk k (by rw [shaSched_len]; omega)
        go_wp2
        refine wp_region_quiet_tail_lit 35 (by kernel_rfl) (by kernel_rfl) ?_
        simp only [List.take_succ_cons, List.take_zero, List.drop_succ_cons, List.drop_zero]
        repeat (go_big_quiet_step (fail))
        refine wpQuiet_nil ?_
        rintro _ ⟨nq, rfl⟩
        go_wp2
        go_roundw
        case rel =>
          have hs := set_w32 (W := wr.drewN nq) hblk k (shaWord bs k)
          rw [← shaSched_lo h16] at hs
          simp only [shaWord, List.getD_eq_getElem?_getD] at hs
          exact ⟨k + 1, by omega, by go_num, hs, (below_drewN hB nq).setCell (by simp) _⟩
        case measure => simp [intOf]; omega
        --]
      ·
        --[
        have c15 := cell_w32 hblk (k - 15) (by rw [shaSched_len]; omega)
        have c2 := cell_w32 hblk (k - 2) (by rw [shaSched_len]; omega)
        clear hcw hbs
        go_wp2
        go_quiet (fail)
        have hblk : (wr.drewN nq).heap[w.heap.size + 1 + 1]? = some (.cells (w32 (shaSched bs k)) 122 (0, 0)) := hblk
        have hB := below_drewN hB nq
        clear c15 c2
        generalize wr.drewN nq = wq at *
        have c7 := cell_w32 hblk (k - 7) (by rw [shaSched_len]; omega)
        have c16 := cell_w32 hblk (k - 16) (by rw [shaSched_len]; omega)
        have hf := frozen_row hblk k
        have hc := cell_w32 hblk k (by rw [shaSched_len]; omega)
        go_wp2
        refine wp_region_quiet_tail_lit 29 (by kernel_rfl) (by kernel_rfl) ?_
        simp only [List.take_succ_cons, List.take_zero, List.drop_succ_cons, List.drop_zero]
        repeat (go_big_quiet_step ((go_at_call 67; exact Calls.quiet_of (turn_any _ _ (by decide) (by decide) _))))
        refine wpQuiet_nil ?_
        rintro _ ⟨nq2, rfl⟩
        go_wp2
        go_roundw
        case rel =>
          have hs := set_w32 (W := wq.drewN nq2) hblk k (shaMix (shaSched bs k) k)
          rw [← shaSched_hi h16] at hs
          simp only [shaMix, List.getD_eq_getElem?_getD] at hs
          exact ⟨k + 1, by omega, by go_num, hs, (below_drewN hB nq2).setCell (by simp) _⟩
        case measure => simp [intOf]; omega
        --]
    · obtain rfl : k = 64 := by omega
      have hgr : wr.heap[1]? = some (.cells (w32 R) 122 (0, 0)) := by
        rw [hB.block _ (by omega), ((Below.refl w.heap.size w).alloc (Nat.le_refl _) _ |>.alloc (by simp) _).block _ hgl]; exact hR
      have hv : wr.heap[w.heap.size]? = some (.cells (w32 v.list) 116 (0, 0)) := by
        rw [hB.block _ (by omega), Below.heap_alloc _ _ _ (by simp)]; exact new_at rfl
      have ho : wr.heap[w.heap.size + 1]? = some (.cells (w32 [0,0,0,0,0,0,0,0]) 116 (0, 0)) := by
        rw [hB.block _ (by omega)]; exact new_at (by simp)
      have hBw : Below w.heap.size w wr := ((Below.refl w.heap.size w).alloc (Nat.le_refl _) _ |>.alloc (by simp) _).trans (hB.mono (by omega))
      clear hB hcw hbs hR
      obtain ⟨wo, rfl⟩ : ∃ wo : World, wo = wr := ⟨_, rfl⟩
      have v0 := cell_w32 hv 0 (by simp [Eight.list])
      have v1 := cell_w32 hv 1 (by simp [Eight.list])
      have v2 := cell_w32 hv 2 (by simp [Eight.list])
      have v3 := cell_w32 hv 3 (by simp [Eight.list])
      have v4 := cell_w32 hv 4 (by simp [Eight.list])
      have v5 := cell_w32 hv 5 (by simp [Eight.list])
      have v6 := cell_w32 hv 6 (by simp [Eight.list])
      have v7 := cell_w32 hv 7 (by simp [Eight.list])
      simp only [Eight.list, List.getD_cons_zero, List.getD_cons_succ] at v0 v1 v2 v3 v4 v5 v6 v7
      go_wp2
      go_quiet (fail)
      have hgr : (wo.drewN nq).heap[1]? = some (.cells (w32 R) 122 (0, 0)) := hgr
      have hblk : (wo.drewN nq).heap[w.heap.size + 1 + 1]? = some (.cells (w32 (shaSched bs 64)) 122 (0, 0)) := hblk
      have hv : (wo.drewN nq).heap[w.heap.size]? = some (.cells (w32 v.list) 116 (0, 0)) := hv
      have ho : (wo.drewN nq).heap[w.heap.size + 1]? = some (.cells (w32 [0,0,0,0,0,0,0,0]) 116 (0, 0)) := ho
      have hBw := below_drewN hBw nq
      clear v0 v1 v2 v3 v4 v5 v6 v7
      generalize wo.drewN nq = wq at *
      have hsz : (Try.prog.info? 122).map (·.size) = some (w32 R).size := by rw [w32_size, hRl]; kernel_rfl
      go_wp2_with (with_reducible refine wpList_load_row rfl 122 _ rfl 1 rfl _ _ (0, 0) _ hgr Try.underlying122 rfl hsz ?_)
      clear hsz hgr
      go_loopw [9, 10, 11, 12, 13, 14, 15, 16, 118] (fun s9 s10 s11 s12 s13 s14 s15 s16 i wr => ∃ k : Nat, k ≤ 64 ∧ i = .int .i64 k ∧ s9 = .int .u32 (shaRounds R (shaSched bs 64) v k).a ∧ s10 = .int .u32 (shaRounds R (shaSched bs 64) v k).b ∧ s11 = .int .u32 (shaRounds R (shaSched bs 64) v k).c ∧ s12 = .int .u32 (shaRounds R (shaSched bs 64) v k).d ∧
          s13 = .int .u32 (shaRounds R (shaSched bs 64) v k).e ∧ s14 = .int .u32 (shaRounds R (shaSched bs 64) v k).f ∧ s15 = .int .u32 (shaRounds R (shaSched bs 64) v k).g ∧ s16 = .int .u32 (shaRounds R (shaSched bs 64) v k).h ∧ ∃ m, wr = wq.drewN m)
        (fun _ _ _ _ _ _ _ _ i _ => 64 - (intOf i).toNat)
      case atStart => exact ⟨0, by omega, rfl, rfl, rfl, rfl, rfl, rfl, rfl, rfl, rfl, 0, rfl⟩
      case round =>
        clear hk hlt
        obtain ⟨k, hk, rfl, rfl, rfl, rfl, rfl, rfl, rfl, rfl, rfl, m, rfl⟩ := hrel
        by_cases hlt : k < 64
        · obtain ⟨rk, hrk⟩ : ∃ r, r = R.getD k 0 := ⟨_, rfl⟩
          obtain ⟨wsk, hwsk⟩ : ∃ r, r = (shaSched bs 64).getD k 0 := ⟨_, rfl⟩
          have hix := run_index_row (P := Try.prog) Try.underlying122 Try.underlying80 (by kernel_rfl) (w32 R) k hlt _ (w32_get R k (by omega))
          have hc : (wq.drewN m).cell? ⟨w.heap.size + 1 + 1, k, none⟩ = _ := cell_w32 (W := wq) hblk k (by rw [shaSched_len]; omega)
          rw [← hrk] at hix
          rw [← hwsk] at hc
          generalize hst : shaRounds R (shaSched bs 64) v k = st at *
          generalize hwz : wq.drewN m = wz at *
          have Hrk := Lib.hid hrk
          have Hwsk := Lib.hid hwsk
          have Hst := Lib.hid hst
          have Hwz := Lib.hid hwz
          clear hst hrk hwsk hwz
          go_wp2
          go_quiet ((go_at_call 67; exact Calls.quiet_of (turn_any _ _ (by decide) (by decide) _)))
          go_wp2_with (go_at_call 67; refine (turn_any _ _ (by decide) (by decide) _).mono ?_; rintro e w' ⟨rfl, m2, rfl⟩)
          go_roundw
          case rel =>
            have hn : shaRounds R (shaSched bs 64) v (k + 1) = shaRound st rk wsk := by rw [shaRounds, Hst.out, ← Hrk.out, ← Hwsk.out]
            refine ⟨k + 1, by omega, by go_num, ?_⟩
            rw [hn]
            exact ⟨rfl, rfl, rfl, rfl, rfl, rfl, rfl, rfl, _, by rw [← Hwz.out, World.drewN_drewN]⟩
          case measure => simp [intOf]; omega
        · obtain rfl : k = 64 := by omega
          have hv : (wq.drewN m).heap[w.heap.size]? = some (.cells (w32 v.list) 116 (0, 0)) := hv
          have ho : (wq.drewN m).heap[w.heap.size + 1]? = some (.cells (w32 [0,0,0,0,0,0,0,0]) 116 (0, 0)) := ho
          have hBw := below_drewN hBw m
          generalize hst : shaRounds R (shaSched bs 64) v 64 = st at *
          have Hst := Lib.hid hst
          clear hst hblk hRl
          generalize wq.drewN m = wz at *
          go_wp2
          go_loopw [186] (fun i wr => ∃ k : Nat, k ≤ 8 ∧ i = .int .i64 k ∧ wr.heap[w.heap.size]? = some (.cells (w32 (shaSums v.list st.list k)) 116 (0, 0)) ∧ wr.heap[w.heap.size + 1]? = some (.cells (w32 [0,0,0,0,0,0,0,0]) 116 (0, 0)) ∧ Below w.heap.size w wr)
            (fun i _ => 8 - (intOf i).toNat)
          case atStart => exact ⟨0, by omega, rfl, hv, ho, hBw⟩
          case round =>
            obtain ⟨k, hk, rfl, hv', ho', hBr⟩ := hrel
            clear hv ho hBw
            by_cases hlt : k < 8
            · obtain ⟨y, hy⟩ : ∃ y, y = st.list.getD k 0 := ⟨_, rfl⟩
              obtain ⟨x, hx⟩ : ∃ x, x = (shaSums v.list st.list k).getD k 0 := ⟨_, rfl⟩
              have hix : ∀ W, (Instr.index 116 (.agg #[.int .u32 st.a, .int .u32 st.b, .int .u32 st.c, .int .u32 st.d, .int .u32 st.e, .int .u32 st.f, .int .u32 st.g, .int .u32 st.h]) (.int .i64 k)).run Try.prog W = .ok (.int .u32 y) W :=
                run_index_row (P := Try.prog) Try.underlying116 Try.underlying80 (by kernel_rfl) _ k hlt _ (by rw [hy]; exact w32_get st.list k (by simpa [Eight.list] using hlt))
              have hc := cell_w32 hv' k (by rw [shaSums_len]; simpa [Eight.list] using hlt)
              have hf := frozen_row hv' k
              rw [← hx] at hc
              have Hx := Lib.hid hx
              have Hy := Lib.hid hy
              clear hx hy
              go_wp2
              go_roundw
              case rel =>
                have hs := set_w32 hv' k ((x + y) % 4294967296)
                have hn : shaSums v.list st.list (k + 1) = (shaSums v.list st.list k).set k ((x + y) % 4294967296) := by rw [shaSums, Hx.out, Hy.out]
                rw [← hn] at hs
                exact ⟨k + 1, by omega, by go_num, hs, (Below.heap_setCell _ _ _ _ (by simp)).trans ho', hBr.setCell (Nat.le_refl _) _⟩
              case measure => simp [intOf]; omega
            · obtain rfl : k = 8 := by omega
              have hsz : (Try.prog.info? 116).map (·.size) = some (w32 (shaSums v.list st.list 8)).size := by rw [w32_size, shaSums_len]; kernel_rfl
              have hold : (w32 [0,0,0,0,0,0,0,0]).size = (w32 (shaSums v.list st.list 8)).size := by rw [w32_size, w32_size, shaSums_len]; rfl
              go_wp2_with (first | (with_reducible refine wpList_load_row rfl 116 _ rfl w.heap.size rfl _ _ (0, 0) _ hv' Try.underlying116 rfl hsz ?_) | (with_reducible refine wpList_store_row rfl 116 _ _ rfl (w.heap.size + 1) _ rfl rfl _ _ ho' hsz hold (w32_one _) ?_))
              refine bodyPost_ret (results_cell_row Try.results65 _ _ (w.heap.size + 1) _ _ (0, 0) _ rfl (setRow_heap _ _ _ _ _ _ ho') Try.underlying116 rfl hsz) rfl ⟨?_, ?_⟩
              · rw [← Hst.out]
              · exact below_setRow hBr (by omega) _
theorem take_list (R l : List Int) (hl : l.length = 8) (b off n c : Nat) (h64 : 64 ≤ n) (bs : List Int) (w : World) (hbs : ∀ i, i < 64 → w.cell? ⟨b, off + i, none⟩ = some (.int .u8 (bs.getD i 0)))
   (hR : w.heap[1]? = some (.cells (w32 R) 122 (0, 0))) (hRl : R.length = 64) :
  Calls Try.prog 65 #[.agg (w32 l), .slice (some ⟨b, off, none⟩) n c] w fun e w' => e = .returned (.agg (w32 (shaTake R l bs))) ∧ Below w.heap.size w w' := by
  have h := take_any R (Eight.of l) b off n c h64 bs w hbs (World.block_lt_of_cell? w _ (hbs 0 (by omega))) hR hRl
  rw [Eight.of_list l hl] at h
  exact h
end Go.Proofs.Ythgnccgablploaa
