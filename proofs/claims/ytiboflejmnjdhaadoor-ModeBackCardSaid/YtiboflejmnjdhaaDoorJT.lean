/- Contracts of package gcm: words, the product. -/
import Derived.Test.YtiboflejmnjdhaaDoorAes5
import Derived.Deep.Cut
import Derived.Test.YtiboflejmnjdhaaDoorJQ
section
set_option linter.unusedVariables false
set_option linter.unusedSimpArgs false
set_option maxRecDepth 100000
namespace Go.Proofs.YtiboflejmnjdhaaDoor
open Go Go.RowKit
def wordUp (xs : List Int) : Nat → Int
  | 0 => 0
  | k + 1 => bits .or .u64 (IntKind.u64.wrap (wordUp xs k * 256)) (IntKind.u64.wrap (xs.getD k 0))
theorem word_any (A : Option Addr) (n c : Nat) (xs : List Int) (hn : n = xs.length) (w : World) (hr : Rd w A c xs) :
    Calls Tryd.prog 93 #[.slice A n c] w fun e w' => e = .returned (.int .u64 (wordUp xs n)) ∧ w = w' := by
  have Hr := Lib.hid hr
  have Hn := Lib.hid hn
  have hl := hr.len
  rw [← hn] at hl
  clear hr hn
  go_enter Tryd.func93, Tryd.ntmps93
  go_wp2
  go_loop [2, 7] (fun s i => ∃ k : Nat, k ≤ n ∧ i = .int .i64 k ∧ s = .int .u64 (wordUp xs k)) (fun _ i => n - (intOf i).toNat)
  case atStart => exact ⟨0, by omega, rfl, rfl⟩
  case round =>
    obtain ⟨k, hk, rfl, rfl⟩ := hrel
    by_cases hlt : k < n
    · obtain ⟨b, off, rfl, hc⟩ := Hr.out.cells (by rw [← Hn.out]; omega)
      have hck := hc k (by rw [← Hn.out]; exact hlt)
      obtain ⟨x, hx⟩ : ∃ x, x = xs.getD k 0 := ⟨_, rfl⟩
      rw [← hx] at hck
      have Hx := Lib.hid hx
      clear hc hx
      go_wp2
      refine ⟨⟨k + 1, by omega, by go_num, by rw [wordUp, ← Hx.out]⟩, by simp [intOf]; omega⟩
    · obtain rfl : k = n := by omega
      go_wp2
      go_ret
      exact ⟨rfl, rfl⟩
def pAdd (p q : Int × Int) : Int × Int := (bits .xor .u64 p.1 q.1, bits .xor .u64 p.2 q.2)
def pNext (p : Int × Int) : Int × Int :=
  (bits .xor .u64 (p.1 / 2) (bits .and .u64 16212958658533785600 (IntKind.u64.wrap (-bits .and .u64 p.2 1))), bits .or .u64 (p.2 / 2) (IntKind.u64.wrap (p.1 * 9223372036854775808)))
theorem padd_any (p q : Int × Int) (w : World) : Calls Tryd.prog 77 #[.agg #[.int .u64 p.1, .int .u64 p.2], .agg #[.int .u64 q.1, .int .u64 q.2]] w fun e w' => e = .returned (.agg #[.int .u64 (pAdd p q).1, .int .u64 (pAdd p q).2]) ∧ Below w.heap.size w w' := by
  go_enter Tryd.func77, Tryd.ntmps77
  go_wp2
  refine bodyPost_ret (results_cell_row Tryd.results77 _ _ (w.heap.size + 2) _ _ (0, 0) _ rfl (new_at (by simp)) Tryd.underlying155 rfl (by kernel_rfl)) rfl ⟨rfl, ?_⟩
  exact (((Below.refl _ _).alloc (Nat.le_refl _) _).alloc (by simp) _).alloc (by simp; omega) _
theorem pnext_any (p : Int × Int) (w : World) : Calls Tryd.prog 94 #[.agg #[.int .u64 p.1, .int .u64 p.2]] w fun e w' => e = .returned (.agg #[.int .u64 (pNext p).1, .int .u64 (pNext p).2]) ∧ Below w.heap.size w w' := by
  go_enter Tryd.func94, Tryd.ntmps94
  go_wp2
  refine bodyPost_ret (results_cell_row Tryd.results94 _ _ (w.heap.size + 1) _ _ (0, 0) _ rfl (new_at (by simp)) Tryd.underlying155 rfl (by kernel_rfl)) rfl ⟨rfl, ?_⟩
  exact ((Below.refl _ _).alloc (Nat.le_refl _) _).alloc (by simp) _
theorem pinfo {a b : Int} : (Tryd.prog.info? 155).map (·.size) = some (#[Value.int .u64 a, Value.int .u64 b] : Array Value).size := by kernel_rfl
theorem psize {a b c d : Int} : (#[Value.int .u64 a, Value.int .u64 b] : Array Value).size = (#[Value.int .u64 c, Value.int .u64 d] : Array Value).size := rfl
theorem pone {a b : Int} : (#[Value.int .u64 a, Value.int .u64 b] : Array Value).all (·.oneCell') = true := by simp [Value.oneCell']
/-- (out, p) behind k steps of one word. -/
def mulUp (u : Int) (s : (Int × Int) × (Int × Int)) : Nat → (Int × Int) × (Int × Int)
  | 0 => s
  | k + 1 => (if bits .and .u64 (u / 2 ^ (63 - k)) 1 = 1 then pAdd (mulUp u s k).1 (mulUp u s k).2 else (mulUp u s k).1, pNext (mulUp u s k).2)
def pMul (p q : Int × Int) : Int × Int := (mulUp q.2 (mulUp q.1 ((0, 0), p) 64) 64).1
/-- The words behind j of both. -/
def mulW (p q : Int × Int) : Nat → (Int × Int) × (Int × Int)
  | 0 => ((0, 0), p)
  | 1 => mulUp q.1 ((0, 0), p) 64
  | _ => mulUp q.2 (mulUp q.1 ((0, 0), p) 64) 64
set_option maxHeartbeats 1000000 in
theorem pmul_any (p q : Int × Int) (w : World) : Calls Tryd.prog 78 #[.agg #[.int .u64 p.1, .int .u64 p.2], .agg #[.int .u64 q.1, .int .u64 q.2]] w fun e w' => e = .returned (.agg #[.int .u64 (pMul p q).1, .int .u64 (pMul p q).2]) ∧ Below w.heap.size w w' := by
  go_enter Tryd.func78, Tryd.ntmps78
  go_wp2
  go_loopw [13] (fun i wr => ∃ j : Nat, j ≤ 2 ∧ i = .int .i64 j ∧ Hid (wr.heap[w.heap.size]? = some (.cells #[.int .u64 (mulW p q j).2.1, .int .u64 (mulW p q j).2.2] 155 (0, 0))) ∧ Hid (wr.heap[w.heap.size + 1 + 1]? = some (.cells #[.int .u64 (mulW p q j).1.1, .int .u64 (mulW p q j).1.2] 155 (0, 0))) ∧ Hid (Below w.heap.size w wr))
    (fun i _ => 2 - (intOf i).toNat)
  case atStart => exact ⟨0, by omega, rfl, Lib.hid (blk_alloc (blk_alloc (new_at rfl) _) _), Lib.hid (new_at (by simp)), Lib.hid ((((Below.refl _ _).alloc (Nat.le_refl _) _).alloc (by simp) _).alloc (by simp; omega) _)⟩
  case round =>
    obtain ⟨j, hj, rfl, Hp, Ho, HB⟩ := hrel
    obtain ⟨wo, rfl⟩ : ∃ wo : World, wo = wr := ⟨_, rfl⟩
    by_cases hlt : j < 2
    · obtain ⟨u, hu⟩ : ∃ u, u = if j = 0 then q.1 else q.2 := ⟨_, rfl⟩
      have hix := run_index_row (P := Tryd.prog) Tryd.underlying174 Tryd.underlying153 (by kernel_rfl) #[.int .u64 q.1, .int .u64 q.2] j hlt (.int .u64 u) (by
        rcases (show j = 0 ∨ j = 1 by omega) with rfl | rfl
        · rw [hu]; rfl
        · rw [hu]; rfl)
      obtain ⟨s, hs⟩ : ∃ s, s = mulW p q j := ⟨_, rfl⟩
      have hnext : mulW p q (j + 1) = mulUp u s 64 := by
        rcases (show j = 0 ∨ j = 1 by omega) with rfl | rfl
        · rw [hs, hu]; rfl
        · rw [hs, hu]; rfl
      rw [← hs] at Hp Ho
      have Hnext := Lib.hid hnext
      have H1 : Hid (wo.heap[w.heap.size]? = some (.cells #[.int .u64 (mulUp u s 0).2.1, .int .u64 (mulUp u s 0).2.2] 155 (0, 0))) := Hp
      have H2 : Hid (wo.heap[w.heap.size + 1 + 1]? = some (.cells #[.int .u64 (mulUp u s 0).1.1, .int .u64 (mulUp u s 0).1.2] 155 (0, 0))) := Ho
      have hjb : decide ((j : Int) < 2) = true := by simp; omega
      clear hu hs hnext Hp Ho
      go_wp2
      clear hjb
      go_loopw [16] (fun i wr => ∃ k : Nat, k ≤ 64 ∧ i = .int .i64 k ∧ Hid (wr.heap[w.heap.size]? = some (.cells #[.int .u64 (mulUp u s k).2.1, .int .u64 (mulUp u s k).2.2] 155 (0, 0))) ∧ Hid (wr.heap[w.heap.size + 1 + 1]? = some (.cells #[.int .u64 (mulUp u s k).1.1, .int .u64 (mulUp u s k).1.2] 155 (0, 0))) ∧ Hid (Below w.heap.size w wr))
        (fun i _ => 64 - (intOf i).toNat)
      case atStart => exact ⟨0, by omega, rfl, H1, H2, HB⟩
      case round =>
        clear H1 H2 HB
        obtain ⟨k, hk, rfl, Hp, Ho, HB⟩ := hrel
        by_cases hk64 : k < 64
        · obtain ⟨o, ho⟩ : ∃ o, o = (mulUp u s k).1 := ⟨_, rfl⟩
          obtain ⟨z, hz⟩ : ∃ z, z = (mulUp u s k).2 := ⟨_, rfl⟩
          rw [← hz] at Hp
          rw [← ho] at Ho
          have hk63 : (63 - (k : Int)).toNat = 63 - k := by omega
          have Ho' := Lib.hid ho
          have Hz' := Lib.hid hz
          clear ho hz
          by_cases hbit : bits .and .u64 (u / 2 ^ (63 - k)) 1 = 1
          · have hb : (bits .and .u64 (u / 2 ^ (63 - k)) 1 == 1) = true := by simpa using hbit
            have Hbit := Lib.hid hbit
            clear hbit
            go_wp2_with (first
              | (with_reducible refine wpList_load_row rfl 155 (.tmp 4) rfl (w.heap.size + 1 + 1) rfl _ _ (0, 0) _ Ho.out Tryd.underlying155 rfl pinfo ?_)
              | (with_reducible refine wpList_load_row rfl 155 (.tmp 2) rfl w.heap.size rfl _ _ (0, 0) _ Hp.out Tryd.underlying155 rfl pinfo ?_)
              | (go_at_call 77; go_must (refine (padd_any o z _).mono ?_; rintro e w3 ⟨rfl, hb3⟩; have HB3 := Lib.hid hb3; have Hp3 := Lib.hid (below_at hb3 Hp.out (blk_lt Hp.out)); have Ho3 := Lib.hid (below_at hb3 Ho.out (blk_lt Ho.out)); clear hb3))
              | ((with_reducible refine wpList_store_row rfl 155 (.tmp 4) _ rfl (w.heap.size + 1 + 1) _ rfl rfl _ _ Ho3.out pinfo psize pone ?_); go_must (have Hp4 := Lib.hid ((setRow_other w3 (w.heap.size + 1 + 1) w.heap.size #[.int .u64 (pAdd o z).1, .int .u64 (pAdd o z).2] (by omega)).trans Hp3.out)))
              | (with_reducible refine wpList_load_row rfl 155 (.tmp 2) rfl w.heap.size rfl _ _ (0, 0) _ Hp4.out Tryd.underlying155 rfl pinfo ?_)
              | (go_at_call 94; go_must (refine (pnext_any z _).mono ?_; rintro e w5 ⟨rfl, hb5⟩; have HB5 := Lib.hid hb5; have Hp5 := Lib.hid (below_at hb5 Hp4.out (blk_lt Hp4.out)); clear hb5))
              | (with_reducible refine wpList_store_row rfl 155 (.tmp 2) _ rfl w.heap.size _ rfl rfl _ _ Hp5.out pinfo psize pone ?_))
            go_roundw
            case rel =>
              have hl0 := blk_lt Hp.out
              have e1 : (mulUp u s (k + 1)).1 = pAdd o z := by rw [mulUp, if_pos Hbit.out, ← Ho'.out, ← Hz'.out]
              have e2 : (mulUp u s (k + 1)).2 = pNext z := by rw [mulUp, ← Hz'.out]
              have hO4 : (w3.setRow (w.heap.size + 1 + 1) #[.int .u64 (pAdd o z).1, .int .u64 (pAdd o z).2]).heap[w.heap.size + 1 + 1]? = _ := setRow_heap _ _ _ _ _ _ Ho3.out
              have hB3 : Below w.heap.size w w3 := HB.out.trans (HB3.out.mono (Nat.le_of_lt hl0))
              have hB4 : Below w.heap.size w (w3.setRow (w.heap.size + 1 + 1) #[.int .u64 (pAdd o z).1, .int .u64 (pAdd o z).2]) := below_setRow hB3 (by omega) _
              refine ⟨k + 1, by omega, by go_num, Lib.hid ?_, Lib.hid ?_, Lib.hid ?_⟩
              · rw [e2]; exact setRow_heap _ _ _ _ _ _ Hp5.out
              · rw [e1]; exact (setRow_other _ _ (w.heap.size + 1 + 1) _ (Nat.ne_of_gt (by omega))).trans (below_at HB5.out hO4 (blk_lt hO4))
              · exact below_setRow (hB4.trans (HB5.out.mono hB4.size)) (Nat.le_refl _) _
            case measure => simp [intOf]; omega
          · have hb : (bits .and .u64 (u / 2 ^ (63 - k)) 1 == 1) = false := by simpa using hbit
            have Hbit := Lib.hid hbit
            clear hbit
            go_wp2_with (first
              | (with_reducible refine wpList_load_row rfl 155 (.tmp 2) rfl w.heap.size rfl _ _ (0, 0) _ Hp.out Tryd.underlying155 rfl pinfo ?_)
              | (go_at_call 94; go_must (refine (pnext_any z _).mono ?_; rintro e w5 ⟨rfl, hb5⟩; have HB5 := Lib.hid hb5; have Hp5 := Lib.hid (below_at hb5 Hp.out (blk_lt Hp.out)); clear hb5))
              | (with_reducible refine wpList_store_row rfl 155 (.tmp 2) _ rfl w.heap.size _ rfl rfl _ _ Hp5.out pinfo psize pone ?_))
            go_roundw
            case rel =>
              have e1 : (mulUp u s (k + 1)).1 = o := by rw [mulUp, if_neg Hbit.out, ← Ho'.out]
              have e2 : (mulUp u s (k + 1)).2 = pNext z := by rw [mulUp, ← Hz'.out]
              refine ⟨k + 1, by omega, by go_num, Lib.hid ?_, Lib.hid ?_, Lib.hid ?_⟩
              · rw [e2]; exact setRow_heap _ _ _ _ _ _ Hp5.out
              · rw [e1]; exact (setRow_other _ _ (w.heap.size + 1 + 1) _ (Nat.ne_of_gt (by omega))).trans (below_at HB5.out Ho.out (blk_lt Ho.out))
              · exact below_setRow (HB.out.trans (HB5.out.mono HB.out.size)) (Nat.le_refl _) _
            case measure => simp [intOf]; omega
        · obtain rfl : k = 64 := by omega
          go_wp2
          go_roundw
          case rel => exact ⟨j + 1, by omega, by go_num, by rw [Hnext.out]; exact Hp, by rw [Hnext.out]; exact Ho, HB⟩
          case measure => simp [intOf]; omega
    · obtain rfl : j = 2 := by omega
      go_wp2_with (first
        | (with_reducible refine wpList_load_row rfl 155 (.tmp 4) rfl (w.heap.size + 1 + 1) rfl _ _ (0, 0) _ Ho.out Tryd.underlying155 rfl pinfo ?_)
        | (with_reducible refine wpList_store_row rfl 155 (.tmp 4) _ rfl (w.heap.size + 1 + 1) _ rfl rfl _ _ Ho.out pinfo psize pone ?_))
      refine bodyPost_ret (results_cell_row Tryd.results78 _ _ (w.heap.size + 1 + 1) _ _ (0, 0) _ rfl (setRow_heap _ _ _ _ _ _ Ho.out) Tryd.underlying155 rfl pinfo) rfl ⟨rfl, ?_⟩
      exact below_setRow HB.out (by omega) _
end Go.Proofs.YtiboflejmnjdhaaDoor
end
section
set_option linter.unusedVariables false
set_option linter.unusedSimpArgs false
set_option maxRecDepth 100000
namespace Go.Proofs.YtiboflejmnjdhaaDoor
open Go Go.RowKit
def pOf (bs : List Int) : Int × Int := (wordUp (bs.take 8) 8, wordUp (bs.drop 8) 8)
theorem word_q (b off c : Nat) (xs : List Int) (hx : xs.length = 8) (w : World) (hr : Rd w (some ⟨b, off, none⟩) c xs) :
    Calls Tryd.prog 93 #[.slice (some ⟨b, off, none⟩) 8 c] w fun e w' => e = .returned (.int .u64 (wordUp xs 8)) ∧ w' = w :=
  (word_any (some ⟨b, off, none⟩) 8 c xs hx.symm w hr).mono fun e w' h => ⟨h.1, h.2.symm⟩
theorem of_any (bs : List Int) (hb : bs.length = 16) (w : World) : Calls Tryd.prog 76 #[.agg (w8 bs)] w fun e w' => e = .returned (.agg #[.int .u64 (pOf bs).1, .int .u64 (pOf bs).2]) ∧ Below w.heap.size w w' := by
  have hsz : (w8 bs).size = 16 := by rw [w8_size, hb]
  have Hb := Lib.hid hb
  obtain ⟨w2, hw2⟩ : ∃ w2, w2 = (w.alloc (.cells (w8 bs) 50)).alloc (.cells #[.int .u64 0, .int .u64 0] 155) := ⟨_, rfl⟩
  have hB : Below w.heap.size w w2 := by rw [hw2]; exact ((Below.refl _ _).alloc (Nat.le_refl _) _).alloc (by simp) _
  have h0 : w2.heap[w.heap.size]? = some (.cells (w8 bs) 50 (0, 0)) := by rw [hw2]; exact blk_alloc (new_at rfl) _
  have h1 : w2.heap[w.heap.size + 1]? = some (.cells #[.int .u64 0, .int .u64 0] 155 (0, 0)) := by rw [hw2]; exact new_at (by simp)
  have HRa : Hid (Rd w2 (some ⟨w.heap.size, 0, none⟩) 16 (bs.take 8)) := Lib.hid ⟨by simp; omega, by omega, by simp, fun _ => ⟨_, 0, rfl, fun j hj => by
    simp only [List.length_take] at hj
    rw [Nat.zero_add, cell_w8 h0 j (by omega)]
    simp [List.getD_eq_getElem?_getD, show j < 8 by omega]⟩⟩
  have HRb : Hid (Rd w2 (some ⟨w.heap.size, 8, none⟩) 8 (bs.drop 8)) := Lib.hid ⟨by simp; omega, by omega, by simp, fun _ => ⟨_, 8, rfl, fun j hj => by
    simp only [List.length_drop] at hj
    rw [cell_w8 h0 (8 + j) (by omega)]
    simp [List.getD_eq_getElem?_getD, List.getElem?_drop]⟩⟩
  have hla : (bs.take 8).length = 8 := by simp; omega
  have hlb : (bs.drop 8).length = 8 := by simp; omega
  have Hla := Lib.hid hla
  have Hlb := Lib.hid hlb
  have H1 := Lib.hid h1
  have HB := Lib.hid hB
  have Hw2 := Lib.hid hw2
  clear hla hlb h0 h1 hB hw2 hb hsz
  go_enter Tryd.func76, Tryd.ntmps76
  go_wp2
  rw [← Hw2.out]
  clear Hw2
  refine wp_region_quiet_tail_lit 5 (by kernel_rfl) (by kernel_rfl) ?_
  simp only [List.take_succ_cons, List.take_zero, List.drop_succ_cons, List.drop_zero]
  repeat (go_big_quiet_step ((first
    | (go_at_call_of 93 (Value.slice (some (⟨w.heap.size, 0, none⟩ : Addr)) 8 16); exact Calls.quiet_of_same (word_q _ _ _ _ Hla.out _ (HRa.out.drewN _)))
    | (go_at_call_of 93 (Value.slice (some (⟨w.heap.size, 8, none⟩ : Addr)) 8 8); exact Calls.quiet_of_same (word_q _ _ _ _ Hlb.out _ (HRb.out.drewN _))))))
  refine wpQuiet_nil ?_
  rintro _ ⟨nq, rfl⟩
  have Hd : Hid ((w2.drewN nq).heap[w.heap.size + 1]? = some (.cells #[.int .u64 0, .int .u64 0] 155 (0, 0))) := H1
  go_wp2_with (with_reducible refine wpList_store_row rfl 155 _ _ rfl (w.heap.size + 1) _ rfl rfl _ _ Hd.out pinfo psize pone ?_)
  refine bodyPost_ret (results_cell_row Tryd.results76 _ _ (w.heap.size + 1) _ _ (0, 0) _ rfl (setRow_heap _ _ _ _ _ _ Hd.out) Tryd.underlying155 rfl pinfo) rfl ⟨rfl, ?_⟩
  exact below_setRow (below_drewN HB.out nq) (by omega) _
/-- A block's bytes: i of each word. -/
def pblkUp (p : Int × Int) : Nat → List Int
  | 0 => List.replicate 16 0
  | k + 1 => ((pblkUp p k).set k (p.1 / 2 ^ (56 - 8 * k) % 256)).set (8 + k) (p.2 / 2 ^ (56 - 8 * k) % 256)
theorem pblkUp_len (p : Int × Int) : ∀ k, (pblkUp p k).length = 16
  | 0 => by simp [pblkUp]
  | k + 1 => by simp [pblkUp, pblkUp_len p k]
def pBlk (p : Int × Int) : List Int := pblkUp p 8
theorem pblock_any (p : Int × Int) (w : World) : Calls Tryd.prog 79 #[.agg #[.int .u64 p.1, .int .u64 p.2]] w fun e w' => e = .returned (.agg (w8 (pBlk p))) ∧ Below w.heap.size w w' := by
  go_enter Tryd.func79, Tryd.ntmps79
  go_wp2
  go_loopw [4] (fun i wr => ∃ k : Nat, k ≤ 8 ∧ i = .int .i64 k ∧ Hid (wr.heap[w.heap.size]? = some (.cells #[.int .u64 p.1, .int .u64 p.2] 155 (0, 0))) ∧ Hid (wr.heap[w.heap.size + 1]? = some (.cells (w8 (pblkUp p k)) 50 (0, 0))) ∧ Hid (Below w.heap.size w wr))
    (fun i _ => 8 - (intOf i).toNat)
  case atStart => exact ⟨0, by omega, rfl, Lib.hid (blk_alloc (new_at rfl) _), Lib.hid (new_at (by simp)), Lib.hid (((Below.refl _ _).alloc (Nat.le_refl _) _).alloc (by simp) _)⟩
  case round =>
    obtain ⟨k, hk, rfl, Hp, Ho, HB⟩ := hrel
    by_cases hlt : k < 8
    · have c0 := blk_cell (v := .int .u64 p.1) Hp.out 0 rfl
      have c1 := blk_cell (v := .int .u64 p.2) Hp.out 1 rfl
      have d0 := cell_w8 Ho.out k (by rw [pblkUp_len]; omega)
      have d1 := cell_w8 Ho.out (8 + k) (by rw [pblkUp_len]; omega)
      have f0 := frozen_row Ho.out k
      have f1 := frozen_row Ho.out (8 + k)
      have e1 : (56 - 8 * (k : Int)).toNat = 56 - 8 * k := by omega
      go_wp2
      go_roundw
      case rel =>
        refine ⟨k + 1, by omega, by go_num, Lib.hid ?_, Lib.hid ?_, Lib.hid ((HB.out.setCell (by simp) _).setCell (by simp) _)⟩
        · exact blk_far (blk_far Hp.out (by simp) _) (by simp) _
        · rw [pblkUp]; exact set_w8 (set_w8 Ho.out k _) (8 + k) _
      case measure => simp [intOf]; omega
    · obtain rfl : k = 8 := by omega
      have hsz : Hid ((Tryd.prog.info? 50).map (·.size) = some (w8 (pblkUp p 8)).size) := Lib.hid (by rw [w8_size, pblkUp_len]; kernel_rfl)
      go_wp2_with (first | (with_reducible refine wpList_load_row rfl 50 _ rfl (w.heap.size + 1) rfl _ _ (0, 0) _ Ho.out Tryd.underlying50 rfl hsz.out ?_) | (with_reducible refine wpList_store_row rfl 50 _ _ rfl (w.heap.size + 1) _ rfl rfl _ _ Ho.out hsz.out rfl (w8_one _) ?_))
      refine bodyPost_ret (results_cell_row Tryd.results79 _ _ (w.heap.size + 1) _ _ (0, 0) _ rfl (setRow_heap _ _ _ _ _ _ Ho.out) Tryd.underlying50 rfl hsz.out) rfl ⟨rfl, ?_⟩
      exact below_setRow HB.out (by omega) _
theorem counted_any (cb : Nat) (nonce : List Int) (w : World) : Calls Tryd.prog 49 #[.pointer (some ⟨cb, 0, none⟩), .agg (w8 nonce)] w fun e w' =>
    e = .returned (.func (.func 73) #[] #[.pointer (some ⟨w.heap.size + 1, 0, none⟩), .pointer (some ⟨w.heap.size, 0, none⟩)]) ∧ w' = (w.alloc (.cells #[.pointer (some ⟨cb, 0, none⟩)] 53)).alloc (.cells (w8 nonce) 56) := by
  go_enter Tryd.func49, Tryd.ntmps49
  go_wp2
  go_ret
  exact ⟨rfl, rfl⟩
/-- What a count block is made of, i bytes of the count written. -/
def cntUp (nonce : List Int) (n : Int) : Nat → List Int
  | 0 => nonce ++ [0, 0, 0, 0]
  | i + 1 => (cntUp nonce n i).set (12 + i) (n / 2 ^ (24 - 8 * i) % 256)
theorem cntUp_len (nonce : List Int) (h : nonce.length = 12) (n : Int) : ∀ i, (cntUp nonce n i).length = 16
  | 0 => by simp [cntUp, h]
  | i + 1 => by rw [cntUp, List.length_set, cntUp_len nonce h n i]
def cntBlk (K nonce : List Int) (n : Int) : List Int := aesBlk K (cntUp nonce n 4)
theorem cntBlk_len (K nonce : List Int) (h : nonce.length = 12) (n : Int) : (cntBlk K nonce n).length = 16 := aesBlk_len K _ (cntUp_len nonce h n 4)
/-- The sealed count blocks of a nonce: a function value, and what it has captured. -/
structure IsCnt (w : World) (nb xb cb : Nat) (K nonce : List Int) : Prop where
  n : w.heap[nb]? = some (.cells (w8 nonce) 56 (0, 0))
  x : w.heap[xb]? = some (.cells #[.pointer (some ⟨cb, 0, none⟩)] 53 (0, 0))
  c : IsC w cb K
  len : nonce.length = 12
  K : K.length = 16
theorem IsCnt.turn {w w' : World} {nb xb cb B : Nat} {K nonce : List Int} (h : IsCnt w nb xb cb K nonce) (hT : Turn B w w') : IsCnt w' nb xb cb K nonce :=
  ⟨cells_turn hT h.n, cells_turn hT h.x, h.c.turn hT, h.len, h.K⟩
theorem IsCnt.below {w w' : World} {nb xb cb : Nat} {K nonce : List Int} (h : IsCnt w nb xb cb K nonce) (hT : Below w.heap.size w w') : IsCnt w' nb xb cb K nonce := h.turn (.of_below (B := 0) hT)
theorem count_any (nb xb cb : Nat) (K nonce : List Int) (n : Int) (h0 : 0 ≤ n) (w : World) (h : IsCnt w nb xb cb K nonce) :
    Calls Tryd.prog 73 #[.int .i64 n, .pointer (some ⟨nb, 0, none⟩), .pointer (some ⟨xb, 0, none⟩)] w fun e w' => e = .returned (.agg (w8 (cntBlk K nonce n))) ∧ Below w.heap.size w w' := by
  have H := Lib.hid h
  have hn12 := h.len
  clear h
  obtain ⟨w2, hw2⟩ : ∃ w2, w2 = (w.alloc (.cells #[.int .u8 0, .int .u8 0, .int .u8 0, .int .u8 0, .int .u8 0, .int .u8 0, .int .u8 0, .int .u8 0, .int .u8 0, .int .u8 0, .int .u8 0, .int .u8 0, .int .u8 0, .int .u8 0, .int .u8 0, .int .u8 0] 50)).alloc (.cells #[.int .u8 0, .int .u8 0, .int .u8 0, .int .u8 0, .int .u8 0, .int .u8 0, .int .u8 0, .int .u8 0, .int .u8 0, .int .u8 0, .int .u8 0, .int .u8 0, .int .u8 0, .int .u8 0, .int .u8 0, .int .u8 0] 50) := ⟨_, rfl⟩
  have hB : Below w.heap.size w w2 := by rw [hw2]; exact ((Below.refl _ _).alloc (Nat.le_refl _) _).alloc (by simp) _
  have h20 : w2.heap[w.heap.size]? = some (.cells #[.int .u8 0, .int .u8 0, .int .u8 0, .int .u8 0, .int .u8 0, .int .u8 0, .int .u8 0, .int .u8 0, .int .u8 0, .int .u8 0, .int .u8 0, .int .u8 0, .int .u8 0, .int .u8 0, .int .u8 0, .int .u8 0] 50 (0, 0)) := by rw [hw2]; exact blk_alloc (new_at rfl) _
  have h21 : w2.heap[w.heap.size + 1]? = some (.cells #[.int .u8 0, .int .u8 0, .int .u8 0, .int .u8 0, .int .u8 0, .int .u8 0, .int .u8 0, .int .u8 0, .int .u8 0, .int .u8 0, .int .u8 0, .int .u8 0, .int .u8 0, .int .u8 0, .int .u8 0, .int .u8 0] 50 (0, 0)) := by rw [hw2]; exact new_at (by simp)
  have HB := Lib.hid hB
  have H20 := Lib.hid h20
  have H21 := Lib.hid h21
  have Hw2 := Lib.hid hw2
  have Hlen := Lib.hid hn12
  have H2 : Hid (IsCnt w2 nb xb cb K nonce) := Lib.hid (H.out.below hB)
  clear hB h20 h21 hw2 hn12
  go_enter Tryd.func73, Tryd.ntmps73
  go_upto_region 2 with (fail)
  rw [← Hw2.out]
  clear Hw2
  refine wp_region_quiet_tail_lit 2 (by kernel_rfl) (by kernel_rfl) ?_
  simp only [List.take_succ_cons, List.take_zero, List.drop_succ_cons, List.drop_zero]
  repeat (go_big_quiet_step (fail))
  refine wpQuiet_nil ?_
  rintro _ ⟨nq, rfl⟩
  have hz16 : (#[.int .u8 0, .int .u8 0, .int .u8 0, .int .u8 0, .int .u8 0, .int .u8 0, .int .u8 0, .int .u8 0, .int .u8 0, .int .u8 0, .int .u8 0, .int .u8 0, .int .u8 0, .int .u8 0, .int .u8 0, .int .u8 0] : Array Value) = w8 (List.replicate 16 0) := rfl
  have Hcur : Hid ((w2.drewN nq).heap[w.heap.size + 1]? = some (.cells (w8 (List.replicate 16 0)) 50 (0, 0))) := H21
  have Hrn : Hid (Rd (w2.drewN nq) (some ⟨nb, 0, none⟩) 12 nonce) := Lib.hid ⟨by have := Hlen.out; omega, by omega, by simp, fun _ => ⟨_, 0, rfl, fun j hj => by rw [Nat.zero_add]; exact cell_w8 (W := w2) H2.out.n j hj⟩⟩
  have HBd : Hid (Below w.heap.size w (w2.drewN nq)) := Lib.hid (below_drewN HB.out nq)
  have Hd0 : Hid ((w2.drewN nq).heap[w.heap.size]? = some (.cells (w8 (List.replicate 16 0)) 50 (0, 0))) := H20
  have HC2 : Hid (IsCnt (w2.drewN nq) nb xb cb K nonce) := Lib.hid (H2.out.below (below_drewN (Below.refl _ _) nq))
  clear hz16 H20 H21 H2
  have hd0lt := blk_lt Hd0.out
  generalize w2.drewN nq = wd at *
  go_wp2_with (with_reducible refine wp_copy8 rfl (.tmp 7) (.tmp 8) rfl (w.heap.size + 1) 16 16 rfl (some ⟨nb, 0, none⟩) 12 12 rfl nonce Hlen.out.symm Hrn.out (List.replicate 16 0) 50 Hcur.out (by decide) (by decide) (w.heap.size + 1) wd (Below.refl _ _) (Nat.le_refl _) ?_; intro w3 hw3 hb3; have Hw3 := Lib.hid hw3; have HB3 := Lib.hid hb3; clear hw3 hb3)
  have h3 : w3.heap[w.heap.size + 1]? = some (.cells (w8 (cntUp nonce n 0)) 50 (0, 0)) := by
    have := Hw3.out
    rw [Hlen.out] at this
    exact this
  have H3 := Lib.hid h3
  have HB3' : Hid (Below w.heap.size wd w3) := Lib.hid (HB3.out.mono (by omega))
  have H30 : Hid (w3.heap[w.heap.size]? = some (.cells (w8 (List.replicate 16 0)) 50 (0, 0))) := Lib.hid (below_at HB3.out Hd0.out (by omega))
  have HBw3 : Hid (Below w.heap.size w w3) := Lib.hid (HBd.out.trans HB3'.out)
  clear h3
  go_loopw [10] (fun i wr => ∃ k : Nat, k ≤ 4 ∧ i = .int .i64 k ∧ Hid (wr.heap[w.heap.size + 1]? = some (.cells (w8 (cntUp nonce n k)) 50 (0, 0))) ∧ Hid (wr.heap[w.heap.size]? = some (.cells (w8 (List.replicate 16 0)) 50 (0, 0))) ∧ Hid (Below w.heap.size w wr))
    (fun i _ => 4 - (intOf i).toNat)
  case atStart => exact ⟨0, by omega, rfl, H3, H30, HBw3⟩
  case round =>
    clear H3 H30 HBw3
    obtain ⟨k, hk, rfl, H3, H30, HBw3⟩ := hrel
    by_cases hlt : k < 4
    · have c1 := cell_w8 H3.out (12 + k) (by rw [cntUp_len nonce Hlen.out]; omega)
      have f1 := frozen_row H3.out (12 + k)
      have e1 : (24 - 8 * (k : Int)).toNat = 24 - 8 * k := by omega
      go_wp2
      go_roundw
      case rel => exact ⟨k + 1, by omega, by go_num, Lib.hid (by rw [cntUp]; exact set_w8 H3.out (12 + k) _), Lib.hid (blk_far H30.out (by simp) _), Lib.hid (HBw3.out.setCell (by simp) _)⟩
      case measure => simp [intOf]; omega
    · obtain rfl : k = 4 := by omega
      have Hc4 : Hid (IsCnt wr nb xb cb K nonce) := Lib.hid (H.out.below HBw3.out)
      have cx := blk_cell (v := .pointer (some ⟨cb, 0, none⟩)) Hc4.out.x 0 rfl
      have Hl4 : Hid ((cntUp nonce n 4).length = 16) := Lib.hid (cntUp_len nonce Hlen.out n 4)
      have Hsz : Hid ((Tryd.prog.info? 50).map (·.size) = some (w8 (cntUp nonce n 4)).size) := Lib.hid (by rw [w8_size, Hl4.out]; kernel_rfl)
      have Hszr : Hid ((Tryd.prog.info? 50).map (·.size) = some (w8 (aesBlk K (cntUp nonce n 4))).size) := Lib.hid (by rw [w8_size, aesBlk_len K _ Hl4.out]; kernel_rfl)
      have Hold : Hid ((w8 (List.replicate 16 0)).size = (w8 (aesBlk K (cntUp nonce n 4))).size) := Lib.hid (by rw [w8_size, w8_size, aesBlk_len K _ Hl4.out]; rfl)
      go_wp2_with (first
        | (with_reducible refine wpList_load_row rfl 50 _ rfl (w.heap.size + 1) rfl _ _ (0, 0) _ H3.out Tryd.underlying50 rfl Hsz.out ?_)
        | (go_at_call 74; go_must (refine (aesblock_any cb K _ Hc4.out.K Hl4.out _ Hc4.out.c).mono ?_; rintro e w5 ⟨rfl, hb5⟩; have HB5 := Lib.hid hb5; have H50 := Lib.hid (below_at hb5 H30.out (blk_lt H30.out)); clear hb5))
        | (with_reducible refine wpList_store_row rfl 50 _ _ rfl w.heap.size _ rfl rfl _ _ H50.out Hszr.out Hold.out (w8_one _) ?_))
      refine bodyPost_ret (results_cell_row Tryd.results73 _ _ w.heap.size _ _ (0, 0) _ rfl (setRow_heap _ _ _ _ _ _ H50.out) Tryd.underlying50 rfl Hszr.out) rfl ⟨rfl, ?_⟩
      exact below_setRow (HBw3.out.trans (HB5.out.mono HBw3.out.size)) (Nat.le_refl _) _
theorem asked_gcm (cb : Nat) (tA hA : Option Addr) (tn tc hn hc many : Nat) (w : World) (h1 : tn ≤ many) (h2 : hn ≤ 65536) :
    Calls Tryd.prog 48 #[.pointer (some ⟨cb, 0, none⟩), .slice tA tn tc, .slice hA hn hc, .int .i64 many] w fun e w' => e = .returned (.int .i64 0) ∧ w = w' := by
  have e1 : decide ((many : Int) < (tn : Int)) = false := by simp; omega
  have e2 : decide ((65536 : Int) < (hn : Int)) = false := by simp; omega
  go_enter Tryd.func48, Tryd.ntmps48
  go_wp2
  go_ret
  exact ⟨rfl, rfl⟩
end Go.Proofs.YtiboflejmnjdhaaDoor
end
