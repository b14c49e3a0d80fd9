/- Contracts of package tape. -/
import Derived.Test.YtiboflejmnjdhaaDoorJE
import Derived.Test.YtiboflejmnjdhaaDoorJD
import Derived.Conc.SmallLaws
import Derived.Outline
section
set_option linter.unusedVariables false
set_option linter.unusedSimpArgs false
set_option maxRecDepth 100000
namespace Go.Proofs.YtiboflejmnjdhaaDoor
open Go.RowKit
/-- A tape's block. -/
def blkOf (F R seed : List Int) (n : Nat) : List Int := shaSum F R (seed ++ beTo n 8)
theorem blkOf_len (F R seed : List Int) (n : Nat) : (blkOf F R seed n).length = 32 := shaSum_len _ _ _

set_option maxHeartbeats 2000000 in
theorem block_any (F R : List Int) (tb n : Nat) (A : Option Addr) (c : Nat) (seed : List Int) (w : World) (hT : Tabs F R w) (hs : w.cell? ⟨tb, 0, none⟩ = some (.slice A seed.length c)) (hr : Rd w A c seed) (hl : seed.length ≤ 10000000000000) (hn : n ≤ 9007199254740991) :
    Calls Tryd.prog 61 #[.pointer (some ⟨tb, 0, none⟩), .int .i64 n] w fun e w' => e = .returned (.agg (w8 (blkOf F R seed n))) ∧ Below w.heap.size w w' := by
  have HT := Lib.hid hT
  have Hr := Lib.hid hr
  have Hs := Lib.hid hs
  clear hT hr hs
  go_enter Tryd.func61, Tryd.ntmps61
  go_wp2
  refine seg_begin (fun W => W.cell? ⟨tb, 0, none⟩ = some (.slice A seed.length c)) [0, 4] (by kernel_rfl) ?_
  generalize hwd : World.drew _ = wd
  have HB0 : Hid (Below w.heap.size w wd) := Lib.hid (alloc_drew hwd).1
  have HO0 : Hid (∃ old : Array Value, old.size = 32 ∧ wd.heap[w.heap.size]? = some (.cells old 45 (0, 0))) := Lib.hid ⟨_, by rfl, (alloc_drew hwd).2⟩
  clear hwd
  have Hs1 : Hid (wd.cell? ⟨tb, 0, none⟩ = some (.slice A seed.length c)) := Lib.hid ((HB0.out.cell (p := ⟨tb, 0, none⟩) (World.block_lt_of_cell? w _ Hs.out)).trans Hs.out)
  (refine seg_take 1 ?_ rfl (by kernel_rfl) (by kernel_rfl) (by kernel_rfl) (by kernel_rfl) (by kernel_rfl) rfl (fun _ _ _ h => h) rfl ?_ ?_; rotate_left; (focus (intro w; go_simp; try with_reducible rfl)); (try simp only [List.getElem_toArray, List.getElem_cons_zero, List.getElem_cons_succ, Act.put, List.setIfInBounds_toArray, List.set_cons_zero, List.set_cons_succ]); refine seg_take 2 ?_ rfl (by kernel_rfl) (by kernel_rfl) (by kernel_rfl) (by kernel_rfl) (by kernel_rfl) rfl (fun _ _ _ h => h) rfl ?_ ?_; rotate_left; (focus (intro w; go_simp; try with_reducible rfl)); (try simp only [List.getElem_toArray, List.getElem_cons_zero, List.getElem_cons_succ, Act.put, List.setIfInBounds_toArray, List.set_cons_zero, List.set_cons_succ]); refine seg_take 3 ?_ rfl (by kernel_rfl) (by kernel_rfl) (by kernel_rfl) (by kernel_rfl) (by kernel_rfl) rfl (fun _ _ _ h => h) rfl ?_ ?_; rotate_left; (focus (intro w; go_simp; try with_reducible rfl)); (try simp only [List.getElem_toArray, List.getElem_cons_zero, List.getElem_cons_succ, Act.put, List.setIfInBounds_toArray, List.set_cons_zero, List.set_cons_succ]); refine seg_take 6 ?_ rfl (by kernel_rfl) (by kernel_rfl) (by kernel_rfl) (by kernel_rfl) (by kernel_rfl) rfl (fun _ _ _ h => h) rfl ?_ ?_; rotate_left; (focus (intro w; go_simp; try with_reducible rfl)); (try simp only [List.getElem_toArray, List.getElem_cons_zero, List.getElem_cons_succ, Act.put, List.setIfInBounds_toArray, List.set_cons_zero, List.set_cons_succ]); refine seg_read 4 ?_ rfl (by kernel_rfl) (by kernel_rfl) (by kernel_rfl) (by kernel_rfl) (by kernel_rfl) (by kernel_rfl) (fun _ _ _ h => h) rfl Hs1.out ?_ ?_; rotate_left; (focus (intro w hSw; (try dsimp only at hSw); go_split_ands; go_simp; try with_reducible rfl)); (try simp only [List.getElem_toArray, List.getElem_cons_zero, List.getElem_cons_succ, Act.put, List.setIfInBounds_toArray, List.set_cons_zero, List.set_cons_succ]))
  (refine anyB_step 0 rfl (by kernel_rfl) ?_; (try simp only [List.getElem_toArray, List.getElem_cons_zero, List.getElem_cons_succ]))
  go_wp2_with (go_at_call 41; go_must (refine (write_new2 _).mono ?_; rintro e w1 ⟨rfl, h1, h2⟩; have HW := Lib.hid h1; have HB1 := Lib.hid h2; clear h1 h2))
  refine ⟨fun _ => (HB1.out.cell (p := ⟨tb, 0, none⟩) (World.block_lt_of_cell? wd _ Hs1.out)).trans Hs1.out, ?_⟩
  (refine anyB_step 5 rfl (by kernel_rfl) ?_; (try simp only [List.getElem_toArray, List.getElem_cons_zero, List.getElem_cons_succ]))
  go_wp2_with (go_at_call 42; go_must (refine (raw_ok wd.heap.size wd.heap.size [] A c seed.length seed w1 HW.out rfl ((Hr.out.below HB0.out).below HB1.out) (by simp; omega)).mono ?_; rintro e w2 ⟨rfl, h1, h2⟩; have HW2 := Lib.hid h1; have HB2 := Lib.hid (HB1.out.trans h2); clear h1 h2 HW HB1))
  refine ⟨nofun, ?_⟩
  (refine anyB_step 7 rfl (by kernel_rfl) ?_; (try simp only [List.getElem_toArray, List.getElem_cons_zero, List.getElem_cons_succ]))
  go_wp2_with (go_at_call 43; go_must (refine (num_eight wd.heap.size wd.heap.size seed n w2 HW2.out (by omega) (by omega) (by omega)).mono ?_; rintro e w3 ⟨rfl, h1, h2⟩; have HW3 := Lib.hid h1; have HB3 := Lib.hid (HB2.out.trans h2); clear h1 h2 HW2 HB2))
  refine ⟨nofun, ?_⟩
  (refine anyB_step 8 rfl (by kernel_rfl) ?_; (try simp only [List.getElem_toArray, List.getElem_cons_zero, List.getElem_cons_succ]))
  go_wp2_with (go_at_call 44; go_must (refine (bytes_ok wd.heap.size wd.heap.size (seed ++ beTo n 8) w3 HW3.out (by simp [beTo_len]; omega)).mono ?_; rintro e w4 ⟨v, rfl, h1, h2⟩; have HO4 := Lib.hid h1; have HB4 := Lib.hid (HB3.out.trans (h2.mono HB3.out.size)); clear h1 h2 HW3 HB3))
  refine ⟨nofun, ?_⟩
  (refine seg_take 9 ?_ rfl (by kernel_rfl) (by kernel_rfl) (by kernel_rfl) (by kernel_rfl) (by kernel_rfl) rfl (fun _ _ _ h => h) rfl ?_ ?_; rotate_left; (focus (intro w; go_simp; try with_reducible rfl)); (try simp only [List.getElem_toArray, List.getElem_cons_zero, List.getElem_cons_succ, Act.put, List.setIfInBounds_toArray, List.set_cons_zero, List.set_cons_succ]); refine seg_take 10 ?_ rfl (by kernel_rfl) (by kernel_rfl) (by kernel_rfl) (by kernel_rfl) (by kernel_rfl) rfl (fun _ _ _ h => h) rfl ?_ ?_; rotate_left; (focus (intro w; go_simp; try with_reducible rfl)); (try simp only [List.getElem_toArray, List.getElem_cons_zero, List.getElem_cons_succ, Act.put, List.setIfInBounds_toArray, List.set_cons_zero, List.set_cons_succ]); refine seg_take 11 ?_ rfl (by kernel_rfl) (by kernel_rfl) (by kernel_rfl) (by kernel_rfl) (by kernel_rfl) rfl (fun _ _ _ h => h) rfl ?_ ?_; rotate_left; (focus (intro w; go_simp; try with_reducible rfl)); (try simp only [List.getElem_toArray, List.getElem_cons_zero, List.getElem_cons_succ, Act.put, List.setIfInBounds_toArray, List.set_cons_zero, List.set_cons_succ]); refine seg_take 12 ?_ rfl (by kernel_rfl) (by kernel_rfl) (by kernel_rfl) (by kernel_rfl) (by kernel_rfl) rfl (fun _ _ _ h => h) rfl ?_ ?_; rotate_left; (focus (intro w; go_simp; try with_reducible rfl)); (try simp only [List.getElem_toArray, List.getElem_cons_zero, List.getElem_cons_succ, Act.put, List.setIfInBounds_toArray, List.set_cons_zero, List.set_cons_succ]); refine seg_take 13 ?_ rfl (by kernel_rfl) (by kernel_rfl) (by kernel_rfl) (by kernel_rfl) (by kernel_rfl) rfl (fun _ _ _ h => h) rfl ?_ ?_; rotate_left; (focus (intro w; go_simp; try with_reducible rfl)); (try simp only [List.getElem_toArray, List.getElem_cons_zero, List.getElem_cons_succ, Act.put, List.setIfInBounds_toArray, List.set_cons_zero, List.set_cons_succ]))
  (refine anyB_done (by kernel_rfl) ?_)
  have hv := HO4.out.rd
  obtain ⟨A5, c5, hv5, hr5, _⟩ := hv
  obtain ⟨m5, hm5⟩ : ∃ m5, m5 = (seed ++ beTo n 8).length := ⟨_, rfl⟩
  rw [← hm5] at hv5
  have Hm5 := Lib.hid hm5
  subst hv5
  clear hm5
  have Hr5 := Lib.hid hr5
  have HB4' : Hid (Below w.heap.size w w4) := Lib.hid (HB0.out.trans (HB4.out.mono HB0.out.size))
  have HO4' : Hid (∃ old : Array Value, old.size = 32 ∧ w4.heap[w.heap.size]? = some (.cells old 45 (0, 0))) := Lib.hid (by obtain ⟨old, h1, h2⟩ := HO0.out; exact ⟨old, h1, below_at HB4.out h2 (blk_lt h2)⟩)
  clear hr5 HO4
  go_wp2_with (first
    | (go_at_call 62; go_must (refine (sum_any F R A5 c5 m5 (seed ++ beTo n 8) w4 (HT.out.below HB4'.out) Hm5.out Hr5.out (by simp [beTo_len]; omega)).mono ?_; rintro e w5 ⟨he, h2⟩; obtain rfl : e = .returned (.agg (w8 (blkOf F R seed n))) := he; have HB5 : Hid (Below w.heap.size w w5) := Lib.hid (HB4'.out.trans (h2.mono HB4'.out.size)); obtain ⟨old, hold', ho'⟩ := HO4'.out; have ho := Lib.hid (below_at h2 ho' (blk_lt ho')); have hsz : Hid ((Tryd.prog.info? 45).map (·.size) = some (w8 (blkOf F R seed n)).size) := Lib.hid (by rw [w8_size, blkOf_len]; kernel_rfl); have hold : Hid (old.size = (w8 (blkOf F R seed n)).size) := Lib.hid (by rw [w8_size, blkOf_len]; exact hold'); clear h2 hold' ho'))
    | (with_reducible refine wpList_store_row rfl 45 _ _ rfl w.heap.size _ rfl rfl _ _ ho.out hsz.out hold.out (w8_one _) ?_))
  refine bodyPost_ret (results_cell_row Tryd.results61 _ _ w.heap.size _ _ (0, 0) _ rfl (setRow_heap _ _ _ _ _ _ ho.out) Tryd.underlying45 rfl hsz.out) rfl ⟨rfl, ?_⟩
  exact below_setRow HB5.out (Nat.le_refl _) _
end Go.Proofs.YtiboflejmnjdhaaDoor
end
section
set_option linter.unusedVariables false
set_option linter.unusedSimpArgs false
set_option maxRecDepth 100000
namespace Go.Proofs.YtiboflejmnjdhaaDoor
open Go Go.RowKit Go.Conc
/-- The blocks that wait. -/
def waits (F R seed : List Int) (p q : Nat) : Array Value := ((List.range q).map fun i => Value.agg (w8 (blkOf F R seed (p + i)))).toArray
theorem waits_size (F R seed : List Int) (p q : Nat) : (waits F R seed p q).size = q := by simp [waits]
theorem waits_push (F R seed : List Int) (p q : Nat) : (waits F R seed p q).push (.agg (w8 (blkOf F R seed (p + q)))) = waits F R seed p (q + 1) := by simp [waits, List.range_succ]
theorem waits_shift (F R seed : List Int) (p q : Nat) : (waits F R seed p (q + 1)).extract 1 (q + 1) = waits F R seed (p + 1) q := by
  apply Array.ext
  · simp [waits]
  · intro i h1 h2
    simp [waits] at h1 h2 ⊢
    congr 2
    omega
theorem waits_head (F R seed : List Int) (p q : Nat) : (waits F R seed p (q + 1)).getD 0 undef = .agg (w8 (blkOf F R seed p)) := by simp [waits]
/-- A tape's row. -/
def trow (sA : Option Addr) (sn sc : Nat) (lA : Option Addr) (ln lc : Nat) (made : Nat) (ch : Option Nat) (at_ : Nat) (begun : Bool) : Array Value :=
  #[.slice sA sn sc, .slice lA ln lc, .int .i64 made, .chan ch, .int .i64 at_, .bool begun]
/-- The channel of a tape. -/
def Waits (F R : List Int) (w : World) (ch : Option Nat) (seed : List Int) (p q : Nat) : Prop :=
  match ch with
  | none => q = 0
  | some cb => q ≤ 4 ∧ ∃ s r, w.heap[cb]? = some (.chan 4 (waits F R seed p q) false s r false)
/-- A tape of a seed: left comes next, then the blocks from number p on; q wait; at were drawn. -/
structure IsT (F R : List Int) (w : World) (tb : Nat) (ch : Option Nat) (sA : Option Addr) (sc : Nat) (seed left : List Int) (p at_ : Nat) : Prop where
  row : ∃ lA lc q begun, w.heap[tb]? = some (.cells (trow sA seed.length sc lA left.length lc (p + q) ch at_ begun) 79 (0, 0)) ∧ Rd w sA sc seed ∧ Rd w lA lc left ∧ Waits F R w ch seed p q
theorem Waits.kp {F R : List Int} {S : List Nat} {w w' : World} {ch : Option Nat} {seed : List Int} {p q : Nat} (h : Waits F R w ch seed p q) (hk : Kp S w w') (hS : ∀ c, ch = some c → c ∉ S) : Waits F R w' ch seed p q := by
  cases ch with
  | none => exact h
  | some cb =>
    obtain ⟨h1, s, r, h2⟩ := h
    exact ⟨h1, s, r, hk.at_ h2 (hS cb rfl)⟩
/-- Where the slices of a tape lie is no matter, if only cells of other kinds are written. -/
theorem IsT.below {F R : List Int} {w w' : World} {tb : Nat} {ch : Option Nat} {sA : Option Addr} {sc : Nat} {seed left : List Int} {p at_ : Nat} (h : IsT F R w tb ch sA sc seed left p at_) (hk : Below w.heap.size w w') : IsT F R w' tb ch sA sc seed left p at_ := by
  obtain ⟨lA, lc, q, bg, h1, h2, h3, h4⟩ := h.row
  refine ⟨lA, lc, q, bg, below_at hk h1 (blk_lt h1), h2.below hk, h3.below hk, ?_⟩
  cases ch with
  | none => exact h4
  | some cb =>
    obtain ⟨h5, s, r, h6⟩ := h4
    exact ⟨h5, s, r, below_at hk h6 (blk_lt h6)⟩
theorem IsT.lt {F R : List Int} {w : World} {tb : Nat} {ch : Option Nat} {sA : Option Addr} {sc : Nat} {seed left : List Int} {p at_ : Nat} (h : IsT F R w tb ch sA sc seed left p at_) : tb < w.heap.size := by
  obtain ⟨lA, lc, q, bg, h1, h2, h3, h4⟩ := h.row
  exact blk_lt h1

theorem eql_chan' (d : Nat) (x y : Option Nat) (w : World) : (Op.equalIn (d + 1) 77 (.chan x) (.chan y)).run Tryd.prog w = .ok (x == y) w := by
  simp [Op.equalIn, run_underlying Tryd.underlying77]
theorem eql_chan (x y : Option Nat) (w : World) : (binOp .eql 77 (.chan x) (.chan y)).run Tryd.prog w = .ok (.bool (x == y)) w := by
  have h := eql_chan' 9999 x y w
  have e : Op.equal 77 (.chan x) (.chan y) = Op.equalIn (9999 + 1) 77 (.chan x) (.chan y) := rfl
  simp only [binOp, e, Sem.run_bind, h, Result.andThen_ok, Sem.run_pure]
theorem make_chan (w : World) : (Instr.makeChan 77 (.int .i64 4)).run Tryd.prog w = .ok (.chan (some w.heap.size)) (w.alloc (.chan 4 #[] false 0 0 false)) := by
  have hi0 : (Tryd.prog.info? 45).map (·.bytes) = some 32 := by kernel_rfl
  obtain ⟨i, hi, hb⟩ := Option.map_eq_some_iff.1 hi0
  simpa using run_makeChan (P := Tryd.prog) (w := w) Tryd.underlying77 hi .i64 4 (by omega) (by rw [hb]; omega)
/-- Where a tape's left bytes lie: if there are any. -/
def LeftIn (w : World) (tb : Nat) (G : Nat → Prop) : Prop := ∀ A n c a, w.cell? ⟨tb, 1, none⟩ = some (.slice A n c) → 0 < n → A = some a → G a.block
theorem begin_any2 (F R : List Int) (tb : Nat) (ch : Option Nat) (sA : Option Addr) (sc : Nat) (seed left : List Int) (p at_ : Nat) (w : World) (hT : IsT F R w tb ch sA sc seed left p at_) :
    Calls Tryd.prog 37 #[.pointer (some ⟨tb, 0, none⟩)] w fun e w' => e = .returned (.tuple #[]) ∧ (∃ cb, IsT F R w' tb (some cb) sA sc seed left p at_ ∧ (ch = some cb ∨ (ch = none ∧ w.heap.size ≤ cb))) ∧ Kp [tb] w w' ∧ w'.cell? ⟨tb, 1, none⟩ = w.cell? ⟨tb, 1, none⟩ := by
  obtain ⟨lA, lc, q, bg, h1, h2, h3, h4⟩ := hT
  have c3 : w.cell? ⟨tb, 3, none⟩ = some (.chan ch) := blk_cell h1 3 rfl
  have hlt := blk_lt h1
  have H1 := Lib.hid h1
  have H2 := Lib.hid h2
  have H3 := Lib.hid h3
  have H4 := Lib.hid h4
  clear h1 h2 h3 h4
  have heq := fun W => eql_chan ch none W
  cases ch with
  | some cb =>
    have f5 : w.frozen? ⟨tb, 5, none⟩ = false := frozen_row H1.out 5
    have c5 : w.cell? ⟨tb, 5, none⟩ = some (.bool bg) := blk_cell H1.out 5 rfl
    go_enter Tryd.func37, Tryd.ntmps37
    go_wp2
    go_end0
    refine ⟨rfl, ⟨cb, ⟨lA, lc, q, true, blk_set H1.out 5 _, H2.out.setCell c5 (by simp) _, H3.out.setCell c5 (by simp) _, ?_⟩, .inl rfl⟩, (Kp.refl [tb] w).setCell (p := ⟨tb, 5, none⟩) (by simp) _, (blk_cell (blk_set H1.out 5 _) 1 rfl).trans (blk_cell H1.out 1 rfl).symm⟩
    obtain ⟨h5, s, r, h6⟩ := H4.out
    exact ⟨h5, s, r, blk_far h6 (by rintro rfl; have := H1.out.symm.trans h6; simp at this) _⟩
  | none =>
    have f5 : w.frozen? ⟨tb, 5, none⟩ = false := frozen_row H1.out 5
    have c5 : w.cell? ⟨tb, 5, none⟩ = some (.bool bg) := blk_cell H1.out 5 rfl
    have f3 : w.frozen? ⟨tb, 3, none⟩ = false := frozen_row H1.out 3
    have hmk := make_chan w
    go_enter Tryd.func37, Tryd.ntmps37
    go_wp2
    go_end0
    have hq : q = 0 := H4.out
    subst hq
    have h1 := blk_set (blk_set H1.out 3 (.chan (some w.heap.size))) 5 (.bool true)
    have c5' : (w.setCell ⟨tb, 3, none⟩ (.chan (some w.heap.size))).cell? ⟨tb, 5, none⟩ = some (.bool bg) := blk_cell (blk_set H1.out 3 _) 5 rfl
    refine ⟨rfl, ⟨w.heap.size, ⟨lA, lc, 0, true, blk_alloc h1 _, ((H2.out.setCell c3 (by simp) _).setCell c5' (by simp) _).alloc _, ((H3.out.setCell c3 (by simp) _).setCell c5' (by simp) _).alloc _, ?_⟩, .inr ⟨trivial, Nat.le_refl _⟩⟩, (((Kp.refl [tb] w).setCell (p := ⟨tb, 3, none⟩) (by simp) _).setCell (p := ⟨tb, 5, none⟩) (by simp) _).alloc _, (blk_cell (blk_alloc h1 _) 1 rfl).trans (blk_cell H1.out 1 rfl).symm⟩
    exact ⟨by omega, 0, 0, new_at (by simp [World.setCell])⟩
theorem begin_any (F R : List Int) (tb : Nat) (ch : Option Nat) (sA : Option Addr) (sc : Nat) (seed left : List Int) (p at_ : Nat) (w : World) (hT : IsT F R w tb ch sA sc seed left p at_) :
    Calls Tryd.prog 37 #[.pointer (some ⟨tb, 0, none⟩)] w fun e w' => e = .returned (.tuple #[]) ∧ (∃ cb, IsT F R w' tb (some cb) sA sc seed left p at_ ∧ (ch = some cb ∨ (ch = none ∧ w.heap.size ≤ cb))) ∧ Kp [tb] w w' := by
  refine (begin_any2 F R tb ch sA sc seed left p at_ w hT).mono ?_
  rintro e w' ⟨h1, h2, h3, _⟩
  exact ⟨h1, h2, h3⟩
end Go.Proofs.YtiboflejmnjdhaaDoor
end
section
set_option linter.unusedVariables false
set_option linter.unusedSimpArgs false
set_option maxRecDepth 100000
namespace Go.Proofs.YtiboflejmnjdhaaDoor
open Go Go.RowKit Go.Conc

/-- How many wait. -/
def qOf (w : World) (cb : Nat) : Nat := match w.heap[cb]? with | some (.chan _ buf _ _ _ _) => buf.size | _ => 0
/-- A tape in the midst of next. -/
structure Mid (F R : List Int) (w0 : World) (rb tb cb : Nat) (sA : Option Addr) (sn sc : Nat) (lA : Option Addr) (ln lc : Nat) (bg : Bool) (seed : List Int) (p at_ q : Nat) (wr : World) : Prop where
  row : wr.heap[tb]? = some (.cells (trow sA sn sc lA ln lc (p + q) (some cb) at_ bg) 79 (0, 0))
  le : q ≤ 4
  chan : ∃ s r, wr.heap[cb]? = some (.chan 4 (waits F R seed p q) false s r false)
  res : ∃ old : Array Value, old.size = 32 ∧ wr.heap[rb]? = some (.cells old 45 (0, 0))
  kp : Kp [tb, cb] w0 wr
theorem Mid.qOf {F R : List Int} {w0 : World} {rb tb cb : Nat} {sA lA : Option Addr} {sn sc ln lc : Nat} {bg : Bool} {seed : List Int} {p at_ q : Nat} {wr : World} (h : Mid F R w0 rb tb cb sA sn sc lA ln lc bg seed p at_ q wr) : qOf wr cb = q := by
  obtain ⟨s, r, hc⟩ := h.chan
  simp [Proofs.YtiboflejmnjdhaaDoor.qOf, hc, waits_size]
theorem Mid.ne {F R : List Int} {w0 : World} {rb tb cb : Nat} {sA lA : Option Addr} {sn sc ln lc : Nat} {bg : Bool} {seed : List Int} {p at_ q : Nat} {wr : World} (h : Mid F R w0 rb tb cb sA sn sc lA ln lc bg seed p at_ q wr) : tb ≠ cb ∧ rb ≠ cb ∧ rb ≠ tb := by
  obtain ⟨s, r, hc⟩ := h.chan
  have h1 := h.row
  obtain ⟨old, _, h2⟩ := h.res
  refine ⟨?_, ?_, ?_⟩
  · rintro rfl; rw [h1] at hc; cases hc
  · rintro rfl; rw [h2] at hc; cases hc
  · exact blk_ne h2 h1 (by decide)
theorem Mid.below {F R : List Int} {w0 : World} {rb tb cb : Nat} {sA lA : Option Addr} {sn sc ln lc : Nat} {bg : Bool} {seed : List Int} {p at_ q : Nat} {wr : World} {wn : World} (h : Mid F R w0 rb tb cb sA sn sc lA ln lc bg seed p at_ q wr) (hk : Below wr.heap.size wr wn) : Mid F R w0 rb tb cb sA sn sc lA ln lc bg seed p at_ q wn := by
  obtain ⟨s, r, hc⟩ := h.chan
  obtain ⟨old, ho, h2⟩ := h.res
  exact ⟨below_at hk h.row (blk_lt h.row), h.le, ⟨s, r, below_at hk hc (blk_lt hc)⟩, ⟨old, ho, below_at hk h2 (blk_lt h2)⟩, h.kp.then (Kp.of_below hk)⟩
theorem Mid.drew {F R : List Int} {w0 : World} {rb tb cb : Nat} {sA lA : Option Addr} {sn sc ln lc : Nat} {bg : Bool} {seed : List Int} {p at_ q : Nat} {wr : World} (h : Mid F R w0 rb tb cb sA sn sc lA ln lc bg seed p at_ q wr) : Mid F R w0 rb tb cb sA sn sc lA ln lc bg seed p at_ q wr.drew := h.below (Below.refl _ _).drew
/-- No byte lies in this block. -/
def NoByte (w : World) (b : Nat) : Prop := ∀ off x, w.cell? ⟨b, off, none⟩ ≠ some (.int .u8 x)
theorem noByte_chan {w : World} {b : Nat} {k0 : Nat} {b0 : Array Value} {l0 : Bool} {s0 r0 : Nat} {m0 : Bool} (hc : w.heap[b]? = some (.chan k0 b0 l0 s0 r0 m0)) : NoByte w b := by
  intro off x h
  simp [World.cell?, hc] at h
theorem noByte_tape {w : World} {b : Nat} {sA lA : Option Addr} {sn sc ln lc made at_ : Nat} {ch : Option Nat} {bg : Bool} {t : TypeId} {fr : Nat × Nat} (h : w.heap[b]? = some (.cells (trow sA sn sc lA ln lc made ch at_ bg) t fr)) : NoByte w b := by
  intro off x hx
  simp only [World.cell?, h, trow] at hx
  rcases off with _ | _ | _ | _ | _ | _ | off <;> simp at hx
theorem Rd.apart {S : List Nat} {w w' : World} {A : Option Addr} {c : Nat} {xs : List Int} (h : Rd w A c xs) (hk : Kp S w w') (hS : ∀ b ∈ S, NoByte w b) : Rd w' A c xs :=
  ⟨h.le, h.big, h.nil, fun hp => by
    obtain ⟨b, off, e, hx⟩ := h.cells hp
    refine ⟨b, off, e, fun j hj => ?_⟩
    have h1 := hx j hj
    exact hk.cell h1 (fun hb => hS b hb _ _ h1)⟩
theorem Kp.setChan {S : List Nat} {a w : World} (h : Kp S a w) {c : Nat} (hc : c < a.heap.size → c ∈ S) (cap : Nat) (buf : Array Value) (cl : Bool) (s r : Nat) (tm : Bool) : Kp S a (w.setChan c cap buf cl s r tm) :=
  h.trans (T := [c]) ⟨rfl, rfl, rfl, by simp [World.setChan], fun k _ hk => by simp only [World.setChan]; rw [Array.getElem?_setIfInBounds_ne (by simp at hk; omega)]⟩ (by simpa using hc)
theorem Mid.recv {F R : List Int} {w0 : World} {rb tb cb : Nat} {sA lA : Option Addr} {sn sc ln lc : Nat} {bg : Bool} {seed : List Int} {p at_ q : Nat} {wr : World} (h : Mid F R w0 rb tb cb sA sn sc lA ln lc bg seed p at_ (q + 1) wr) (s r : Nat) (hc : wr.heap[cb]? = some (.chan 4 (waits F R seed p (q + 1)) false s r false)) :
    Mid F R w0 rb tb cb sA sn sc lA ln lc bg seed (p + 1) at_ q (wr.setChan cb 4 (waits F R seed (p + 1) q) false s (r + 1) false) := by
  obtain ⟨n1, n2, _⟩ := h.ne
  obtain ⟨old, ho, h2⟩ := h.res
  have ho' : ∀ k, k ≠ cb → (wr.setChan cb 4 (waits F R seed (p + 1) q) false s (r + 1) false).heap[k]? = wr.heap[k]? := fun k hk => by simp only [World.setChan]; rw [Array.getElem?_setIfInBounds_ne (fun e => hk e.symm)]
  refine ⟨?_, by have := h.le; omega, ⟨s, r + 1, heap_setChan _ _ _ _ _ _ _ _ (blk_lt hc)⟩, ⟨old, ho, (ho' _ n2).trans h2⟩, h.kp.setChan (by simp) _ _ _ _ _ _⟩
  rw [ho' _ n1, show p + 1 + q = p + (q + 1) by omega]
  exact h.row

theorem zero_block (wr : World) : (zeroValue 45).run Tryd.prog wr = .ok (.agg #[.int .u8 0, .int .u8 0, .int .u8 0, .int .u8 0, .int .u8 0, .int .u8 0, .int .u8 0, .int .u8 0, .int .u8 0, .int .u8 0, .int .u8 0, .int .u8 0, .int .u8 0, .int .u8 0, .int .u8 0, .int .u8 0, .int .u8 0, .int .u8 0, .int .u8 0, .int .u8 0, .int .u8 0, .int .u8 0, .int .u8 0, .int .u8 0, .int .u8 0, .int .u8 0, .int .u8 0, .int .u8 0, .int .u8 0, .int .u8 0, .int .u8 0, .int .u8 0]) wr := by
  have h0 : (Tryd.prog.info? 45).bind (·.zero) = some (.agg #[.int .u8 0, .int .u8 0, .int .u8 0, .int .u8 0, .int .u8 0, .int .u8 0, .int .u8 0, .int .u8 0, .int .u8 0, .int .u8 0, .int .u8 0, .int .u8 0, .int .u8 0, .int .u8 0, .int .u8 0, .int .u8 0, .int .u8 0, .int .u8 0, .int .u8 0, .int .u8 0, .int .u8 0, .int .u8 0, .int .u8 0, .int .u8 0, .int .u8 0, .int .u8 0, .int .u8 0, .int .u8 0, .int .u8 0, .int .u8 0, .int .u8 0, .int .u8 0]) := by kernel_rfl
  obtain ⟨i, hi, hz⟩ := Option.bind_eq_some_iff.1 h0
  simp [zeroValue, typeInfo, hi, hz]
theorem yields_len_chan {o : Oper} {a : Act} {W : World} (x : Operand) (ho : o.op = .call { callee := .builtin .len, args := #[x], argTypes := #[77] }) (c : Nat) (hx : a.eval x = .chan (some c)) {cap s r : Nat} {buf : Array Value} {cl : Bool} (hc : W.heap[c]? = some (.chan cap buf cl s r false)) :
    (execOp a.eval o).run Tryd.prog W = .ok (.value (.int .i64 buf.size)) W := by
  unfold execOp
  simp [ho, hx, resolve, invoke, builtin, Builtin.len_, run_underlying Tryd.underlying77, run_getObj_chan _ _ hc, goInt]
theorem yields_cap_chan {o : Oper} {a : Act} {W : World} (x : Operand) (ho : o.op = .call { callee := .builtin .cap, args := #[x], argTypes := #[77] }) (c : Nat) (hx : a.eval x = .chan (some c)) {cap s r : Nat} {buf : Array Value} {cl : Bool} (hc : W.heap[c]? = some (.chan cap buf cl s r false)) :
    (execOp a.eval o).run Tryd.prog W = .ok (.value (.int .i64 cap)) W := by
  unfold execOp
  simp [ho, hx, resolve, invoke, builtin, Builtin.cap_, run_underlying Tryd.underlying77, run_getObj_chan _ _ hc, goInt]

set_option maxHeartbeats 2000000 in
theorem next_any (F R : List Int) (tb cb : Nat) (sA : Option Addr) (sc : Nat) (seed left : List Int) (p at_ : Nat) (w : World) (hTb : Tabs F R w) (hT : IsT F R w tb (some cb) sA sc seed left p at_) (hl : seed.length ≤ 10000000000000) (hp : p ≤ 9007199254740000) :
    Calls Tryd.prog 38 #[.pointer (some ⟨tb, 0, none⟩)] w fun e w' => e = .returned (.agg (w8 (blkOf F R seed p))) ∧ IsT F R w' tb (some cb) sA sc seed left (p + 1) at_ ∧ Kp [tb, cb] w w' := by
  have HTb := Lib.hid hTb
  have HT := Lib.hid hT
  clear hTb hT
  refine calls_of_wpF Tryd.func38 rfl (fun b hb => ?_)
  simp only [Tryd.ntmps38, List.size_toArray, List.length_cons, List.length_nil, Nat.reduceAdd, Nat.reduceSub, Array.replicate_succ, Array.replicate_zero, List.push_toArray, List.append_toArray, List.nil_append, List.cons_append]
  generalize hQ0 : bodyPost _ _ _ = Q0
  have HQ0 := Lib.hid hQ0
  clear hQ0
  refine WpF.mono NoPanic.imp ?_
  refine WpF.seq_k fun K0 HK0 => WpF.of_wp ?_
  go_wp2
  refine HK0.out _ _ ?_
  obtain ⟨lA, lc, q0, bg, h1, h2, h3, h4⟩ := HT.out
  obtain ⟨h5, s0, r0, h6⟩ := h4
  have hnb : ∀ b ∈ [tb, cb], NoByte w b := fun b hb => by
    rcases List.mem_cons.1 hb with rfl | hb
    · exact noByte_tape h1
    · rw [List.mem_singleton.1 hb]; exact noByte_chan h6
  have Hnb := Lib.hid hnb
  have Hg : Hid (1 ∉ [tb, cb] ∧ 2 ∉ [tb, cb]) := Lib.hid (by
    have e1 := blk_ne HTb.out.f h1 (by decide)
    have e2 := blk_ne HTb.out.r h1 (by decide)
    have e3 : 1 ≠ cb := by rintro rfl; have := HTb.out.f.symm.trans h6; cases this
    have e4 : 2 ≠ cb := by rintro rfl; have := HTb.out.r.symm.trans h6; cases this
    simp only [List.mem_cons, List.not_mem_nil, or_false, not_or]
    exact ⟨⟨e1, e3⟩, e2, e4⟩)
  have Hsd := Lib.hid h2
  have Hlf := Lib.hid h3
  have HM : Hid (Mid F R w w.heap.size tb cb sA seed.length sc lA left.length lc bg seed p at_ q0 (w.alloc (.cells #[.int .u8 0, .int .u8 0, .int .u8 0, .int .u8 0, .int .u8 0, .int .u8 0, .int .u8 0, .int .u8 0, .int .u8 0, .int .u8 0, .int .u8 0, .int .u8 0, .int .u8 0, .int .u8 0, .int .u8 0, .int .u8 0, .int .u8 0, .int .u8 0, .int .u8 0, .int .u8 0, .int .u8 0, .int .u8 0, .int .u8 0, .int .u8 0, .int .u8 0, .int .u8 0, .int .u8 0, .int .u8 0, .int .u8 0, .int .u8 0, .int .u8 0, .int .u8 0] 45))) :=
    Lib.hid ⟨blk_alloc h1 _, h5, ⟨s0, r0, blk_alloc h6 _⟩, ⟨_, by rfl, new_at rfl⟩, (Kp.refl _ _).alloc _⟩
  clear h1 h2 h3 h5 h6 hnb HT
  obtain ⟨rb, hrb⟩ : ∃ rb, rb = w.heap.size := ⟨_, rfl⟩
  rw [← hrb] at HM ⊢
  have Hrb := Lib.hid hrb
  clear hrb
  generalize World.alloc _ _ = wa at *
  refine WpF.block (WpF.loop_k (fun a wr => ∃ (q : Nat) (u3 u4 u5 u6 u7 u8 u9 u10 u11 u12 u13 u14 u15 u16 u17 u18 u19 u20 u21 u22 u23 u24 u25 u26 u27 u28 u29 u30 u31 u32 u33 u34 u35 u36 u37 u38 u39 u40 : Value), a = { tmps := #[Value.pointer (some ⟨tb, 0, none⟩), undef, Value.pointer (some ⟨rb, 0, none⟩), u3, u4, u5, u6, u7, u8, u9, u10, u11, u12, u13, u14, u15, u16, u17, u18, u19, u20, u21, u22, u23, u24, u25, u26, u27, u28, u29, u30, u31, u32, u33, u34, u35, u36, u37, u38, u39, u40], defers := [] } ∧ Hid (Mid F R w rb tb cb sA seed.length sc lA left.length lc bg seed p at_ q wr)) (fun _ wr => if qOf wr cb = 0 then 1 else 0) ?_ ?_)
  · exact ⟨q0, _, _, _, _, _, _, _, _, _, _, _, _, _, _, _, _, _, _, _, _, _, _, _, _, _, _, _, _, _, _, _, _, _, _, _, _, _, _, rfl, HM⟩
  · rintro a wr ⟨q, u3, u4, u5, u6, u7, u8, u9, u10, u11, u12, u13, u14, u15, u16, u17, u18, u19, u20, u21, u22, u23, u24, u25, u26, u27, u28, u29, u30, u31, u32, u33, u34, u35, u36, u37, u38, u39, u40, rfl, HM1⟩ K1 HK1
    refine WpF.block ?_
    have h1 := HM1.out.row
    have c3 : wr.cell? ⟨tb, 3, none⟩ = some (.chan (some cb)) := blk_cell h1 3 rfl
    have H1 := Lib.hid h1
    clear h1
    refine WpF.seq_k fun K2 HK2 => WpF.of_wp ?_
    go_wp2
    refine HK2.out _ _ ?_
    clear HK2
    refine WpF.seq_k fun K3 HK3 => WpF.of_region ?_
    have hz : (zeroValue 45).run Tryd.prog wr = .ok (.agg #[.int .u8 0, .int .u8 0, .int .u8 0, .int .u8 0, .int .u8 0, .int .u8 0, .int .u8 0, .int .u8 0, .int .u8 0, .int .u8 0, .int .u8 0, .int .u8 0, .int .u8 0, .int .u8 0, .int .u8 0, .int .u8 0, .int .u8 0, .int .u8 0, .int .u8 0, .int .u8 0, .int .u8 0, .int .u8 0, .int .u8 0, .int .u8 0, .int .u8 0, .int .u8 0, .int .u8 0, .int .u8 0, .int .u8 0, .int .u8 0, .int .u8 0, .int .u8 0]) wr := zero_block wr
    obtain ⟨s, r, hc⟩ := HM1.out.chan
    by_cases hq : q = 0
    · subst hq
      have hc0 : wr.heap[cb]? = some (.chan 4 #[] false s r false) := hc
      refine MReg.default (i := 0) (rest := [1, 2]) hb rfl _ _ rfl rfl cb rfl _ hz hc0 (MReg.of_list rfl ?_)
      (simp only [pick, List.getElem?_toArray, List.getElem_toArray, List.getElem_cons_zero, List.getElem_cons_succ, List.getElem?_cons_zero, List.getElem?_cons_succ, Act.put, List.setIfInBounds_toArray, List.set_cons_zero, List.set_cons_succ])
      have Hc0 := Lib.hid hc0
      clear hz hc hc0
      go_wp2
      generalize Value.tuple _ = v8
      refine HK3.out _ _ ?_
      clear HK3 HK0 HM Hc0
      refine WpF.block (WpF.cond false rfl ?_)
      refine WpF.block (WpF.loop_k (fun a wr => ∃ (q : Nat) (u11 u12 u13 u14 u15 u16 u17 u18 u19 u20 u21 u22 u23 u24 u25 u26 u27 u28 u29 u30 u31 u32 u33 u34 u35 u36 u37 u38 : Value), a = { tmps := #[Value.pointer (some ⟨tb, 0, none⟩), undef, Value.pointer (some ⟨rb, 0, none⟩), u3, Value.pointer (some ⟨tb, 0, none⟩), Value.pointer (some ⟨tb, 0, none⟩), Value.pointer (some ⟨tb, 3, none⟩), Value.chan (some cb), v8, Value.int IntKind.i64 (-1), Value.bool false, u11, u12, u13, u14, u15, u16, u17, u18, u19, u20, u21, u22, u23, u24, u25, u26, u27, u28, u29, u30, u31, u32, u33, u34, u35, u36, u37, u38, u39, u40], defers := [] } ∧ Hid (Mid F R w rb tb cb sA seed.length sc lA left.length lc bg seed p at_ q wr)) (fun _ wr => 4 - qOf wr cb) ?_ ?_)
      · exact ⟨0, _, _, _, _, _, _, _, _, _, _, _, _, _, _, _, _, _, _, _, _, _, _, _, _, _, _, _, _, rfl, HM1⟩
      · have Hq0 := Lib.hid HM1.out.qOf
        clear HM1
        rintro a wr ⟨q, u11, u12, u13, u14, u15, u16, u17, u18, u19, u20, u21, u22, u23, u24, u25, u26, u27, u28, u29, u30, u31, u32, u33, u34, u35, u36, u37, u38, rfl, HM1⟩ K4 HK4
        have c3 : wr.cell? ⟨tb, 3, none⟩ = some (.chan (some cb)) := blk_cell HM1.out.row 3 rfl
        obtain ⟨s, r, hc⟩ := HM1.out.chan
        have Hc := Lib.hid hc
        clear hc
        refine WpF.seq_k fun K5 HK5 => WpF.seq_k fun K6 HK6 => WpF.of_wp ?_
        refine seg_begin (fun W => W.cell? ⟨tb, 3, none⟩ = some (.chan (some cb)) ∧ Hid (W.heap[cb]? = some (.chan 4 (waits F R seed p q) false s r false))) [3, 4, 8, 9] (by kernel_rfl) ?_
        have HS : Hid (wr.drew.cell? ⟨tb, 3, none⟩ = some (.chan (some cb)) ∧ Hid (wr.drew.heap[cb]? = some (.chan 4 (waits F R seed p q) false s r false))) := Lib.hid ⟨c3, Hc.out⟩
        (refine seg_take 0 ?_ rfl (by kernel_rfl) (by kernel_rfl) (by kernel_rfl) (by kernel_rfl) (by kernel_rfl) rfl (fun _ _ _ h => h) rfl ?_ ?_; rotate_left; (focus (intro w; go_simp; try with_reducible rfl)); (try simp only [List.getElem_toArray, List.getElem_cons_zero, List.getElem_cons_succ, Act.put, List.setIfInBounds_toArray, List.set_cons_zero, List.set_cons_succ]); refine seg_take 1 ?_ rfl (by kernel_rfl) (by kernel_rfl) (by kernel_rfl) (by kernel_rfl) (by kernel_rfl) rfl (fun _ _ _ h => h) rfl ?_ ?_; rotate_left; (focus (intro w; go_simp; try with_reducible rfl)); (try simp only [List.getElem_toArray, List.getElem_cons_zero, List.getElem_cons_succ, Act.put, List.setIfInBounds_toArray, List.set_cons_zero, List.set_cons_succ]); refine seg_take 2 ?_ rfl (by kernel_rfl) (by kernel_rfl) (by kernel_rfl) (by kernel_rfl) (by kernel_rfl) rfl (fun _ _ _ h => h) rfl ?_ ?_; rotate_left; (focus (intro w; go_simp; try with_reducible rfl)); (try simp only [List.getElem_toArray, List.getElem_cons_zero, List.getElem_cons_succ, Act.put, List.setIfInBounds_toArray, List.set_cons_zero, List.set_cons_succ]); refine seg_take 5 ?_ rfl (by kernel_rfl) (by kernel_rfl) (by kernel_rfl) (by kernel_rfl) (by kernel_rfl) rfl (fun _ _ _ h => h) rfl ?_ ?_; rotate_left; (focus (intro w; go_simp; try with_reducible rfl)); (try simp only [List.getElem_toArray, List.getElem_cons_zero, List.getElem_cons_succ, Act.put, List.setIfInBounds_toArray, List.set_cons_zero, List.set_cons_succ]); refine seg_take 6 ?_ rfl (by kernel_rfl) (by kernel_rfl) (by kernel_rfl) (by kernel_rfl) (by kernel_rfl) rfl (fun _ _ _ h => h) rfl ?_ ?_; rotate_left; (focus (intro w; go_simp; try with_reducible rfl)); (try simp only [List.getElem_toArray, List.getElem_cons_zero, List.getElem_cons_succ, Act.put, List.setIfInBounds_toArray, List.set_cons_zero, List.set_cons_succ]); refine seg_take 7 ?_ rfl (by kernel_rfl) (by kernel_rfl) (by kernel_rfl) (by kernel_rfl) (by kernel_rfl) rfl (fun _ _ _ h => h) rfl ?_ ?_; rotate_left; (focus (intro w; go_simp; try with_reducible rfl)); (try simp only [List.getElem_toArray, List.getElem_cons_zero, List.getElem_cons_succ, Act.put, List.setIfInBounds_toArray, List.set_cons_zero, List.set_cons_succ]); refine seg_read 3 ?_ rfl (by kernel_rfl) (by kernel_rfl) (by kernel_rfl) (by kernel_rfl) (by kernel_rfl) (by kernel_rfl) (fun _ _ _ h => h) rfl HS.out ?_ ?_; rotate_left; (focus (intro w hSw; (try dsimp only at hSw); go_split_ands; go_simp; try with_reducible rfl)); (try simp only [List.getElem_toArray, List.getElem_cons_zero, List.getElem_cons_succ, Act.put, List.setIfInBounds_toArray, List.set_cons_zero, List.set_cons_succ]); refine seg_read 8 ?_ rfl (by kernel_rfl) (by kernel_rfl) (by kernel_rfl) (by kernel_rfl) (by kernel_rfl) (by kernel_rfl) (fun _ _ _ h => h) rfl HS.out ?_ ?_; rotate_left; (focus (intro w hSw; (try dsimp only at hSw); go_split_ands; go_simp; try with_reducible rfl)); (try simp only [List.getElem_toArray, List.getElem_cons_zero, List.getElem_cons_succ, Act.put, List.setIfInBounds_toArray, List.set_cons_zero, List.set_cons_succ]))
        (refine seg_read 4 (.int .i64 q) rfl (by kernel_rfl) (by kernel_rfl) (by kernel_rfl) (by kernel_rfl) (by kernel_rfl) (by kernel_rfl) (fun _ _ _ h => h) rfl HS.out (fun W hW => by rw [yields_len_chan _ rfl cb rfl hW.2.out, waits_size]) ?_; (try simp only [List.getElem_toArray, List.getElem_cons_zero, List.getElem_cons_succ, Act.put, List.setIfInBounds_toArray, List.set_cons_zero, List.set_cons_succ]))
        (refine seg_read 9 (.int .i64 4) rfl (by kernel_rfl) (by kernel_rfl) (by kernel_rfl) (by kernel_rfl) (by kernel_rfl) (by kernel_rfl) (fun _ _ _ h => h) rfl HS.out (fun W hW => yields_cap_chan _ rfl cb rfl hW.2.out) ?_; (try simp only [List.getElem_toArray, List.getElem_cons_zero, List.getElem_cons_succ, Act.put, List.setIfInBounds_toArray, List.set_cons_zero, List.set_cons_succ]))
        (refine seg_take 10 ?_ rfl (by kernel_rfl) (by kernel_rfl) (by kernel_rfl) (by kernel_rfl) (by kernel_rfl) rfl (fun _ _ _ h => h) rfl ?_ ?_; rotate_left; (focus (intro w; go_simp; try with_reducible rfl)); (try simp only [List.getElem_toArray, List.getElem_cons_zero, List.getElem_cons_succ, Act.put, List.setIfInBounds_toArray, List.set_cons_zero, List.set_cons_succ]))
        (refine anyB_done (by kernel_rfl) ?_)
        refine HK6.out _ _ ?_
        clear HK6
        have HM2 : Hid (Mid F R w rb tb cb sA seed.length sc lA left.length lc bg seed p at_ q wr.drew) := Lib.hid (HM1.out.drew)
        have hm1 : qOf wr.drew cb = qOf wr cb := rfl
        rw [← hm1] at HK4
        clear c3 HM1 hm1 Hc
        generalize wr.drew = wd at *
        by_cases h4 : q < 4
        · have hd : decide ((q : Int) < 4) = true := by rw [decide_eq_true_eq]; omega
          refine WpF.cond true (congrArg Value.bool hd) ?_
          refine WpF.of_wp (wp_skip ?_)
          refine HK5.out _ _ ?_
          clear HK5
          refine WpF.block (WpF.seq_k fun K7 HK7 => ?_)
          refine WpF.of_anyB (fun W => W.cell? ⟨tb, 3, none⟩ = some (.chan (some cb)) ∧ W.cell? ⟨tb, 2, none⟩ = some (.int .i64 ((p + q : Nat) : Int))) [3, 8, 9] 10 _ (by kernel_rfl) (by simp) (fun _ _ h => h) ?_
          have HM3 : Hid (Mid F R w rb tb cb sA seed.length sc lA left.length lc bg seed p at_ q wd.drew) := Lib.hid (HM2.out.drew)
          have hm1 : qOf wd.drew cb = qOf wd cb := rfl
          rw [← hm1] at HK4
          clear HM2 hm1 HS
          generalize wd.drew = we at *
          have HS : Hid (we.cell? ⟨tb, 3, none⟩ = some (.chan (some cb)) ∧ we.cell? ⟨tb, 2, none⟩ = some (.int .i64 ((p + q : Nat) : Int))) := Lib.hid ⟨blk_cell HM3.out.row 3 rfl, blk_cell HM3.out.row 2 rfl⟩
          have hltb : Hid (tb < we.heap.size) := Lib.hid (blk_lt HM3.out.row)
          (refine seg_take 0 ?_ rfl (by kernel_rfl) (by kernel_rfl) (by kernel_rfl) (by kernel_rfl) (by kernel_rfl) rfl (fun _ _ _ h => h) rfl ?_ ?_; rotate_left; (focus (intro w; go_simp; try with_reducible rfl)); (try simp only [List.getElem_toArray, List.getElem_cons_zero, List.getElem_cons_succ, Act.put, List.setIfInBounds_toArray, List.set_cons_zero, List.set_cons_succ]); refine seg_take 1 ?_ rfl (by kernel_rfl) (by kernel_rfl) (by kernel_rfl) (by kernel_rfl) (by kernel_rfl) rfl (fun _ _ _ h => h) rfl ?_ ?_; rotate_left; (focus (intro w; go_simp; try with_reducible rfl)); (try simp only [List.getElem_toArray, List.getElem_cons_zero, List.getElem_cons_succ, Act.put, List.setIfInBounds_toArray, List.set_cons_zero, List.set_cons_succ]); refine seg_take 2 ?_ rfl (by kernel_rfl) (by kernel_rfl) (by kernel_rfl) (by kernel_rfl) (by kernel_rfl) rfl (fun _ _ _ h => h) rfl ?_ ?_; rotate_left; (focus (intro w; go_simp; try with_reducible rfl)); (try simp only [List.getElem_toArray, List.getElem_cons_zero, List.getElem_cons_succ, Act.put, List.setIfInBounds_toArray, List.set_cons_zero, List.set_cons_succ]); refine seg_take 4 ?_ rfl (by kernel_rfl) (by kernel_rfl) (by kernel_rfl) (by kernel_rfl) (by kernel_rfl) rfl (fun _ _ _ h => h) rfl ?_ ?_; rotate_left; (focus (intro w; go_simp; try with_reducible rfl)); (try simp only [List.getElem_toArray, List.getElem_cons_zero, List.getElem_cons_succ, Act.put, List.setIfInBounds_toArray, List.set_cons_zero, List.set_cons_succ]); refine seg_take 5 ?_ rfl (by kernel_rfl) (by kernel_rfl) (by kernel_rfl) (by kernel_rfl) (by kernel_rfl) rfl (fun _ _ _ h => h) rfl ?_ ?_; rotate_left; (focus (intro w; go_simp; try with_reducible rfl)); (try simp only [List.getElem_toArray, List.getElem_cons_zero, List.getElem_cons_succ, Act.put, List.setIfInBounds_toArray, List.set_cons_zero, List.set_cons_succ]); refine seg_take 6 ?_ rfl (by kernel_rfl) (by kernel_rfl) (by kernel_rfl) (by kernel_rfl) (by kernel_rfl) rfl (fun _ _ _ h => h) rfl ?_ ?_; rotate_left; (focus (intro w; go_simp; try with_reducible rfl)); (try simp only [List.getElem_toArray, List.getElem_cons_zero, List.getElem_cons_succ, Act.put, List.setIfInBounds_toArray, List.set_cons_zero, List.set_cons_succ]); refine seg_take 7 ?_ rfl (by kernel_rfl) (by kernel_rfl) (by kernel_rfl) (by kernel_rfl) (by kernel_rfl) rfl (fun _ _ _ h => h) rfl ?_ ?_; rotate_left; (focus (intro w; go_simp; try with_reducible rfl)); (try simp only [List.getElem_toArray, List.getElem_cons_zero, List.getElem_cons_succ, Act.put, List.setIfInBounds_toArray, List.set_cons_zero, List.set_cons_succ]); refine seg_read 3 ?_ rfl (by kernel_rfl) (by kernel_rfl) (by kernel_rfl) (by kernel_rfl) (by kernel_rfl) (by kernel_rfl) (fun _ _ _ h => h) rfl HS.out ?_ ?_; rotate_left; (focus (intro w hSw; (try dsimp only at hSw); go_split_ands; go_simp; try with_reducible rfl)); (try simp only [List.getElem_toArray, List.getElem_cons_zero, List.getElem_cons_succ, Act.put, List.setIfInBounds_toArray, List.set_cons_zero, List.set_cons_succ]); refine seg_read 8 ?_ rfl (by kernel_rfl) (by kernel_rfl) (by kernel_rfl) (by kernel_rfl) (by kernel_rfl) (by kernel_rfl) (fun _ _ _ h => h) rfl HS.out ?_ ?_; rotate_left; (focus (intro w hSw; (try dsimp only at hSw); go_split_ands; go_simp; try with_reducible rfl)); (try simp only [List.getElem_toArray, List.getElem_cons_zero, List.getElem_cons_succ, Act.put, List.setIfInBounds_toArray, List.set_cons_zero, List.set_cons_succ]))
          (refine anyB_step 9 rfl (by kernel_rfl) ?_; (try simp only [List.getElem_toArray, List.getElem_cons_zero, List.getElem_cons_succ]))
          go_wp2_with (go_at_call 61; go_must (refine (block_any F R tb (p + q) sA sc seed we (HTb.out.kp HM3.out.kp Hg.out.1 Hg.out.2) (blk_cell HM3.out.row 0 rfl) (Hsd.out.apart HM3.out.kp Hnb.out) hl (by have := HM3.out.le; omega)).mono ?_; rintro e wf ⟨rfl, hbf⟩; have Hbf := Lib.hid hbf; clear hbf))
          refine ⟨fun _ => ⟨(Hbf.out.cell (p := ⟨tb, 3, none⟩) hltb.out).trans HS.out.1, (Hbf.out.cell (p := ⟨tb, 2, none⟩) hltb.out).trans HS.out.2⟩, ?_⟩
          (refine anyB_done (by kernel_rfl) ?_)
          have HM4 := Lib.hid (HM3.out.below Hbf.out)
          obtain ⟨s4, r4, hc4⟩ := HM4.out.chan
          have hm1 : qOf we cb = qOf wf cb := by rw [HM3.out.qOf, HM4.out.qOf]
          rw [hm1] at HK4
          refine MReg.send hb rfl _ _ rfl rfl cb rfl (.agg (w8 (blkOf F R seed (p + q)))) rfl hc4 (by rw [waits_size]; exact h4) (MReg.of_list rfl ?_)
          rw [waits_push]
          (simp only [pick, List.getElem?_toArray, List.getElem_toArray, List.getElem_cons_zero, List.getElem_cons_succ, List.getElem?_cons_zero, List.getElem?_cons_succ, Act.put, List.setIfInBounds_toArray, List.set_cons_zero, List.set_cons_succ])
          refine HK7.out _ _ ?_
          clear HK7 HS HM3 hm1 Hbf
          obtain ⟨n1, n2, n3⟩ := HM4.out.ne
          have hrow := (show (wf.setChan cb 4 (waits F R seed p (q + 1)) false (s4 + 1) r4 false).heap[tb]? = _ by simp only [World.setChan]; rw [Array.getElem?_setIfInBounds_ne n1.symm]).trans HM4.out.row
          have c2 := blk_cell (v := .int .i64 ((p + q : Nat) : Int)) hrow 2 rfl
          have f2 := frozen_row hrow 2
          have hck := heap_setChan wf cb 4 (waits F R seed p (q + 1)) false (s4 + 1) r4 false (blk_lt hc4)
          have hkn : Kp [tb, cb] w (wf.setChan cb 4 (waits F R seed p (q + 1)) false (s4 + 1) r4 false) := HM4.out.kp.setChan (by simp) _ _ _ _ _ _
          obtain ⟨old, ho, hr2⟩ := HM4.out.res
          have hres := (show (wf.setChan cb 4 (waits F R seed p (q + 1)) false (s4 + 1) r4 false).heap[rb]? = _ by simp only [World.setChan]; rw [Array.getElem?_setIfInBounds_ne n2.symm]).trans hr2
          have hqf := HM4.out.qOf
          have Hrow := Lib.hid hrow
          have Hck := Lib.hid hck
          have Hkn := Lib.hid hkn
          have Hres := Lib.hid hres
          have Hqf := Lib.hid hqf
          clear hrow hck hkn hr2 hc4 hres hqf HM4
          generalize World.setChan _ _ _ _ _ _ _ _ = wg at *
          refine WpF.of_wp ?_
          go_wp2
          refine HK4.out _ _ ⟨q + 1, _, _, _, _, _, _, _, _, _, _, _, _, _, _, _, _, _, _, _, _, _, _, _, _, _, _, _, _, rfl, Lib.hid ⟨?_, by omega, ⟨_, _, blk_far Hck.out n1.symm _⟩, ⟨old, ho, blk_far Hres.out n3 _⟩, Hkn.out.setCell (p := ⟨tb, 2, none⟩) (by simp) _⟩⟩ ?_
          · have h := blk_set Hrow.out 2 (.int .i64 (p + q + 1))
            have e : ((p + (q + 1) : Nat) : Int) = p + q + 1 := by omega
            unfold trow
            rw [e]
            exact h
          · have hq2 : qOf (wg.setCell ⟨tb, 2, none⟩ (.int .i64 (p + q + 1))) cb = q + 1 := by
              have := blk_far Hck.out (p := ⟨tb, 2, none⟩) n1.symm (.int .i64 (p + q + 1))
              simp [Proofs.YtiboflejmnjdhaaDoor.qOf, this, waits_size]
            rw [hq2, Hqf.out]
            omega
        · have hd : decide ((q : Int) < 4) = false := by rw [decide_eq_false_iff_not]; omega
          refine WpF.cond false (congrArg Value.bool hd) ?_
          refine WpF.of_wp (wp_exit ?_)
          simp only [Exit.then, Exit.inBlock, if_true]
          refine HK1.out _ _ ⟨q, _, _, _, _, _, _, _, _, _, _, _, _, _, _, _, _, _, _, _, _, _, _, _, _, _, _, _, _, _, _, _, _, _, _, _, _, _, _, rfl, HM2⟩ ?_
          rw [Hq0.out, HM2.out.qOf]
          simp
          omega
    · obtain ⟨q1, rfl⟩ : ∃ q1, q = q1 + 1 := ⟨q - 1, by omega⟩
      refine MReg.recv (i := 0) (rest := [1, 2]) hb rfl _ _ rfl rfl cb rfl _ hz hc (by rw [waits_size]; omega) (MReg.of_list rfl ?_)
      rw [waits_head, waits_size, waits_shift]
      (simp only [pick, List.getElem?_toArray, List.getElem_toArray, List.getElem_cons_zero, List.getElem_cons_succ, List.getElem?_cons_zero, List.getElem?_cons_succ, Act.put, List.setIfInBounds_toArray, List.set_cons_zero, List.set_cons_succ])
      have Hc := Lib.hid hc
      clear hz hc
      generalize hw1 : World.setChan _ _ _ _ _ _ _ _ = wn
      have HMn : Hid (Mid F R w rb tb cb sA seed.length sc lA left.length lc bg seed (p + 1) at_ q1 wn) := Lib.hid (hw1 ▸ HM1.out.recv s r Hc.out)
      clear hw1
      go_wp2
      refine HK3.out _ _ ?_
      clear HK3 HK1 HK0 HM1 H1 HM Hc
      refine WpF.block (WpF.cond true rfl ?_)
      refine WpF.of_wp ?_
      obtain ⟨old, hold, hres⟩ := HMn.out.res
      have hsz : Hid ((Tryd.prog.info? 45).map (·.size) = some (w8 (blkOf F R seed p)).size) := Lib.hid (by rw [w8_size, blkOf_len]; kernel_rfl)
      have hold1 : Hid ((#[.int .u8 0, .int .u8 0, .int .u8 0, .int .u8 0, .int .u8 0, .int .u8 0, .int .u8 0, .int .u8 0, .int .u8 0, .int .u8 0, .int .u8 0, .int .u8 0, .int .u8 0, .int .u8 0, .int .u8 0, .int .u8 0, .int .u8 0, .int .u8 0, .int .u8 0, .int .u8 0, .int .u8 0, .int .u8 0, .int .u8 0, .int .u8 0, .int .u8 0, .int .u8 0, .int .u8 0, .int .u8 0, .int .u8 0, .int .u8 0, .int .u8 0, .int .u8 0] : Array Value).size = (w8 (blkOf F R seed p)).size) := Lib.hid (by rw [w8_size, blkOf_len]; rfl)
      have hold2 : Hid (old.size = (w8 (blkOf F R seed p)).size) := Lib.hid (by rw [w8_size, blkOf_len]; exact hold)
      have Hres := Lib.hid (blk_alloc hres (.cells (w8 (blkOf F R seed p)) 45))
      have Hnew := Lib.hid (new_at (W := wn) (o := .cells (w8 (blkOf F R seed p)) 45) rfl)
      clear hold hres
      go_wp2_with (first | (with_reducible refine wpList_store_new rfl 45 _ _ rfl _ rfl rfl _ _ hsz.out hold1.out (w8_one _) ?_) | (with_reducible refine wpList_load_row rfl 45 _ rfl wn.heap.size rfl _ _ (0, 0) _ Hnew.out Tryd.underlying45 rfl hsz.out ?_) | (with_reducible refine wpList_store_row rfl 45 _ _ rfl rb _ rfl rfl _ _ Hres.out hsz.out hold2.out (w8_one _) ?_))
      (simp only [pick, List.getElem?_toArray, List.getElem_toArray, List.getElem_cons_zero, List.getElem_cons_succ, List.getElem?_cons_zero, List.getElem?_cons_succ, Act.put, List.setIfInBounds_toArray, List.set_cons_zero, List.set_cons_succ])
      show Q0 .ret _ _
      rw [← HQ0.out]
      obtain ⟨n1, n2, n3⟩ := HMn.out.ne
      obtain ⟨s1, r1, hc1⟩ := HMn.out.chan
      have kf : Kp [tb, cb] w ((wn.alloc (.cells (w8 (blkOf F R seed p)) 45)).setRow rb (w8 (blkOf F R seed p))) := (HMn.out.kp.alloc _).setRow (fun h => by rw [Hrb.out] at h; exact absurd h (by omega)) _
      refine bodyPost_ret (results_cell_row Tryd.results38 _ _ rb _ _ (0, 0) _ rfl (setRow_heap _ _ _ _ _ _ Hres.out) Tryd.underlying45 rfl hsz.out) rfl ⟨rfl, ⟨lA, lc, q1, bg, ?_, Hsd.out.apart kf Hnb.out, Hlf.out.apart kf Hnb.out, HMn.out.le, s1, r1, ?_⟩, kf⟩
      · exact (setRow_other _ _ _ _ n3.symm).trans (blk_alloc HMn.out.row _)
      · exact (setRow_other _ _ _ _ n2.symm).trans (blk_alloc hc1 _)
end Go.Proofs.YtiboflejmnjdhaaDoor
end
