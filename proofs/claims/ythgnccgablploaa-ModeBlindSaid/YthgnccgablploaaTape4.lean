/- Contracts of package tape: New, At, Copy. -/
import Derived.Test.YthgnccgablploaaTape3
set_option linter.unusedVariables false
set_option linter.unusedSimpArgs false
set_option maxRecDepth 100000
namespace Go.Proofs.Ythgnccgablploaa
open Go Go.RowKit Go.Conc
/-- 'x[:h]'. -/
theorem cut_hi (A : Option Addr) (n c h : Nat) (hh : h ≤ c) (kh : IntKind) (W : World) : (Instr.slice 22 (.slice A n c) none (some (.int kh (h : Int))) none).run Try.prog W = .ok (.slice A h c) W := by
  have hel : Try.prog.elem 22 = 5 := by simp [Program.elem, Try.underlying22]
  have hu : Try.prog.underlying 22 = some (.slice (Try.prog.elem 22)) := by rw [hel]; exact Try.underlying22
  have hs : (Try.prog.info? 5).map (·.size) = some 1 := by kernel_rfl
  obtain ⟨i, hi, hi1⟩ := Option.map_eq_some_iff.1 hs
  have ha : A.map (·.add 0) = A := by cases A <;> simp [Addr.add]
  rw [run_slice_h W 22 A n c hu kh (h : Int) (Int.natCast_nonneg _) (by omega), hel]
  simp [sizeOf, typeInfo, hi, hi1, sliced, Result.andThen, ha]

theorem at_any (F R : List Int) (tb : Nat) (ch : Option Nat) (sA : Option Addr) (sc : Nat) (seed left : List Int) (p at_ : Nat) (w : World) (hT : IsT F R w tb ch sA sc seed left p at_) :
    Calls Try.prog 15 #[.pointer (some ⟨tb, 0, none⟩)] w fun e w' => e = .returned (.int .i64 at_) ∧ w = w' := by
  obtain ⟨lA, lc, q, bg, h1, h2, h3, h4⟩ := hT
  have c4 : w.cell? ⟨tb, 4, none⟩ = some (.int .i64 at_) := blk_cell h1 4 rfl
  clear h1 h2 h3 h4
  go_enter Try.func15, Try.ntmps15
  go_wp2
  go_ret
  exact ⟨rfl, rfl⟩

theorem clone_rd (A : Option Addr) (n c : Nat) (xs : List Int) (w : World) (hn : n = xs.length) (hr : Rd w A c xs) (hl : xs.length ≤ 140737488355328) :
    Calls Try.prog 17 #[.slice A n c] w fun e w' => ∃ A1 c1, e = .returned (.slice A1 n c1) ∧ Rd w' A1 c1 xs ∧ (∀ a, A1 = some a → w.heap.size ≤ a.block) ∧ Below w.heap.size w w' := by
  subst hn
  refine (clone_any A c xs w hr hl).mono ?_
  rintro e w' ⟨v, rfl, h1, h2⟩
  obtain ⟨A1, c1, rfl, h3, h4⟩ := h1.rd
  exact ⟨A1, c1, rfl, h3, fun a e => (h4 a e).1, h2⟩

theorem new_any (F R : List Int) (A : Option Addr) (n c : Nat) (xs : List Int) (w : World) (hn : n = xs.length) (hr : Rd w A c xs) (hl : xs.length ≤ 65536) :
    Calls Try.prog 6 #[.slice A n c] w fun e w' => ∃ tb sA sc, e = .returned (.pointer (some ⟨tb, 0, none⟩)) ∧ w.heap.size ≤ tb ∧ IsT F R w' tb none sA sc xs xs 0 0 ∧ Below w.heap.size w w' := by
  have hcut := cut_hi A n c n (by rw [hn]; exact hr.le) .i64 w
  have hmin : min (n : Int) 65536 = n := by omega
  have hcl := Lib.hid (clone_rd A n c xs w hn hr (by omega))
  have Hn := Lib.hid hn
  clear hn hr
  go_enter Try.func6, Try.ntmps6
  go_wp2_with (first | (go_at_call 17; go_must (refine hcl.out.mono ?_; rintro e w1 ⟨A1, c1, rfl, h1, h3, h2⟩; have H1 := Lib.hid h1; have H2 := Lib.hid h2; clear h1 h2 h3)))
  go_ret
  refine ⟨w1.heap.size, A1, c1, rfl, H2.out.size, ⟨A1, c1, 0, true, ?_, H1.out.alloc _, H1.out.alloc _, rfl⟩, H2.out.alloc H2.out.size _⟩
  rw [← Hn.out]
  exact new_at rfl
theorem begin_none (tb : Nat) (sA : Option Addr) (sn sc : Nat) (lA : Option Addr) (ln lc made at_ : Nat) (bg : Bool) (w : World) (h : w.heap[tb]? = some (.cells (trow sA sn sc lA ln lc made none at_ bg) 64 (0, 0))) :
    Calls Try.prog 25 #[.pointer (some ⟨tb, 0, none⟩)] w fun e w' => e = .returned (.tuple #[]) ∧ w'.heap[tb]? = some (.cells (trow sA sn sc lA ln lc made (some w.heap.size) at_ true) 64 (0, 0)) ∧ w'.heap[w.heap.size]? = some (.chan 4 #[] false 0 0 false) ∧ Kp [tb] w w' := by
  have c3 : w.cell? ⟨tb, 3, none⟩ = some (.chan none) := blk_cell h 3 rfl
  have f5 : w.frozen? ⟨tb, 5, none⟩ = false := frozen_row h 5
  have c5 : w.cell? ⟨tb, 5, none⟩ = some (.bool bg) := blk_cell h 5 rfl
  have f3 : w.frozen? ⟨tb, 3, none⟩ = false := frozen_row h 3
  have hlt := blk_lt h
  have H1 := Lib.hid h
  have heq := fun W => eql_chan none none W
  have hmk := make_chan w
  clear h
  go_enter Try.func25, Try.ntmps25
  go_wp2
  go_end0
  exact ⟨rfl, blk_alloc (blk_set (blk_set H1.out 3 (.chan (some w.heap.size))) 5 (.bool true)) _, new_at (by simp [World.setCell]), (((Kp.refl [tb] w).setCell (p := ⟨tb, 3, none⟩) (by simp) _).setCell (p := ⟨tb, 5, none⟩) (by simp) _).alloc _⟩
/-- Copy of a tape: another one that goes on as this does. -/
theorem tcopy_any (F R : List Int) (tb : Nat) (ch : Option Nat) (sA : Option Addr) (sc : Nat) (seed left : List Int) (p at_ : Nat) (w : World) (hT : IsT F R w tb ch sA sc seed left p at_) (hl : left.length ≤ 140737488355328) (hp : p ≤ 9007199254740000) :
    Calls Try.prog 16 #[.pointer (some ⟨tb, 0, none⟩)] w fun e w' => ∃ tn cn cb, e = .returned (.pointer (some ⟨tn, 0, none⟩)) ∧ w.heap.size ≤ tn ∧ w.heap.size ≤ cn ∧ IsT F R w' tn (some cn) sA sc seed left p at_ ∧ IsT F R w' tb (some cb) sA sc seed left p at_ ∧ (ch = some cb ∨ (ch = none ∧ w.heap.size ≤ cb ∧ cb ≠ cn)) ∧ Kp [tb] w w' := by
  have HT := Lib.hid hT
  clear hT
  go_enter Try.func16, Try.ntmps16
  go_wp2_with (first | (go_at_call 25; go_must (refine (begin_any F R tb ch sA sc seed left p at_ w HT.out).mono ?_; rintro e w1 ⟨rfl, ⟨cb, h1, h2⟩, h3⟩; have H1 := Lib.hid h1; have H2 := Lib.hid h2; have H3 := Lib.hid h3; clear h1 h2 h3)))
  obtain ⟨lA, lc, q, bg, h1, h2, h3, h4⟩ := H1.out
  have Hrow : Hid (w1.drew.heap[tb]? = some (.cells (trow sA seed.length sc lA left.length lc (p + q) (some cb) at_ bg) 64 (0, 0))) := Lib.hid h1
  have Hlf : Hid (Rd w1.drew lA lc left) := Lib.hid (h3.drewN 1)
  have Hsd : Hid (Rd w1.drew sA sc seed) := Lib.hid (h2.drewN 1)
  have Hwt : Hid (Waits F R w1.drew (some cb) seed p q) := Lib.hid h4
  have Hk : Hid (Kp [tb] w w1.drew) := Lib.hid (H3.out.drewN 1)
  clear h1 h2 h3 h4 H1 H3 HT
  refine seg_begin (fun W => W.cell? ⟨tb, 0, none⟩ = some (.slice sA seed.length sc) ∧ W.cell? ⟨tb, 1, none⟩ = some (.slice lA left.length lc) ∧ W.cell? ⟨tb, 4, none⟩ = some (.int .i64 at_)) [3, 7, 8, 12] (by kernel_rfl) ?_
  generalize w1.drew = w2 at *
  have hltb := blk_lt Hrow.out
  have HS : Hid (w2.cell? ⟨tb, 0, none⟩ = some (.slice sA seed.length sc) ∧ w2.cell? ⟨tb, 1, none⟩ = some (.slice lA left.length lc) ∧ w2.cell? ⟨tb, 4, none⟩ = some (.int .i64 at_)) := Lib.hid ⟨blk_cell Hrow.out 0 rfl, blk_cell Hrow.out 1 rfl, blk_cell Hrow.out 4 rfl⟩
  (refine seg_take 0 ?_ rfl (by kernel_rfl) (by kernel_rfl) (by kernel_rfl) (by kernel_rfl) (by kernel_rfl) rfl (fun _ _ _ h => h) rfl ?_ ?_; rotate_left; (focus (intro w; go_simp; try with_reducible rfl)); (try simp only [List.getElem_toArray, List.getElem_cons_zero, List.getElem_cons_succ, Act.put, List.setIfInBounds_toArray, List.set_cons_zero, List.set_cons_succ]); refine seg_take 1 ?_ rfl (by kernel_rfl) (by kernel_rfl) (by kernel_rfl) (by kernel_rfl) (by kernel_rfl) rfl (fun _ _ _ h => h) rfl ?_ ?_; rotate_left; (focus (intro w; go_simp; try with_reducible rfl)); (try simp only [List.getElem_toArray, List.getElem_cons_zero, List.getElem_cons_succ, Act.put, List.setIfInBounds_toArray, List.set_cons_zero, List.set_cons_succ]); refine seg_take 2 ?_ rfl (by kernel_rfl) (by kernel_rfl) (by kernel_rfl) (by kernel_rfl) (by kernel_rfl) rfl (fun _ _ _ h => h) rfl ?_ ?_; rotate_left; (focus (intro w; go_simp; try with_reducible rfl)); (try simp only [List.getElem_toArray, List.getElem_cons_zero, List.getElem_cons_succ, Act.put, List.setIfInBounds_toArray, List.set_cons_zero, List.set_cons_succ]); refine seg_take 4 ?_ rfl (by kernel_rfl) (by kernel_rfl) (by kernel_rfl) (by kernel_rfl) (by kernel_rfl) rfl (fun _ _ _ h => h) rfl ?_ ?_; rotate_left; (focus (intro w; go_simp; try with_reducible rfl)); (try simp only [List.getElem_toArray, List.getElem_cons_zero, List.getElem_cons_succ, Act.put, List.setIfInBounds_toArray, List.set_cons_zero, List.set_cons_succ]); refine seg_take 5 ?_ rfl (by kernel_rfl) (by kernel_rfl) (by kernel_rfl) (by kernel_rfl) (by kernel_rfl) rfl (fun _ _ _ h => h) rfl ?_ ?_; rotate_left; (focus (intro w; go_simp; try with_reducible rfl)); (try simp only [List.getElem_toArray, List.getElem_cons_zero, List.getElem_cons_succ, Act.put, List.setIfInBounds_toArray, List.set_cons_zero, List.set_cons_succ]); refine seg_take 6 ?_ rfl (by kernel_rfl) (by kernel_rfl) (by kernel_rfl) (by kernel_rfl) (by kernel_rfl) rfl (fun _ _ _ h => h) rfl ?_ ?_; rotate_left; (focus (intro w; go_simp; try with_reducible rfl)); (try simp only [List.getElem_toArray, List.getElem_cons_zero, List.getElem_cons_succ, Act.put, List.setIfInBounds_toArray, List.set_cons_zero, List.set_cons_succ]); refine seg_take 9 ?_ rfl (by kernel_rfl) (by kernel_rfl) (by kernel_rfl) (by kernel_rfl) (by kernel_rfl) rfl (fun _ _ _ h => h) rfl ?_ ?_; rotate_left; (focus (intro w; go_simp; try with_reducible rfl)); (try simp only [List.getElem_toArray, List.getElem_cons_zero, List.getElem_cons_succ, Act.put, List.setIfInBounds_toArray, List.set_cons_zero, List.set_cons_succ]); refine seg_take 10 ?_ rfl (by kernel_rfl) (by kernel_rfl) (by kernel_rfl) (by kernel_rfl) (by kernel_rfl) rfl (fun _ _ _ h => h) rfl ?_ ?_; rotate_left; (focus (intro w; go_simp; try with_reducible rfl)); (try simp only [List.getElem_toArray, List.getElem_cons_zero, List.getElem_cons_succ, Act.put, List.setIfInBounds_toArray, List.set_cons_zero, List.set_cons_succ]); refine seg_take 11 ?_ rfl (by kernel_rfl) (by kernel_rfl) (by kernel_rfl) (by kernel_rfl) (by kernel_rfl) rfl (fun _ _ _ h => h) rfl ?_ ?_; rotate_left; (focus (intro w; go_simp; try with_reducible rfl)); (try simp only [List.getElem_toArray, List.getElem_cons_zero, List.getElem_cons_succ, Act.put, List.setIfInBounds_toArray, List.set_cons_zero, List.set_cons_succ]); refine seg_read 3 ?_ rfl (by kernel_rfl) (by kernel_rfl) (by kernel_rfl) (by kernel_rfl) (by kernel_rfl) (by kernel_rfl) (fun _ _ _ h => h) rfl HS.out ?_ ?_; rotate_left; (focus (intro w hSw; (try dsimp only at hSw); go_split_ands; go_simp; try with_reducible rfl)); (try simp only [List.getElem_toArray, List.getElem_cons_zero, List.getElem_cons_succ, Act.put, List.setIfInBounds_toArray, List.set_cons_zero, List.set_cons_succ]); refine seg_read 7 ?_ rfl (by kernel_rfl) (by kernel_rfl) (by kernel_rfl) (by kernel_rfl) (by kernel_rfl) (by kernel_rfl) (fun _ _ _ h => h) rfl HS.out ?_ ?_; rotate_left; (focus (intro w hSw; (try dsimp only at hSw); go_split_ands; go_simp; try with_reducible rfl)); (try simp only [List.getElem_toArray, List.getElem_cons_zero, List.getElem_cons_succ, Act.put, List.setIfInBounds_toArray, List.set_cons_zero, List.set_cons_succ]); refine seg_read 12 ?_ rfl (by kernel_rfl) (by kernel_rfl) (by kernel_rfl) (by kernel_rfl) (by kernel_rfl) (by kernel_rfl) (fun _ _ _ h => h) rfl HS.out ?_ ?_; rotate_left; (focus (intro w hSw; (try dsimp only at hSw); go_split_ands; go_simp; try with_reducible rfl)); (try simp only [List.getElem_toArray, List.getElem_cons_zero, List.getElem_cons_succ, Act.put, List.setIfInBounds_toArray, List.set_cons_zero, List.set_cons_succ]))
  (refine anyB_step 8 rfl (by kernel_rfl) ?_; (try simp only [List.getElem_toArray, List.getElem_cons_zero, List.getElem_cons_succ]))
  go_wp2_with (first | (go_at_call 17; go_must (refine (clone_rd lA left.length lc left w2 rfl Hlf.out hl).mono ?_; rintro e w3 ⟨A1, c1, rfl, h1, h3, h2⟩; have H1 := Lib.hid h1; have HB := Lib.hid h2; clear h1 h2 h3)))
  refine ⟨fun _ => ⟨(HB.out.cell (p := ⟨tb, 0, none⟩) hltb).trans HS.out.1, (HB.out.cell (p := ⟨tb, 1, none⟩) hltb).trans HS.out.2.1, (HB.out.cell (p := ⟨tb, 4, none⟩) hltb).trans HS.out.2.2⟩, ?_⟩
  (refine seg_take 13 ?_ rfl (by kernel_rfl) (by kernel_rfl) (by kernel_rfl) (by kernel_rfl) (by kernel_rfl) rfl (fun _ _ _ h => h) rfl ?_ ?_; rotate_left; (focus (intro w; go_simp; try with_reducible rfl)); (try simp only [List.getElem_toArray, List.getElem_cons_zero, List.getElem_cons_succ, Act.put, List.setIfInBounds_toArray, List.set_cons_zero, List.set_cons_succ]))
  (refine anyB_step 14 rfl (by kernel_rfl) ?_; (try simp only [List.getElem_toArray, List.getElem_cons_zero, List.getElem_cons_succ]))
  go_wp2
  refine ⟨nofun, ?_⟩
  (refine seg_take 15 ?_ rfl (by kernel_rfl) (by kernel_rfl) (by kernel_rfl) (by kernel_rfl) (by kernel_rfl) rfl (fun _ _ _ h => h) rfl ?_ ?_; rotate_left; (focus (intro w; go_simp; try with_reducible rfl)); (try simp only [List.getElem_toArray, List.getElem_cons_zero, List.getElem_cons_succ, Act.put, List.setIfInBounds_toArray, List.set_cons_zero, List.set_cons_succ]))
  (refine anyB_done (by kernel_rfl) ?_)
  have Hn : Hid ((w3.alloc (.cells (trow sA seed.length sc A1 left.length c1 0 none at_ false) 64)).heap[w3.heap.size]? = some (.cells (trow sA seed.length sc A1 left.length c1 0 none at_ false) 64 (0, 0))) := Lib.hid (new_at rfl)
  have HBa : Hid (Below w2.heap.size w2 (w3.alloc (.cells (trow sA seed.length sc A1 left.length c1 0 none at_ false) 64))) := Lib.hid (HB.out.alloc HB.out.size _)
  have H1a := Lib.hid (H1.out.alloc (.cells (trow sA seed.length sc A1 left.length c1 0 none at_ false) 64))
  have hsz : w3.heap.size + 1 = (w3.alloc (.cells (trow sA seed.length sc A1 left.length c1 0 none at_ false) 64)).heap.size := by simp
  change Exit.then _ _ _ _ (w3.alloc (.cells (trow sA seed.length sc A1 left.length c1 0 none at_ false) 64))
  generalize World.alloc w3 _ = w4 at *
  have Hsz := Lib.hid hsz
  clear hsz
  go_wp2_with (first | (go_at_call 25; go_must (refine (begin_none w3.heap.size sA seed.length sc A1 left.length c1 0 at_ false w4 Hn.out).mono ?_; rintro e w5 ⟨rfl, h1, h2, h3⟩; have N1 := Lib.hid h1; have N2 := Lib.hid h2; have N3 := Lib.hid h3; clear h1 h2 h3)))
  have hle : w2.heap.size ≤ w3.heap.size := HB.out.size
  have hle4 : w2.heap.size ≤ w4.heap.size := HBa.out.size
  obtain ⟨hq4, s4, r4, hc4⟩ := Hwt.out
  have hcl : cb < w2.heap.size := blk_lt hc4
  have R5 : Hid (w5.drew.heap[tb]? = some (.cells (trow sA seed.length sc lA left.length lc (p + q) (some cb) at_ bg) 64 (0, 0))) := Lib.hid ((N3.out.block tb (by omega) (by simp; omega)).trans (below_at HBa.out Hrow.out hltb))
  have C5 : Hid (w5.drew.heap[cb]? = some (.chan 4 (waits F R seed p q) false s4 r4 false)) := Lib.hid ((N3.out.block cb (by omega) (by simp; omega)).trans (below_at HBa.out hc4 hcl))
  have T5 : Hid (w5.drew.heap[w3.heap.size]? = some (.cells (trow sA seed.length sc A1 left.length c1 0 (some w4.heap.size) at_ true) 64 (0, 0))) := Lib.hid N1.out
  have D5 : Hid (w5.drew.heap[w4.heap.size]? = some (.chan 4 #[] false 0 0 false)) := Lib.hid N2.out
  have K5 : Hid (Kp [w3.heap.size] w4 w5.drew) := Lib.hid (N3.out.drewN 1)
  clear N1 N2 N3 hc4
  refine seg_begin (fun W => W.cell? ⟨tb, 2, none⟩ = some (.int .i64 ((p + q : Nat) : Int)) ∧ W.cell? ⟨tb, 3, none⟩ = some (.chan (some cb)) ∧ Hid (W.heap[cb]? = some (.chan 4 (waits F R seed p q) false s4 r4 false))) [4, 8, 9] (by kernel_rfl) ?_
  generalize w5.drew = w6 at *
  have HS6 : Hid (w6.cell? ⟨tb, 2, none⟩ = some (.int .i64 ((p + q : Nat) : Int)) ∧ w6.cell? ⟨tb, 3, none⟩ = some (.chan (some cb)) ∧ Hid (w6.heap[cb]? = some (.chan 4 (waits F R seed p q) false s4 r4 false))) := Lib.hid ⟨blk_cell R5.out 2 rfl, blk_cell R5.out 3 rfl, C5.out⟩
  (refine seg_take 0 ?_ rfl (by kernel_rfl) (by kernel_rfl) (by kernel_rfl) (by kernel_rfl) (by kernel_rfl) rfl (fun _ _ _ h => h) rfl ?_ ?_; rotate_left; (focus (intro w; go_simp; try with_reducible rfl)); (try simp only [List.getElem_toArray, List.getElem_cons_zero, List.getElem_cons_succ, Act.put, List.setIfInBounds_toArray, List.set_cons_zero, List.set_cons_succ]); refine seg_take 1 ?_ rfl (by kernel_rfl) (by kernel_rfl) (by kernel_rfl) (by kernel_rfl) (by kernel_rfl) rfl (fun _ _ _ h => h) rfl ?_ ?_; rotate_left; (focus (intro w; go_simp; try with_reducible rfl)); (try simp only [List.getElem_toArray, List.getElem_cons_zero, List.getElem_cons_succ, Act.put, List.setIfInBounds_toArray, List.set_cons_zero, List.set_cons_succ]); refine seg_take 2 ?_ rfl (by kernel_rfl) (by kernel_rfl) (by kernel_rfl) (by kernel_rfl) (by kernel_rfl) rfl (fun _ _ _ h => h) rfl ?_ ?_; rotate_left; (focus (intro w; go_simp; try with_reducible rfl)); (try simp only [List.getElem_toArray, List.getElem_cons_zero, List.getElem_cons_succ, Act.put, List.setIfInBounds_toArray, List.set_cons_zero, List.set_cons_succ]); refine seg_take 3 ?_ rfl (by kernel_rfl) (by kernel_rfl) (by kernel_rfl) (by kernel_rfl) (by kernel_rfl) rfl (fun _ _ _ h => h) rfl ?_ ?_; rotate_left; (focus (intro w; go_simp; try with_reducible rfl)); (try simp only [List.getElem_toArray, List.getElem_cons_zero, List.getElem_cons_succ, Act.put, List.setIfInBounds_toArray, List.set_cons_zero, List.set_cons_succ]); refine seg_take 5 ?_ rfl (by kernel_rfl) (by kernel_rfl) (by kernel_rfl) (by kernel_rfl) (by kernel_rfl) rfl (fun _ _ _ h => h) rfl ?_ ?_; rotate_left; (focus (intro w; go_simp; try with_reducible rfl)); (try simp only [List.getElem_toArray, List.getElem_cons_zero, List.getElem_cons_succ, Act.put, List.setIfInBounds_toArray, List.set_cons_zero, List.set_cons_succ]); refine seg_take 6 ?_ rfl (by kernel_rfl) (by kernel_rfl) (by kernel_rfl) (by kernel_rfl) (by kernel_rfl) rfl (fun _ _ _ h => h) rfl ?_ ?_; rotate_left; (focus (intro w; go_simp; try with_reducible rfl)); (try simp only [List.getElem_toArray, List.getElem_cons_zero, List.getElem_cons_succ, Act.put, List.setIfInBounds_toArray, List.set_cons_zero, List.set_cons_succ]); refine seg_take 7 ?_ rfl (by kernel_rfl) (by kernel_rfl) (by kernel_rfl) (by kernel_rfl) (by kernel_rfl) rfl (fun _ _ _ h => h) rfl ?_ ?_; rotate_left; (focus (intro w; go_simp; try with_reducible rfl)); (try simp only [List.getElem_toArray, List.getElem_cons_zero, List.getElem_cons_succ, Act.put, List.setIfInBounds_toArray, List.set_cons_zero, List.set_cons_succ]); refine seg_read 4 ?_ rfl (by kernel_rfl) (by kernel_rfl) (by kernel_rfl) (by kernel_rfl) (by kernel_rfl) (by kernel_rfl) (fun _ _ _ h => h) rfl HS6.out ?_ ?_; rotate_left; (focus (intro w hSw; (try dsimp only at hSw); go_split_ands; go_simp; try with_reducible rfl)); (try simp only [List.getElem_toArray, List.getElem_cons_zero, List.getElem_cons_succ, Act.put, List.setIfInBounds_toArray, List.set_cons_zero, List.set_cons_succ]); refine seg_read 8 ?_ rfl (by kernel_rfl) (by kernel_rfl) (by kernel_rfl) (by kernel_rfl) (by kernel_rfl) (by kernel_rfl) (fun _ _ _ h => h) rfl HS6.out ?_ ?_; rotate_left; (focus (intro w hSw; (try dsimp only at hSw); go_split_ands; go_simp; try with_reducible rfl)); (try simp only [List.getElem_toArray, List.getElem_cons_zero, List.getElem_cons_succ, Act.put, List.setIfInBounds_toArray, List.set_cons_zero, List.set_cons_succ]))
  (refine seg_read 9 (.int .i64 q) rfl (by kernel_rfl) (by kernel_rfl) (by kernel_rfl) (by kernel_rfl) (by kernel_rfl) (by kernel_rfl) (fun _ _ _ h => h) rfl HS6.out (fun W hW => by rw [yields_len_chan _ rfl cb rfl hW.2.2.out, waits_size]) ?_; (try simp only [List.getElem_toArray, List.getElem_cons_zero, List.getElem_cons_succ, Act.put, List.setIfInBounds_toArray, List.set_cons_zero, List.set_cons_succ]))
  (refine seg_take 10 ?_ rfl (by kernel_rfl) (by kernel_rfl) (by kernel_rfl) (by kernel_rfl) (by kernel_rfl) rfl (fun _ _ _ h => h) rfl ?_ ?_; rotate_left; (focus (intro w; go_simp; try with_reducible rfl)); (try simp only [List.getElem_toArray, List.getElem_cons_zero, List.getElem_cons_succ, Act.put, List.setIfInBounds_toArray, List.set_cons_zero, List.set_cons_succ]); refine seg_take 11 ?_ rfl (by kernel_rfl) (by kernel_rfl) (by kernel_rfl) (by kernel_rfl) (by kernel_rfl) rfl (fun _ _ _ h => h) rfl ?_ ?_; rotate_left; (focus (intro w; go_simp; try with_reducible rfl)); (try simp only [List.getElem_toArray, List.getElem_cons_zero, List.getElem_cons_succ, Act.put, List.setIfInBounds_toArray, List.set_cons_zero, List.set_cons_succ]); refine seg_take 12 ?_ rfl (by kernel_rfl) (by kernel_rfl) (by kernel_rfl) (by kernel_rfl) (by kernel_rfl) rfl (fun _ _ _ h => h) rfl ?_ ?_; rotate_left; (focus (intro w; go_simp; try with_reducible rfl)); (try simp only [List.getElem_toArray, List.getElem_cons_zero, List.getElem_cons_succ, Act.put, List.setIfInBounds_toArray, List.set_cons_zero, List.set_cons_succ]))
  (refine seg_rest [13] _ _ _ (by kernel_rfl) ?_ _ rfl)
  (refine segs_out rfl ?_; (simp only [pick, List.getElem?_toArray, List.getElem_toArray, List.getElem_cons_zero, List.getElem_cons_succ, List.getElem?_cons_zero, List.getElem?_cons_succ, Act.put, List.setIfInBounds_toArray, List.set_cons_zero, List.set_cons_succ]))
  have t2 := blk_cell (v := .int .i64 0) T5.out 2 rfl
  have tf2 := frozen_row T5.out 2
  go_wp2
  go_ret
  have hBf : Below w2.heap.size w2 (w6.setCell ⟨w3.heap.size, 2, none⟩ (.int .i64 (p : Int))) :=
    (((Kp.of_below HBa.out).trans K5.out (T := [w3.heap.size]) (S := []) (by simp; omega)).nil).setCell (p := ⟨w3.heap.size, 2, none⟩) hle _
  have hkn : Kp [w3.heap.size] w4 (w6.setCell ⟨w3.heap.size, 2, none⟩ (.int .i64 (p : Int))) := K5.out.setCell (p := ⟨w3.heap.size, 2, none⟩) (by simp) _
  have hwle := Hk.out.size
  refine ⟨w3.heap.size, w4.heap.size, cb, rfl, by omega, by omega, ⟨A1, c1, 0, true, blk_set T5.out 2 _, Hsd.out.below hBf, H1a.out.apart hkn (by intro b hb; rw [List.mem_singleton.1 hb]; exact noByte_tape Hn.out), by omega, 0, 0, blk_far D5.out (by have := Hsz.out; simp; omega) _⟩, ⟨lA, lc, q, bg, blk_far R5.out (by simp; omega) _, Hsd.out.below hBf, Hlf.out.below hBf, hq4, s4, r4, blk_far C5.out (by simp; omega) _⟩, ?_, Hk.out.then (Kp.of_below hBf)⟩
  rcases H2.out with h | ⟨h, h'⟩
  · exact .inl h
  · exact .inr ⟨h, h', by omega⟩
end Go.Proofs.Ythgnccgablploaa
