/- Contracts of package tape: New, At, Copy. -/
import Derived.Test.YtiboflejmnjdhaaDoorJF
import Derived.Deep.Cut
import Derived.Deep.CutRange
section
set_option linter.unusedVariables false
set_option linter.unusedSimpArgs false
set_option maxRecDepth 100000
namespace Go.Proofs.YtiboflejmnjdhaaDoor
open Go Go.RowKit Go.Conc
/-- 'x[:h]'. -/
theorem cut_hi (A : Option Addr) (n c h : Nat) (hh : h ≤ c) (kh : IntKind) (W : World) : (Instr.slice 22 (.slice A n c) none (some (.int kh (h : Int))) none).run Tryd.prog W = .ok (.slice A h c) W := by
  have hel : Tryd.prog.elem 22 = 5 := by simp [Program.elem, Tryd.underlying22]
  have hu : Tryd.prog.underlying 22 = some (.slice (Tryd.prog.elem 22)) := by rw [hel]; exact Tryd.underlying22
  have hs : (Tryd.prog.info? 5).map (·.size) = some 1 := by kernel_rfl
  obtain ⟨i, hi, hi1⟩ := Option.map_eq_some_iff.1 hs
  have ha : A.map (·.add 0) = A := by cases A <;> simp [Addr.add]
  rw [run_slice_h W 22 A n c hu kh (h : Int) (Int.natCast_nonneg _) (by omega), hel]
  simp [sizeOf, typeInfo, hi, hi1, sliced, Result.andThen, ha]

theorem at_any (F R : List Int) (tb : Nat) (ch : Option Nat) (sA : Option Addr) (sc : Nat) (seed left : List Int) (p at_ : Nat) (w : World) (hT : IsT F R w tb ch sA sc seed left p at_) :
    Calls Tryd.prog 22 #[.pointer (some ⟨tb, 0, none⟩)] w fun e w' => e = .returned (.int .i64 at_) ∧ w = w' := by
  obtain ⟨lA, lc, q, bg, h1, h2, h3, h4⟩ := hT
  have c4 : w.cell? ⟨tb, 4, none⟩ = some (.int .i64 at_) := blk_cell h1 4 rfl
  clear h1 h2 h3 h4
  go_enter Tryd.func22, Tryd.ntmps22
  go_wp2
  go_ret
  exact ⟨rfl, rfl⟩

theorem clone_rd (A : Option Addr) (n c : Nat) (xs : List Int) (w : World) (hn : n = xs.length) (hr : Rd w A c xs) (hl : xs.length ≤ 140737488355328) :
    Calls Tryd.prog 33 #[.slice A n c] w fun e w' => ∃ A1 c1, e = .returned (.slice A1 n c1) ∧ Rd w' A1 c1 xs ∧ (∀ a, A1 = some a → w.heap.size ≤ a.block) ∧ Below w.heap.size w w' := by
  subst hn
  refine (clone_any A c xs w hr hl).mono ?_
  rintro e w' ⟨v, rfl, h1, h2⟩
  obtain ⟨A1, c1, rfl, h3, h4⟩ := h1.rd
  exact ⟨A1, c1, rfl, h3, fun a e => (h4 a e).1, h2⟩

theorem new_any (F R : List Int) (A : Option Addr) (n c : Nat) (xs : List Int) (w : World) (hn : n = xs.length) (hr : Rd w A c xs) (hl : xs.length ≤ 65536) :
    Calls Tryd.prog 9 #[.slice A n c] w fun e w' => ∃ tb sA sc, e = .returned (.pointer (some ⟨tb, 0, none⟩)) ∧ w.heap.size ≤ tb ∧ IsT F R w' tb none sA sc xs xs 0 0 ∧ Below w.heap.size w w' := by
  have hcut := cut_hi A n c n (by rw [hn]; exact hr.le) .i64 w
  have hmin : min (n : Int) 65536 = n := by omega
  have hcl := Lib.hid (clone_rd A n c xs w hn hr (by omega))
  have Hn := Lib.hid hn
  clear hn hr
  go_enter Tryd.func9, Tryd.ntmps9
  go_wp2_with (first | (go_at_call 33; go_must (refine hcl.out.mono ?_; rintro e w1 ⟨A1, c1, rfl, h1, h3, h2⟩; have H1 := Lib.hid h1; have H2 := Lib.hid h2; clear h1 h2 h3)))
  go_ret
  refine ⟨w1.heap.size, A1, c1, rfl, H2.out.size, ⟨A1, c1, 0, true, ?_, H1.out.alloc _, H1.out.alloc _, rfl⟩, H2.out.alloc H2.out.size _⟩
  rw [← Hn.out]
  exact new_at rfl
theorem begin_none (tb : Nat) (sA : Option Addr) (sn sc : Nat) (lA : Option Addr) (ln lc made at_ : Nat) (bg : Bool) (w : World) (h : w.heap[tb]? = some (.cells (trow sA sn sc lA ln lc made none at_ bg) 79 (0, 0))) :
    Calls Tryd.prog 37 #[.pointer (some ⟨tb, 0, none⟩)] w fun e w' => e = .returned (.tuple #[]) ∧ w'.heap[tb]? = some (.cells (trow sA sn sc lA ln lc made (some w.heap.size) at_ true) 79 (0, 0)) ∧ w'.heap[w.heap.size]? = some (.chan 4 #[] false 0 0 false) ∧ Kp [tb] w w' := by
  have c3 : w.cell? ⟨tb, 3, none⟩ = some (.chan none) := blk_cell h 3 rfl
  have f5 : w.frozen? ⟨tb, 5, none⟩ = false := frozen_row h 5
  have c5 : w.cell? ⟨tb, 5, none⟩ = some (.bool bg) := blk_cell h 5 rfl
  have f3 : w.frozen? ⟨tb, 3, none⟩ = false := frozen_row h 3
  have hlt := blk_lt h
  have H1 := Lib.hid h
  have heq := fun W => eql_chan none none W
  have hmk := make_chan w
  clear h
  go_enter Tryd.func37, Tryd.ntmps37
  go_wp2
  go_end0
  exact ⟨rfl, blk_alloc (blk_set (blk_set H1.out 3 (.chan (some w.heap.size))) 5 (.bool true)) _, new_at (by simp [World.setCell]), (((Kp.refl [tb] w).setCell (p := ⟨tb, 3, none⟩) (by simp) _).setCell (p := ⟨tb, 5, none⟩) (by simp) _).alloc _⟩
/-- Copy of a tape: another one that goes on as this does. -/
theorem tcopy_any (F R : List Int) (tb : Nat) (ch : Option Nat) (sA : Option Addr) (sc : Nat) (seed left : List Int) (p at_ : Nat) (w : World) (hT : IsT F R w tb ch sA sc seed left p at_) (hl : left.length ≤ 140737488355328) (hp : p ≤ 9007199254740000) :
    Calls Tryd.prog 52 #[.pointer (some ⟨tb, 0, none⟩)] w fun e w' => ∃ tn cn cb, e = .returned (.pointer (some ⟨tn, 0, none⟩)) ∧ w.heap.size ≤ tn ∧ w.heap.size ≤ cn ∧ IsT F R w' tn (some cn) sA sc seed left p at_ ∧ IsT F R w' tb (some cb) sA sc seed left p at_ ∧ (ch = some cb ∨ (ch = none ∧ w.heap.size ≤ cb ∧ cb ≠ cn)) ∧ Kp [tb] w w' := by
  have HT := Lib.hid hT
  clear hT
  go_enter Tryd.func52, Tryd.ntmps52
  go_wp2_with (first | (go_at_call 37; go_must (refine (begin_any F R tb ch sA sc seed left p at_ w HT.out).mono ?_; rintro e w1 ⟨rfl, ⟨cb, h1, h2⟩, h3⟩; have H1 := Lib.hid h1; have H2 := Lib.hid h2; have H3 := Lib.hid h3; clear h1 h2 h3)))
  obtain ⟨lA, lc, q, bg, h1, h2, h3, h4⟩ := H1.out
  have Hrow : Hid (w1.drew.heap[tb]? = some (.cells (trow sA seed.length sc lA left.length lc (p + q) (some cb) at_ bg) 79 (0, 0))) := Lib.hid h1
  have Hlf : Hid (Rd w1.drew lA lc left) := Lib.hid (h3.drewN 1)
  have Hsd : Hid (Rd w1.drew sA sc seed) := Lib.hid (h2.drewN 1)
  have Hwt : Hid (Waits F R w1.drew (some cb) seed p q) := Lib.hid h4
  have Hk : Hid (Kp [tb] w w1.drew) := Lib.hid (H3.out.drewN 1)
  clear h1 h2 h3 h4 H1 H3 HT
  refine seg_begin (fun W => W.cell? ⟨tb, 0, none⟩ = some (.slice sA seed.length sc) ∧ W.cell? ⟨tb, 1, none⟩ = some (.slice lA left.length lc) ∧ W.cell? ⟨tb, 4, none⟩ = some (.int .i64 at_)) [3, 7, 8, 12] (by kernel_rfl) ?_
  generalize w1.drew = w2 at *
  have hltb := blk_lt Hrow.out
  have HS : Hid (w2.cell? ⟨tb, 0, none⟩ = some (.slice sA seed.length sc) ∧ w2.cell? ⟨tb, 1, none⟩ = some (.slice lA left.length lc) ∧ w2.cell? ⟨tb, 4, none⟩ = some (.int .i64 at_)) := Lib.hid ⟨blk_cell Hrow.out 0 rfl, blk_cell Hrow.out 1 rfl, blk_cell Hrow.out 4 rfl⟩
  (refine seg_take 0 ?_ rfl (by kernel_rfl) (by kernel_rfl) (by kernel_rfl) (by kernel_rfl) (by kernel_rfl) rfl (fun _ _ _ h => h) rfl ?_ ?_; rotate_left; (focus (intro w; go_simp; try with_reducible rfl)); (try simp only [List.getElem_toArray, List.getElem_cons_zero, List.getElem_cons_succ, Act.put, List.setIfInBounds_toArray, List.set_cons_zero, List.set_cons_succ]); refine seg_take 1 ?_ rfl (by kernel_rfl) (by kernel_rfl) (by kernel_rfl) (by kernel_rfl) (by kernel_rfl) rfl (fun _ _ _ h => h) rfl ?_ ?_; rotate_left; (focus (intro w; go_simp; try with_reducible rfl)); (try simp only [List.getElem_toArray, List.getElem_cons_zero, List.getElem_cons_succ, Act.put, List.setIfInBounds_toArray, List.set_cons_zero, List.set_cons_succ]); refine seg_take 2 ?_ rfl (by kernel_rfl) (by kernel_rfl) (by kernel_rfl) (by kernel_rfl) (by kernel_rfl) rfl (fun _ _ _ h => h) rfl ?_ ?_; rotate_left; (focus (intro w; go_simp; try with_reducible rfl)); (try simp only [List.getElem_toArray, List.getElem_cons_zero, List.getElem_cons_succ, Act.put, List.setIfInBounds_toArray, List.set_cons_zero, List.set_cons_succ]); refine seg_take 4 ?_ rfl (by kernel_rfl) (by kernel_rfl) (by kernel_rfl) (by kernel_rfl) (by kernel_rfl) rfl (fun _ _ _ h => h) rfl ?_ ?_; rotate_left; (focus (intro w; go_simp; try with_reducible rfl)); (try simp only [List.getElem_toArray, List.getElem_cons_zero, List.getElem_cons_succ, Act.put, List.setIfInBounds_toArray, List.set_cons_zero, List.set_cons_succ]); refine seg_take 5 ?_ rfl (by kernel_rfl) (by kernel_rfl) (by kernel_rfl) (by kernel_rfl) (by kernel_rfl) rfl (fun _ _ _ h => h) rfl ?_ ?_; rotate_left; (focus (intro w; go_simp; try with_reducible rfl)); (try simp only [List.getElem_toArray, List.getElem_cons_zero, List.getElem_cons_succ, Act.put, List.setIfInBounds_toArray, List.set_cons_zero, List.set_cons_succ]); refine seg_take 6 ?_ rfl (by kernel_rfl) (by kernel_rfl) (by kernel_rfl) (by kernel_rfl) (by kernel_rfl) rfl (fun _ _ _ h => h) rfl ?_ ?_; rotate_left; (focus (intro w; go_simp; try with_reducible rfl)); (try simp only [List.getElem_toArray, List.getElem_cons_zero, List.getElem_cons_succ, Act.put, List.setIfInBounds_toArray, List.set_cons_zero, List.set_cons_succ]); refine seg_take 9 ?_ rfl (by kernel_rfl) (by kernel_rfl) (by kernel_rfl) (by kernel_rfl) (by kernel_rfl) rfl (fun _ _ _ h => h) rfl ?_ ?_; rotate_left; (focus (intro w; go_simp; try with_reducible rfl)); (try simp only [List.getElem_toArray, List.getElem_cons_zero, List.getElem_cons_succ, Act.put, List.setIfInBounds_toArray, List.set_cons_zero, List.set_cons_succ]); refine seg_take 10 ?_ rfl (by kernel_rfl) (by kernel_rfl) (by kernel_rfl) (by kernel_rfl) (by kernel_rfl) rfl (fun _ _ _ h => h) rfl ?_ ?_; rotate_left; (focus (intro w; go_simp; try with_reducible rfl)); (try simp only [List.getElem_toArray, List.getElem_cons_zero, List.getElem_cons_succ, Act.put, List.setIfInBounds_toArray, List.set_cons_zero, List.set_cons_succ]); refine seg_take 11 ?_ rfl (by kernel_rfl) (by kernel_rfl) (by kernel_rfl) (by kernel_rfl) (by kernel_rfl) rfl (fun _ _ _ h => h) rfl ?_ ?_; rotate_left; (focus (intro w; go_simp; try with_reducible rfl)); (try simp only [List.getElem_toArray, List.getElem_cons_zero, List.getElem_cons_succ, Act.put, List.setIfInBounds_toArray, List.set_cons_zero, List.set_cons_succ]); refine seg_read 3 ?_ rfl (by kernel_rfl) (by kernel_rfl) (by kernel_rfl) (by kernel_rfl) (by kernel_rfl) (by kernel_rfl) (fun _ _ _ h => h) rfl HS.out ?_ ?_; rotate_left; (focus (intro w hSw; (try dsimp only at hSw); go_split_ands; go_simp; try with_reducible rfl)); (try simp only [List.getElem_toArray, List.getElem_cons_zero, List.getElem_cons_succ, Act.put, List.setIfInBounds_toArray, List.set_cons_zero, List.set_cons_succ]); refine seg_read 7 ?_ rfl (by kernel_rfl) (by kernel_rfl) (by kernel_rfl) (by kernel_rfl) (by kernel_rfl) (by kernel_rfl) (fun _ _ _ h => h) rfl HS.out ?_ ?_; rotate_left; (focus (intro w hSw; (try dsimp only at hSw); go_split_ands; go_simp; try with_reducible rfl)); (try simp only [List.getElem_toArray, List.getElem_cons_zero, List.getElem_cons_succ, Act.put, List.setIfInBounds_toArray, List.set_cons_zero, List.set_cons_succ]); refine seg_read 12 ?_ rfl (by kernel_rfl) (by kernel_rfl) (by kernel_rfl) (by kernel_rfl) (by kernel_rfl) (by kernel_rfl) (fun _ _ _ h => h) rfl HS.out ?_ ?_; rotate_left; (focus (intro w hSw; (try dsimp only at hSw); go_split_ands; go_simp; try with_reducible rfl)); (try simp only [List.getElem_toArray, List.getElem_cons_zero, List.getElem_cons_succ, Act.put, List.setIfInBounds_toArray, List.set_cons_zero, List.set_cons_succ]))
  (refine anyB_step 8 rfl (by kernel_rfl) ?_; (try simp only [List.getElem_toArray, List.getElem_cons_zero, List.getElem_cons_succ]))
  go_wp2_with (first | (go_at_call 33; go_must (refine (clone_rd lA left.length lc left w2 rfl Hlf.out hl).mono ?_; rintro e w3 ⟨A1, c1, rfl, h1, h3, h2⟩; have H1 := Lib.hid h1; have HB := Lib.hid h2; clear h1 h2 h3)))
  refine ⟨fun _ => ⟨(HB.out.cell (p := ⟨tb, 0, none⟩) hltb).trans HS.out.1, (HB.out.cell (p := ⟨tb, 1, none⟩) hltb).trans HS.out.2.1, (HB.out.cell (p := ⟨tb, 4, none⟩) hltb).trans HS.out.2.2⟩, ?_⟩
  (refine seg_take 13 ?_ rfl (by kernel_rfl) (by kernel_rfl) (by kernel_rfl) (by kernel_rfl) (by kernel_rfl) rfl (fun _ _ _ h => h) rfl ?_ ?_; rotate_left; (focus (intro w; go_simp; try with_reducible rfl)); (try simp only [List.getElem_toArray, List.getElem_cons_zero, List.getElem_cons_succ, Act.put, List.setIfInBounds_toArray, List.set_cons_zero, List.set_cons_succ]))
  (refine anyB_step 14 rfl (by kernel_rfl) ?_; (try simp only [List.getElem_toArray, List.getElem_cons_zero, List.getElem_cons_succ]))
  go_wp2
  refine ⟨nofun, ?_⟩
  (refine seg_take 15 ?_ rfl (by kernel_rfl) (by kernel_rfl) (by kernel_rfl) (by kernel_rfl) (by kernel_rfl) rfl (fun _ _ _ h => h) rfl ?_ ?_; rotate_left; (focus (intro w; go_simp; try with_reducible rfl)); (try simp only [List.getElem_toArray, List.getElem_cons_zero, List.getElem_cons_succ, Act.put, List.setIfInBounds_toArray, List.set_cons_zero, List.set_cons_succ]))
  (refine anyB_done (by kernel_rfl) ?_)
  have Hn : Hid ((w3.alloc (.cells (trow sA seed.length sc A1 left.length c1 0 none at_ false) 79)).heap[w3.heap.size]? = some (.cells (trow sA seed.length sc A1 left.length c1 0 none at_ false) 79 (0, 0))) := Lib.hid (new_at rfl)
  have HBa : Hid (Below w2.heap.size w2 (w3.alloc (.cells (trow sA seed.length sc A1 left.length c1 0 none at_ false) 79))) := Lib.hid (HB.out.alloc HB.out.size _)
  have H1a := Lib.hid (H1.out.alloc (.cells (trow sA seed.length sc A1 left.length c1 0 none at_ false) 79))
  have hsz : w3.heap.size + 1 = (w3.alloc (.cells (trow sA seed.length sc A1 left.length c1 0 none at_ false) 79)).heap.size := by simp
  change Exit.then _ _ _ _ (w3.alloc (.cells (trow sA seed.length sc A1 left.length c1 0 none at_ false) 79))
  generalize World.alloc w3 _ = w4 at *
  have Hsz := Lib.hid hsz
  clear hsz
  go_wp2_with (first | (go_at_call 37; go_must (refine (begin_none w3.heap.size sA seed.length sc A1 left.length c1 0 at_ false w4 Hn.out).mono ?_; rintro e w5 ⟨rfl, h1, h2, h3⟩; have N1 := Lib.hid h1; have N2 := Lib.hid h2; have N3 := Lib.hid h3; clear h1 h2 h3)))
  have hle : w2.heap.size ≤ w3.heap.size := HB.out.size
  have hle4 : w2.heap.size ≤ w4.heap.size := HBa.out.size
  obtain ⟨hq4, s4, r4, hc4⟩ := Hwt.out
  have hcl : cb < w2.heap.size := blk_lt hc4
  have R5 : Hid (w5.drew.heap[tb]? = some (.cells (trow sA seed.length sc lA left.length lc (p + q) (some cb) at_ bg) 79 (0, 0))) := Lib.hid ((N3.out.block tb (by omega) (by simp; omega)).trans (below_at HBa.out Hrow.out hltb))
  have C5 : Hid (w5.drew.heap[cb]? = some (.chan 4 (waits F R seed p q) false s4 r4 false)) := Lib.hid ((N3.out.block cb (by omega) (by simp; omega)).trans (below_at HBa.out hc4 hcl))
  have T5 : Hid (w5.drew.heap[w3.heap.size]? = some (.cells (trow sA seed.length sc A1 left.length c1 0 (some w4.heap.size) at_ true) 79 (0, 0))) := Lib.hid N1.out
  have D5 : Hid (w5.drew.heap[w4.heap.size]? = some (.chan 4 #[] false 0 0 false)) := Lib.hid N2.out
  have K5 : Hid (Kp [w3.heap.size] w4 w5.drew) := Lib.hid (N3.out.drewN 1)
  clear N1 N2 N3 hc4
  refine seg_begin (fun W => W.cell? ⟨tb, 2, none⟩ = some (.int .i64 ((p + q : Nat) : Int)) ∧ W.cell? ⟨tb, 3, none⟩ = some (.chan (some cb)) ∧ Hid (W.heap[cb]? = some (.chan 4 (waits F R seed p q) false s4 r4 false))) [4, 8, 9] (by kernel_rfl) ?_
  generalize w5.drew = w6 at *
  have HS6 : Hid (w6.cell? ⟨tb, 2, none⟩ = some (.int .i64 ((p + q : Nat) : Int)) ∧ w6.cell? ⟨tb, 3, none⟩ = some (.chan (some cb)) ∧ Hid (w6.heap[cb]? = some (.chan 4 (waits F R seed p q) false s4 r4 false))) := Lib.hid ⟨blk_cell R5.out 2 rfl, blk_cell R5.out 3 rfl, C5.out⟩
  (refine seg_take 0 ?_ rfl (by kernel_rfl) (by kernel_rfl) (by kernel_rfl) (by kernel_rfl) (by kernel_rfl) rfl (fun _ _ _ h => h) rfl ?_ ?_; rotate_left; (focus (intro w; go_simp; try with_reducible rfl)); (try simp only [List.getElem_toArray, List.getElem_cons_zero, List.getElem_cons_succ, Act.put, List.setIfInBounds_toArray, List.set_cons_zero, List.set_cons_succ]); refine seg_take 1 ?_ rfl (by kernel_rfl) (by kernel_rfl) (by kernel_rfl) (by kernel_rfl) (by kernel_rfl) rfl (fun _ _ _ h => h) rfl ?_ ?_; rotate_left; (focus (intro w; go_simp; try with_reducible rfl)); (try simp only [List.getElem_toArray, List.getElem_cons_zero, List.getElem_cons_succ, Act.put, List.setIfInBounds_toArray, List.set_cons_zero, List.set_cons_succ]); refine seg_take 2 ?_ rfl (by kernel_rfl) (by kernel_rfl) (by kernel_rfl) (by kernel_rfl) (by kernel_rfl) rfl (fun _ _ _ h => h) rfl ?_ ?_; rotate_left; (focus (intro w; go_simp; try with_reducible rfl)); (try simp only [List.getElem_toArray, List.getElem_cons_zero, List.getElem_cons_succ, Act.put, List.setIfInBounds_toArray, List.set_cons_zero, List.set_cons_succ]); refine seg_take 3 ?_ rfl (by kernel_rfl) (by kernel_rfl) (by kernel_rfl) (by kernel_rfl) (by kernel_rfl) rfl (fun _ _ _ h => h) rfl ?_ ?_; rotate_left; (focus (intro w; go_simp; try with_reducible rfl)); (try simp only [List.getElem_toArray, List.getElem_cons_zero, List.getElem_cons_succ, Act.put, List.setIfInBounds_toArray, List.set_cons_zero, List.set_cons_succ]); refine seg_take 5 ?_ rfl (by kernel_rfl) (by kernel_rfl) (by kernel_rfl) (by kernel_rfl) (by kernel_rfl) rfl (fun _ _ _ h => h) rfl ?_ ?_; rotate_left; (focus (intro w; go_simp; try with_reducible rfl)); (try simp only [List.getElem_toArray, List.getElem_cons_zero, List.getElem_cons_succ, Act.put, List.setIfInBounds_toArray, List.set_cons_zero, List.set_cons_succ]); refine seg_take 6 ?_ rfl (by kernel_rfl) (by kernel_rfl) (by kernel_rfl) (by kernel_rfl) (by kernel_rfl) rfl (fun _ _ _ h => h) rfl ?_ ?_; rotate_left; (focus (intro w; go_simp; try with_reducible rfl)); (try simp only [List.getElem_toArray, List.getElem_cons_zero, List.getElem_cons_succ, Act.put, List.setIfInBounds_toArray, List.set_cons_zero, List.set_cons_succ]); refine seg_take 7 ?_ rfl (by kernel_rfl) (by kernel_rfl) (by kernel_rfl) (by kernel_rfl) (by kernel_rfl) rfl (fun _ _ _ h => h) rfl ?_ ?_; rotate_left; (focus (intro w; go_simp; try with_reducible rfl)); (try simp only [List.getElem_toArray, List.getElem_cons_zero, List.getElem_cons_succ, Act.put, List.setIfInBounds_toArray, List.set_cons_zero, List.set_cons_succ]); refine seg_read 4 ?_ rfl (by kernel_rfl) (by kernel_rfl) (by kernel_rfl) (by kernel_rfl) (by kernel_rfl) (by kernel_rfl) (fun _ _ _ h => h) rfl HS6.out ?_ ?_; rotate_left; (focus (intro w hSw; (try dsimp only at hSw); go_split_ands; go_simp; try with_reducible rfl)); (try simp only [List.getElem_toArray, List.getElem_cons_zero, List.getElem_cons_succ, Act.put, List.setIfInBounds_toArray, List.set_cons_zero, List.set_cons_succ]); refine seg_read 8 ?_ rfl (by kernel_rfl) (by kernel_rfl) (by kernel_rfl) (by kernel_rfl) (by kernel_rfl) (by kernel_rfl) (fun _ _ _ h => h) rfl HS6.out ?_ ?_; rotate_left; (focus (intro w hSw; (try dsimp only at hSw); go_split_ands; go_simp; try with_reducible rfl)); (try simp only [List.getElem_toArray, List.getElem_cons_zero, List.getElem_cons_succ, Act.put, List.setIfInBounds_toArray, List.set_cons_zero, List.set_cons_succ]))
  (refine seg_read 9 (.int .i64 q) rfl (by kernel_rfl) (by kernel_rfl) (by kernel_rfl) (by kernel_rfl) (by kernel_rfl) (by kernel_rfl) (fun _ _ _ h => h) rfl HS6.out (fun W hW => by rw [yields_len_chan _ rfl cb rfl hW.2.2.out, waits_size]) ?_; (try simp only [List.getElem_toArray, List.getElem_cons_zero, List.getElem_cons_succ, Act.put, List.setIfInBounds_toArray, List.set_cons_zero, List.set_cons_succ]))
  (refine seg_take 10 ?_ rfl (by kernel_rfl) (by kernel_rfl) (by kernel_rfl) (by kernel_rfl) (by kernel_rfl) rfl (fun _ _ _ h => h) rfl ?_ ?_; rotate_left; (focus (intro w; go_simp; try with_reducible rfl)); (try simp only [List.getElem_toArray, List.getElem_cons_zero, List.getElem_cons_succ, Act.put, List.setIfInBounds_toArray, List.set_cons_zero, List.set_cons_succ]); refine seg_take 11 ?_ rfl (by kernel_rfl) (by kernel_rfl) (by kernel_rfl) (by kernel_rfl) (by kernel_rfl) rfl (fun _ _ _ h => h) rfl ?_ ?_; rotate_left; (focus (intro w; go_simp; try with_reducible rfl)); (try simp only [List.getElem_toArray, List.getElem_cons_zero, List.getElem_cons_succ, Act.put, List.setIfInBounds_toArray, List.set_cons_zero, List.set_cons_succ]); refine seg_take 12 ?_ rfl (by kernel_rfl) (by kernel_rfl) (by kernel_rfl) (by kernel_rfl) (by kernel_rfl) rfl (fun _ _ _ h => h) rfl ?_ ?_; rotate_left; (focus (intro w; go_simp; try with_reducible rfl)); (try simp only [List.getElem_toArray, List.getElem_cons_zero, List.getElem_cons_succ, Act.put, List.setIfInBounds_toArray, List.set_cons_zero, List.set_cons_succ]))
  (refine seg_rest [13] _ _ _ (by kernel_rfl) ?_ _ rfl)
  (refine segs_out rfl ?_; (simp only [pick, List.getElem?_toArray, List.getElem_toArray, List.getElem_cons_zero, List.getElem_cons_succ, List.getElem?_cons_zero, List.getElem?_cons_succ, Act.put, List.setIfInBounds_toArray, List.set_cons_zero, List.set_cons_succ]))
  have t2 := blk_cell (v := .int .i64 0) T5.out 2 rfl
  have tf2 := frozen_row T5.out 2
  go_wp2
  go_ret
  have hBf : Below w2.heap.size w2 (w6.setCell ⟨w3.heap.size, 2, none⟩ (.int .i64 (p : Int))) :=
    (((Kp.of_below HBa.out).trans K5.out (T := [w3.heap.size]) (S := []) (by simp; omega)).nil).setCell (p := ⟨w3.heap.size, 2, none⟩) hle _
  have hkn : Kp [w3.heap.size] w4 (w6.setCell ⟨w3.heap.size, 2, none⟩ (.int .i64 (p : Int))) := K5.out.setCell (p := ⟨w3.heap.size, 2, none⟩) (by simp) _
  have hwle := Hk.out.size
  refine ⟨w3.heap.size, w4.heap.size, cb, rfl, by omega, by omega, ⟨A1, c1, 0, true, blk_set T5.out 2 _, Hsd.out.below hBf, H1a.out.apart hkn (by intro b hb; rw [List.mem_singleton.1 hb]; exact noByte_tape Hn.out), by omega, 0, 0, blk_far D5.out (by have := Hsz.out; simp; omega) _⟩, ⟨lA, lc, q, bg, blk_far R5.out (by simp; omega) _, Hsd.out.below hBf, Hlf.out.below hBf, hq4, s4, r4, blk_far C5.out (by simp; omega) _⟩, ?_, Hk.out.then (Kp.of_below hBf)⟩
  rcases H2.out with h | ⟨h, h'⟩
  · exact .inl h
  · exact .inr ⟨h, h', by omega⟩
end Go.Proofs.YtiboflejmnjdhaaDoor
end
section
set_option linter.unusedVariables false
set_option linter.unusedSimpArgs false
set_option maxRecDepth 100000
namespace Go.Proofs.YtiboflejmnjdhaaDoor
open Go Go.RowKit Go.Conc
/-- What is left, or the next block. -/
def tFill (F R seed l : List Int) (p : Nat) : List Int × Nat := if l.length = 0 then (blkOf F R seed p, p + 1) else (l, p)
theorem tFill_pos (F R seed l : List Int) (p : Nat) : 0 < (tFill F R seed l p).1.length := by
  unfold tFill
  split
  · simp [blkOf_len]
  · simp only []; omega
/-- Draw, in so many rounds. -/
def tGo (F R seed : List Int) (n : Nat) : Nat → List Int → List Int → Nat → List Int × List Int × Nat
  | 0, o, l, p => (o, l, p)
  | f + 1, o, l, p => if o.length < n then
      tGo F R seed n f (o ++ (tFill F R seed l p).1.take (min (n - o.length) (tFill F R seed l p).1.length)) ((tFill F R seed l p).1.drop (min (n - o.length) (tFill F R seed l p).1.length)) (tFill F R seed l p).2
    else (o, l, p)
theorem tGo_full (F R seed : List Int) (n f : Nat) (o l : List Int) (p : Nat) (h : n ≤ o.length) : tGo F R seed n f o l p = (o, l, p) := by
  cases f with
  | zero => rfl
  | succ f => rw [tGo, if_neg (by omega)]
theorem tGo_more (F R seed : List Int) (n : Nat) : ∀ (f g : Nat) (o l : List Int) (p : Nat), n - o.length ≤ f → n - o.length ≤ g → tGo F R seed n f o l p = tGo F R seed n g o l p := by
  intro f
  induction f with
  | zero => intro g o l p h _; rw [tGo_full F R seed n g o l p (by omega)]; rfl
  | succ f ih =>
    intro g o l p h hg
    by_cases hn : o.length < n
    · obtain ⟨g', rfl⟩ : ∃ g', g = g' + 1 := ⟨g - 1, by omega⟩
      have hp := tFill_pos F R seed l p
      rw [tGo, tGo, if_pos hn, if_pos hn]
      exact ih g' _ _ _ (by simp; omega) (by simp; omega)
    · rw [tGo_full F R seed n _ o l p (by omega), tGo_full F R seed n _ o l p (by omega)]
theorem tGo_len (F R seed : List Int) (n : Nat) : ∀ (f : Nat) (o l : List Int) (p : Nat), n - o.length ≤ f → o.length ≤ n → (tGo F R seed n f o l p).1.length = n := by
  intro f
  induction f with
  | zero => intro o l p h h2; simp only [tGo]; omega
  | succ f ih =>
    intro o l p h h2
    by_cases hn : o.length < n
    · have hp := tFill_pos F R seed l p
      rw [tGo, if_pos hn]
      exact ih _ _ _ (by simp; omega) (by simp; omega)
    · rw [tGo_full F R seed n _ o l p (by omega)]; simp only []; omega
/-- What is drawn, what is left, and the number of the next block. -/
def tDraw (F R seed : List Int) (n : Nat) (l : List Int) (p : Nat) : List Int × List Int × Nat := tGo F R seed n n [] l p
theorem tDraw_len (F R seed : List Int) (n : Nat) (l : List Int) (p : Nat) : (tDraw F R seed n l p).1.length = n := tGo_len F R seed n n [] l p (by simp) (by simp)

theorem tFill_le (F R seed l : List Int) (p : Nat) : (tFill F R seed l p).2 ≤ p + 1 := by
  unfold tFill
  split
  · exact Nat.le_refl _
  · simp
theorem tGo_step (F R seed : List Int) (n m : Nat) (o l : List Int) (p : Nat) (hm : m = o.length) (hlt : m < n) : tGo F R seed n (n - m) o l p =
    tGo F R seed n (n - (m + min (n - m) (tFill F R seed l p).1.length)) (o ++ (tFill F R seed l p).1.take (min (n - m) (tFill F R seed l p).1.length)) ((tFill F R seed l p).1.drop (min (n - m) (tFill F R seed l p).1.length)) (tFill F R seed l p).2 := by
  have hp := tFill_pos F R seed l p
  obtain ⟨f, hf⟩ : ∃ f, n - m = f + 1 := ⟨n - m - 1, by omega⟩
  rw [hf, tGo, if_pos (by omega), ← hm, ← hf]
  exact tGo_more F R seed n _ _ _ _ _ (by simp; omega) (by simp; omega)
theorem Own.ne_chan {w : World} {base : Nat} {v : Value} {xs : List Int} (h : Own w base v xs) {b : Nat} {k0 : Nat} {b0 : Array Value} {l0 : Bool} {s0 r0 : Nat} {m0 : Bool} (hc : w.heap[b]? = some (.chan k0 b0 l0 s0 r0 m0)) : v.ownBlock ≠ some b := by
  rcases h.2 with ⟨rfl, _⟩ | ⟨g, cap, cur, rfl, _, hg, _⟩
  · simp [Value.ownBlock]
  · intro e
    simp only [Value.ownBlock, Option.some.injEq] at e
    subst e
    rw [hg] at hc
    cases hc
theorem Rd.lt {w : World} {A : Option Addr} {c : Nat} {xs : List Int} (h : Rd w A c xs) (h0 : 0 < xs.length) : ∀ a, A = some a → a.block < w.heap.size := by
  intro a ha
  obtain ⟨b, off, e, hc⟩ := h.cells h0
  rw [ha] at e
  cases e
  exact World.block_lt_of_cell? w ⟨b, off + 0, none⟩ (hc 0 h0)
/-- A tape in the midst of Draw. -/
structure Dm (G : Nat → Prop) (F R : List Int) (wb : World) (tb cb : Nat) (sA : Option Addr) (sn sc : Nat) (seed : List Int) (n : Nat) (fin : List Int × List Int × Nat) (p0 at_ : Nat) (A : Option Addr) (m c : Nat) (wr : World) : Prop where
  ex : ∃ (o l : List Int) (p q : Nat) (lA : Option Addr) (lc : Nat) (bg : Bool), m = o.length ∧ m ≤ n ∧ tGo F R seed n (n - m) o l p = fin ∧ p ≤ p0 + m ∧ Own wr wb.heap.size (.slice A m c) o ∧
    wr.heap[tb]? = some (.cells (trow sA sn sc lA l.length lc (p + q) (some cb) at_ bg) 79 (0, 0)) ∧ Rd wr lA lc l ∧ Waits F R wr (some cb) seed p q ∧ (0 < l.length → ∀ a, lA = some a → (Value.slice A m c).ownBlock ≠ some a.block ∧ G a.block)
  kp : Kp [tb, cb] wb wr

set_option maxHeartbeats 4000000 in
theorem draw_any3 (G : Nat → Prop) (F R : List Int) (tb : Nat) (ch : Option Nat) (sA : Option Addr) (sc : Nat) (seed left : List Int) (p at_ n : Nat) (w : World) (hTb : Tabs F R w) (hT : IsT F R w tb ch sA sc seed left p at_) (hl : seed.length ≤ 10000000000000) (hll : left.length ≤ 10000000000000) (h0 : 0 < n) (hn : n ≤ 65536) (hp : p ≤ 9007199254600000) (hat : at_ ≤ 9007199254600000) (hG : LeftIn w tb G) (hGn : ∀ b, w.heap.size ≤ b → G b) :
    Calls Tryd.prog 14 #[.pointer (some ⟨tb, 0, none⟩), .int .i64 n] w fun e w' => ∃ A c cb, e = .returned (.slice A n c) ∧ Own w' w.heap.size (.slice A n c) (tDraw F R seed n left p).1 ∧
      IsT F R w' tb (some cb) sA sc seed (tDraw F R seed n left p).2.1 (tDraw F R seed n left p).2.2 (at_ + n) ∧ (ch = some cb ∨ (ch = none ∧ w.heap.size ≤ cb)) ∧ Kp (tb :: ch.toList) w w' ∧ LeftIn w' tb (fun b => (Value.slice A n c).ownBlock ≠ some b ∧ G b) := by
  have HTb := Lib.hid hTb
  have HT := Lib.hid hT
  have hmn : min (n : Int) 65536 = n := by omega
  have hpos : (0 : Int) < n := by omega
  clear hTb hT
  go_enter Tryd.func14, Tryd.ntmps14
  obtain ⟨i0, hi0, hz0, hz1, hz2⟩ := info_parts infoU8
  go_wp2_with (first
    | (go_at_call 37; go_must (refine (begin_any2 F R tb ch sA sc seed left p at_ w HT.out).mono ?_; rintro e wb ⟨rfl, ⟨cb, h1, h2⟩, h3, h4⟩; have H1 := Lib.hid h1; have H2 := Lib.hid h2; have H3 := Lib.hid h3; have H4 := Lib.hid h4; clear h1 h2 h3 h4))
    | (at_make; go_must (refine wpList_make_own wb rfl _ _ 22 rfl wb.heap.size 5 i0 _ 1 Tryd.underlying22 hi0 hz0 hz1 .i64 .i64 (n : Int) n rfl rfl rfl (by rw [hz2]; omega) (by simp only [maxLen]; omega) (Nat.le_refl _) ?_; intro wm hom hgm; have HOm := Lib.hid hom; have HGm : Hid (Below wb.heap.size wb wm) := Lib.hid ((Below.refl _ wb).grown hgm (Nat.le_refl _) (by simp)); clear hom hgm)))
  obtain ⟨lA, lc, q, bg, h1, h2, h3, h4⟩ := H1.out
  have Hfa : Hid (Rd wb sA sc seed) := Lib.hid h2
  have Hnb : Hid (∀ b ∈ [tb, cb], NoByte wb b) := Lib.hid (by
    obtain ⟨_, s, r, h6⟩ := h4
    intro b hb
    rcases List.mem_cons.1 hb with rfl | hb
    · exact noByte_tape h1
    · rw [List.mem_singleton.1 hb]; exact noByte_chan h6)
  have Htb : Hid (Tabs F R wb) := Lib.hid (HTb.out.kp H3.out (by obtain ⟨_, _, _, _, h, _⟩ := HT.out; simpa using blk_ne HTb.out.f h (by decide)) (by obtain ⟨_, _, _, _, h, _⟩ := HT.out; simpa using blk_ne HTb.out.r h (by decide)))
  have Hla : Hid (0 < left.length → ∀ a, lA = some a → (Value.slice (some ⟨wb.heap.size, 0, none⟩) 0 n).ownBlock ≠ some a.block ∧ G a.block) := Lib.hid (by
    intro h0 a ha
    refine ⟨fun hb => ?_, hG lA left.length lc a (H4.out.symm.trans (blk_cell h1 1 rfl)) h0 ha⟩
    have := h3.lt h0 a ha
    simp only [Value.ownBlock, Option.some.injEq] at hb
    omega)
  have hD0 : Dm G F R wb tb cb sA seed.length sc seed n (tDraw F R seed n left p) p at_ (some ⟨wb.heap.size, 0, none⟩) 0 n wm :=
    ⟨⟨[], left, p, q, lA, lc, bg, rfl, by omega, rfl, by omega, HOm.out, below_at HGm.out h1 (blk_lt h1), h3.below HGm.out, by obtain ⟨h5, s, r, h6⟩ := h4; exact ⟨h5, s, r, below_at HGm.out h6 (blk_lt h6)⟩, Hla.out⟩, Kp.of_below HGm.out⟩
  have HD0 := Lib.hid hD0
  have Hg2 : Hid (1 ∉ [tb, cb] ∧ 2 ∉ [tb, cb]) := Lib.hid (by
    obtain ⟨_, s, r, h6⟩ := h4
    have e1 := blk_ne Htb.out.f h1 (by decide)
    have e2 := blk_ne Htb.out.r h1 (by decide)
    have e3 : 1 ≠ cb := by rintro rfl; have := Htb.out.f.symm.trans h6; cases this
    have e4 : 2 ≠ cb := by rintro rfl; have := Htb.out.r.symm.trans h6; cases this
    simp only [List.mem_cons, List.not_mem_nil, or_false, not_or]
    exact ⟨⟨e1, e3⟩, e2, e4⟩)
  clear h1 h2 h3 h4 hD0 HOm HGm HT HTb H1 hmn
  go_loopw [5] (fun s wr => ∃ (A : Option Addr) (m c : Nat), s = .slice A m c ∧ Hid (Dm G F R wb tb cb sA seed.length sc seed n (tDraw F R seed n left p) p at_ A m c wr)) (fun s _ => match s with | .slice _ m _ => n - m | _ => 0)
  case atStart => exact ⟨_, _, _, rfl, HD0⟩
  case round =>
    clear HD0
    obtain ⟨A, m, c, rfl, HD⟩ := hrel
    obtain ⟨o, l, p1, q1, lA, lc, bg1, hm, hmn1, hgo, hp1, ho, hrow, hlf, hwt, hap⟩ := HD.out.ex
    have Hm := Lib.hid hm
    have Hgo := Lib.hid hgo
    have Hrow := Lib.hid hrow
    have Hlf := Lib.hid hlf
    have Hwt := Lib.hid hwt
    have Hap := Lib.hid hap
    have Ho := Lib.hid ho
    have Kr := Lib.hid HD.out.kp
    have c1 : wr.cell? ⟨tb, 1, none⟩ = some (.slice lA l.length lc) := blk_cell hrow 1 rfl
    have f1 : wr.frozen? ⟨tb, 1, none⟩ = false := frozen_row hrow 1
    clear hm hgo ho hrow hlf hwt hap HD
    by_cases hlt : m < n
    · go_upto_if 26 with (fail)
      go_cut [6] from 17 to 59 (fun s6 wx => ∃ (lA' : Option Addr) (lc' q' : Nat) (bg' : Bool), Hid (wx.heap[tb]? = some (.cells (trow sA seed.length sc lA' (tFill F R seed l p1).1.length lc' ((tFill F R seed l p1).2 + q') (some cb) at_ bg') 79 (0, 0)) ∧ Rd wx lA' lc' (tFill F R seed l p1).1 ∧ Waits F R wx (some cb) seed (tFill F R seed l p1).2 q' ∧ (∀ a, lA' = some a → (Value.slice A m c).ownBlock ≠ some a.block ∧ G a.block) ∧ Own wx wb.heap.size (.slice A m c) o ∧ Kp [tb, cb] wb wx))
      case first =>
        by_cases hl0 : l.length = 0
        · have hl1 : ((l.length : Int) == 0) = true := by simp [hl0]
          have hln : l = [] := List.eq_nil_of_length_eq_zero hl0
          have hIT : Hid (IsT F R wr tb (some cb) sA sc seed l p1 at_) := Lib.hid ⟨lA, lc, q1, bg1, Hrow.out, Hfa.out.apart Kr.out Hnb.out, Hlf.out, Hwt.out⟩
          have Htr : Hid (Tabs F R wr) := Lib.hid (Htb.out.kp Kr.out Hg2.out.1 Hg2.out.2)
          have hsz : Hid ((Tryd.prog.info? 45).map (·.size) = some (w8 (blkOf F R seed p1)).size) := Lib.hid (by rw [w8_size, blkOf_len]; kernel_rfl)
          have hold1 : Hid ((#[.int .u8 0, .int .u8 0, .int .u8 0, .int .u8 0, .int .u8 0, .int .u8 0, .int .u8 0, .int .u8 0, .int .u8 0, .int .u8 0, .int .u8 0, .int .u8 0, .int .u8 0, .int .u8 0, .int .u8 0, .int .u8 0, .int .u8 0, .int .u8 0, .int .u8 0, .int .u8 0, .int .u8 0, .int .u8 0, .int .u8 0, .int .u8 0, .int .u8 0, .int .u8 0, .int .u8 0, .int .u8 0, .int .u8 0, .int .u8 0, .int .u8 0, .int .u8 0] : Array Value).size = (w8 (blkOf F R seed p1)).size) := Lib.hid (by rw [w8_size, blkOf_len]; rfl)
          go_wp2_with (first
            | (go_at_call 38; go_must (refine (next_any F R tb cb sA sc seed l p1 at_ wr Htr.out hIT.out hl (by omega)).mono ?_; rintro e w1 ⟨rfl, ⟨lA2, lc2, q2, bg2, r1, r2, r3, r4⟩, h3⟩; have N3 := Lib.hid h3; have n1 : w1.frozen? ⟨tb, 1, none⟩ = false := frozen_row r1 1; have nc1 : w1.cell? ⟨tb, 1, none⟩ = some (.slice lA2 l.length lc2) := blk_cell r1 1 rfl; have nlt : tb < w1.heap.size := blk_lt r1; have R1 := Lib.hid r1; have R4 := Lib.hid r4; clear h3 r1 r2 r3 r4))
            | (with_reducible refine wpList_store_new rfl 45 _ _ rfl _ rfl rfl _ _ hsz.out hold1.out (w8_one _) ?_))
          go_meet
          have hf : tFill F R seed l p1 = (blkOf F R seed p1, p1 + 1) := by unfold tFill; rw [if_pos hl0]
          rw [hf]
          have hlw : wr.heap.size ≤ w1.heap.size := N3.out.size
          have hlb : wb.heap.size ≤ w1.heap.size := Nat.le_trans Kr.out.size hlw
          have e1 : ∀ u, (w1.setCell ⟨tb, 1, none⟩ u).heap.size = w1.heap.size := fun u => by simp [World.setCell]
          have hrn := Rd.new (w1.setCell ⟨tb, 1, none⟩ (.slice (some ⟨w1.heap.size, 0, none⟩) 32 32)) (blkOf F R seed p1) (by rw [blkOf_len]; omega) 45 (0, 0)
          rw [e1, blkOf_len] at hrn
          obtain ⟨h5, s5, r5, h6⟩ := R4.out
          have hne : ∀ g, (Value.slice A m c).ownBlock = some g → g ∉ [tb, cb] := fun g hg => by
            have ht := Ho.out.ne Hrow.out (by decide)
            obtain ⟨_, _, _, h7⟩ := Hwt.out
            have hc := Ho.out.ne_chan h7
            rw [hg] at ht hc
            simp only [List.mem_cons, List.not_mem_nil, or_false, not_or]
            exact ⟨fun e => ht (by rw [e]), fun e => hc (by rw [e])⟩
          have hrow2 := blk_alloc (blk_set R1.out 1 (.slice (some ⟨w1.heap.size, 0, none⟩) 32 32)) (.cells (w8 (blkOf F R seed p1)) 45)
          refine ⟨some ⟨w1.heap.size, 0, none⟩, 32, q2, bg2, Lib.hid ⟨?_, hrn, ⟨h5, s5, r5, blk_alloc (blk_far h6 (by rintro rfl; have := R1.out.symm.trans h6; cases this) _) _⟩, ?_, ?_, ((Kr.out.then (N3.out)).setCell (p := ⟨tb, 1, none⟩) (by simp) _).alloc _⟩⟩
          · rw [blkOf_len]; exact hrow2
          · intro a ha
            cases ha
            refine ⟨fun hb => ?_, hGn w1.heap.size (by have := H3.out.size; omega)⟩
            have := (Ho.out.lt _ hb).2
            simp at this
            omega
          · exact ((Ho.out.kp N3.out hne).setCell (p := ⟨tb, 1, none⟩) (fun e => hne tb e (by simp)) _).alloc _
        · have hl1 : ((l.length : Int) == 0) = false := by rw [beq_eq_false_iff_ne]; omega
          have hf : tFill F R seed l p1 = (l, p1) := by unfold tFill; rw [if_neg hl0]
          go_wp2
          go_meet
          rw [hf]
          exact ⟨lA, lc, q1, bg1, Lib.hid ⟨Hrow.out, Hlf.out, Hwt.out, Hap.out (by omega), Ho.out, Kr.out⟩⟩
      case rest =>
        obtain ⟨lA', lc', q', bg', Hx⟩ := hcut
        have hst := tGo_step F R seed n m o l p1 Hm.out hlt
        have hpos2 := tFill_pos F R seed l p1
        have hple := tFill_le F R seed l p1
        generalize tFill F R seed l p1 = tf at *
        obtain ⟨L, pn⟩ := tf
        simp only [] at hst hpos2 hple Hx
        have hgo2 := Hgo.out
        rw [hst] at hgo2
        obtain ⟨k, hk⟩ : ∃ k, k = min (n - m) L.length := ⟨_, rfl⟩
        rw [← hk] at hgo2
        have hx := Hx.out
        have Hlf2 := Lib.hid hx.2.1
        have Hr2 := Lib.hid hx.1
        have c12 : wc.cell? ⟨tb, 1, none⟩ = some (.slice lA' L.length lc') := blk_cell hx.1 1 rfl
        have Hgo2 := Lib.hid hgo2
        have hLle : L.length ≤ 9223372036854775807 := hx.2.1.len
        have Hk := Lib.hid hk
        clear hx hgo2 hst hk Hgo Hrow Hlf Hwt Hap Ho Kr c1 f1
        go_upto_region 10 with (fail)
        go_cut [7] from 17 to 59 (fun s7 wx => s7 = .int .i64 k ∧ wx = wc)
        case first =>
          by_cases hmn : (n : Int) - m ≤ (L.length : Int)
          · go_wp2
            go_meet
            exact ⟨by have := Hk.out; congr 1; omega, rfl⟩
          · go_wp2
            go_meet
            exact ⟨by have := Hk.out; congr 1; omega, rfl⟩
        case rest =>
          obtain ⟨rfl, rfl⟩ := hcut
          go_upto_region 11 with (fail)
          have hkL : k ≤ L.length := by have := Hk.out; omega
          have hkn : k ≤ n - m := by have := Hk.out; omega
          have hk1 : 0 < k := by have := Hk.out; omega
          have hcut1 := fun W => cut_hi lA' L.length lc' k (by have := Hlf2.out.le; omega) .i64 W
          obtain ⟨A2, hcut2, hA2, hA2b⟩ := cut_lo lA' L.length lc' k hkL
          have Hcut2 := Lib.hid (hcut2 .i64)
          have Hcut1 := Lib.hid hcut1
          have HA2 := Lib.hid hA2
          have HA2b := Lib.hid hA2b
          clear hcut1 hcut2 hA2 hA2b
          refine seg_begin (fun W => W.cell? ⟨tb, 1, none⟩ = some (.slice lA' L.length lc')) [5, 7, 8, 12, 14, 15, 16, 17] (by kernel_rfl) ?_
          have HS : Hid (wc.drew.cell? ⟨tb, 1, none⟩ = some (.slice lA' L.length lc')) := Lib.hid c12
          (refine seg_take 0 ?_ rfl (by kernel_rfl) (by kernel_rfl) (by kernel_rfl) (by kernel_rfl) (by kernel_rfl) rfl (fun _ _ _ h => h) rfl ?_ ?_; rotate_left; (focus (intro w; go_simp; try with_reducible rfl)); (try simp only [List.getElem_toArray, List.getElem_cons_zero, List.getElem_cons_succ, Act.put, List.setIfInBounds_toArray, List.set_cons_zero, List.set_cons_succ]); refine seg_take 1 ?_ rfl (by kernel_rfl) (by kernel_rfl) (by kernel_rfl) (by kernel_rfl) (by kernel_rfl) rfl (fun _ _ _ h => h) rfl ?_ ?_; rotate_left; (focus (intro w; go_simp; try with_reducible rfl)); (try simp only [List.getElem_toArray, List.getElem_cons_zero, List.getElem_cons_succ, Act.put, List.setIfInBounds_toArray, List.set_cons_zero, List.set_cons_succ]); refine seg_take 2 ?_ rfl (by kernel_rfl) (by kernel_rfl) (by kernel_rfl) (by kernel_rfl) (by kernel_rfl) rfl (fun _ _ _ h => h) rfl ?_ ?_; rotate_left; (focus (intro w; go_simp; try with_reducible rfl)); (try simp only [List.getElem_toArray, List.getElem_cons_zero, List.getElem_cons_succ, Act.put, List.setIfInBounds_toArray, List.set_cons_zero, List.set_cons_succ]); refine seg_take 3 ?_ rfl (by kernel_rfl) (by kernel_rfl) (by kernel_rfl) (by kernel_rfl) (by kernel_rfl) rfl (fun _ _ _ h => h) rfl ?_ ?_; rotate_left; (focus (intro w; go_simp; try with_reducible rfl)); (try simp only [List.getElem_toArray, List.getElem_cons_zero, List.getElem_cons_succ, Act.put, List.setIfInBounds_toArray, List.set_cons_zero, List.set_cons_succ]); refine seg_take 4 ?_ rfl (by kernel_rfl) (by kernel_rfl) (by kernel_rfl) (by kernel_rfl) (by kernel_rfl) rfl (fun _ _ _ h => h) rfl ?_ ?_; rotate_left; (focus (intro w; go_simp; try with_reducible rfl)); (try simp only [List.getElem_toArray, List.getElem_cons_zero, List.getElem_cons_succ, Act.put, List.setIfInBounds_toArray, List.set_cons_zero, List.set_cons_succ]); refine seg_take 6 ?_ rfl (by kernel_rfl) (by kernel_rfl) (by kernel_rfl) (by kernel_rfl) (by kernel_rfl) rfl (fun _ _ _ h => h) rfl ?_ ?_; rotate_left; (focus (intro w; go_simp; try with_reducible rfl)); (try simp only [List.getElem_toArray, List.getElem_cons_zero, List.getElem_cons_succ, Act.put, List.setIfInBounds_toArray, List.set_cons_zero, List.set_cons_succ]); refine seg_take 9 ?_ rfl (by kernel_rfl) (by kernel_rfl) (by kernel_rfl) (by kernel_rfl) (by kernel_rfl) rfl (fun _ _ _ h => h) rfl ?_ ?_; rotate_left; (focus (intro w; go_simp; try with_reducible rfl)); (try simp only [List.getElem_toArray, List.getElem_cons_zero, List.getElem_cons_succ, Act.put, List.setIfInBounds_toArray, List.set_cons_zero, List.set_cons_succ]); refine seg_take 10 ?_ rfl (by kernel_rfl) (by kernel_rfl) (by kernel_rfl) (by kernel_rfl) (by kernel_rfl) rfl (fun _ _ _ h => h) rfl ?_ ?_; rotate_left; (focus (intro w; go_simp; try with_reducible rfl)); (try simp only [List.getElem_toArray, List.getElem_cons_zero, List.getElem_cons_succ, Act.put, List.setIfInBounds_toArray, List.set_cons_zero, List.set_cons_succ]); refine seg_take 11 ?_ rfl (by kernel_rfl) (by kernel_rfl) (by kernel_rfl) (by kernel_rfl) (by kernel_rfl) rfl (fun _ _ _ h => h) rfl ?_ ?_; rotate_left; (focus (intro w; go_simp; try with_reducible rfl)); (try simp only [List.getElem_toArray, List.getElem_cons_zero, List.getElem_cons_succ, Act.put, List.setIfInBounds_toArray, List.set_cons_zero, List.set_cons_succ]); refine seg_take 13 ?_ rfl (by kernel_rfl) (by kernel_rfl) (by kernel_rfl) (by kernel_rfl) (by kernel_rfl) rfl (fun _ _ _ h => h) rfl ?_ ?_; rotate_left; (focus (intro w; go_simp; try with_reducible rfl)); (try simp only [List.getElem_toArray, List.getElem_cons_zero, List.getElem_cons_succ, Act.put, List.setIfInBounds_toArray, List.set_cons_zero, List.set_cons_succ]); refine seg_read 5 ?_ rfl (by kernel_rfl) (by kernel_rfl) (by kernel_rfl) (by kernel_rfl) (by kernel_rfl) (by kernel_rfl) (fun _ _ _ h => h) rfl HS.out ?_ ?_; rotate_left; (focus (intro w hSw; (try dsimp only at hSw); go_split_ands; go_simp; try with_reducible rfl)); (try simp only [List.getElem_toArray, List.getElem_cons_zero, List.getElem_cons_succ, Act.put, List.setIfInBounds_toArray, List.set_cons_zero, List.set_cons_succ]); refine seg_read 12 ?_ rfl (by kernel_rfl) (by kernel_rfl) (by kernel_rfl) (by kernel_rfl) (by kernel_rfl) (by kernel_rfl) (fun _ _ _ h => h) rfl HS.out ?_ ?_; rotate_left; (focus (intro w hSw; (try dsimp only at hSw); go_split_ands; go_simp; try with_reducible rfl)); (try simp only [List.getElem_toArray, List.getElem_cons_zero, List.getElem_cons_succ, Act.put, List.setIfInBounds_toArray, List.set_cons_zero, List.set_cons_succ]))
          (refine seg_read 7 (.slice lA' k lc') rfl (by kernel_rfl) (by kernel_rfl) (by kernel_rfl) (by kernel_rfl) (by kernel_rfl) (by kernel_rfl) (fun _ _ _ h => h) rfl HS.out (fun W _ => yields_slice _ _ Tryd.underlying22 _ _ _ _ rfl _ _ _ rfl (Hcut1.out W)) ?_; (try simp only [List.getElem_toArray, List.getElem_cons_zero, List.getElem_cons_succ, Act.put, List.setIfInBounds_toArray, List.set_cons_zero, List.set_cons_succ]))
          (refine seg_read 14 (.slice A2 (L.length - k) (lc' - k)) rfl (by kernel_rfl) (by kernel_rfl) (by kernel_rfl) (by kernel_rfl) (by kernel_rfl) (by kernel_rfl) (fun _ _ _ h => h) rfl HS.out (fun W _ => yields_slice _ _ Tryd.underlying22 _ _ _ _ rfl _ _ _ rfl (Hcut2.out W)) ?_; (try simp only [List.getElem_toArray, List.getElem_cons_zero, List.getElem_cons_succ, Act.put, List.setIfInBounds_toArray, List.set_cons_zero, List.set_cons_succ]))
          have HX : Hid (wc.drew.heap[tb]? = some (.cells (trow sA seed.length sc lA' L.length lc' (pn + q') (some cb) at_ bg') 79 (0, 0)) ∧ Rd wc.drew lA' lc' L ∧ Waits F R wc.drew (some cb) seed pn q' ∧ Own wc.drew wb.heap.size (.slice A m c) o ∧ Kp [tb, cb] wb wc.drew) :=
            Lib.hid ⟨Hx.out.1, Hx.out.2.1.drewN 1, Hx.out.2.2.1, Hx.out.2.2.2.2.1.drewN 1, Hx.out.2.2.2.2.2.drewN 1⟩
          have Hap2 : Hid (∀ (a : Addr), lA' = some a → (Value.slice A m c).ownBlock ≠ some a.block ∧ G a.block) := Lib.hid Hx.out.2.2.2.1
          clear Hx Hlf2 Hr2 c12
          generalize wc.drew = wd at *
          (refine anyB_step 8 rfl (by kernel_rfl) ?_; (try simp only [List.getElem_toArray, List.getElem_cons_zero, List.getElem_cons_succ]))
          go_wp2_with (at_builtin; go_must (refine app_rd rfl _ _ rfl wb.heap.size (.slice A m c) o rfl HX.out.2.2.2.1 lA' lc' k (L.take k) rfl (by simp; omega) (HX.out.2.1.take k hkL) (m + k) (by rw [Hm.out]; simp; omega) (by have := Hm.out; simp; omega) HX.out.2.2.2.2.size ?_; intro A3 c3 we ho hg hat; have HO := Lib.hid ho; have HG := Lib.hid hg; have HAt := Lib.hid hat; clear ho hg hat))
          obtain ⟨hr1, hr2, hr3, hr4, hr5⟩ := HX.out
          have hltb := blk_lt hr1
          have hlfl : Hid (∀ a, lA' = some a → a.block < wd.heap.size) := Lib.hid (hr2.lt hpos2)
          have hnt : (Value.slice A m c).ownBlock ≠ some tb := hr4.ne hr1 (by decide)
          obtain ⟨hq5, s5, r5, hcc⟩ := hr3
          have hnc : (Value.slice A m c).ownBlock ≠ some cb := hr4.ne_chan hcc
          have hrow : we.heap[tb]? = some (.cells (trow sA seed.length sc lA' L.length lc' (pn + q') (some cb) at_ bg') 79 (0, 0)) := (HG.out.block tb hltb (fun e => hnt e.symm)).trans hr1
          have hcch : we.heap[cb]? = some (.chan 4 (waits F R seed pn q') false s5 r5 false) := (HG.out.block cb (blk_lt hcc) (fun e => hnc e.symm)).trans hcc
          have hlf3 : Rd we lA' lc' L := hr2.keep fun a e hlt => HG.out.block _ hlt (fun e' => (Hap2.out a e).1 e'.symm)
          have hke : Kp [tb, cb] wb we := by
            refine hr5.trans (T := (Value.slice A m c).ownBlock.toList) (Kp.of_grown HG.out (fun j e _ => by simp [e])) ?_
            intro x hx hxl
            have := (hr4.lt x (by simpa using hx)).1
            omega
          have c13 : we.cell? ⟨tb, 1, none⟩ = some (.slice lA' L.length lc') := blk_cell hrow 1 rfl
          have f13 : we.frozen? ⟨tb, 1, none⟩ = false := frozen_row hrow 1
          have Hrow := Lib.hid hrow
          have Hcch := Lib.hid hcch
          have Hlf3 := Lib.hid hlf3
          have Hke := Lib.hid hke
          have Hnt := Lib.hid hnt
          clear hr1 hr2 hr4 hr5 hcc hrow hcch hlf3 hke hnt hnc
          refine ⟨c13, ?_⟩
          have HS2 : Hid (we.cell? ⟨tb, 1, none⟩ = some (.slice lA' L.length lc')) := Lib.hid c13
          (refine seg_read 15 ?_ rfl (by kernel_rfl) (by kernel_rfl) (by kernel_rfl) (by kernel_rfl) (by kernel_rfl) (by kernel_rfl) (fun _ _ _ h => h) rfl HS2.out ?_ ?_; rotate_left; (focus (intro w hSw; (try dsimp only at hSw); go_split_ands; go_simp; try with_reducible rfl)); (try simp only [List.getElem_toArray, List.getElem_cons_zero, List.getElem_cons_succ, Act.put, List.setIfInBounds_toArray, List.set_cons_zero, List.set_cons_succ]); refine seg_read 16 ?_ rfl (by kernel_rfl) (by kernel_rfl) (by kernel_rfl) (by kernel_rfl) (by kernel_rfl) (by kernel_rfl) (fun _ _ _ h => h) rfl HS2.out ?_ ?_; rotate_left; (focus (intro w hSw; (try dsimp only at hSw); go_split_ands; go_simp; try with_reducible rfl)); (try simp only [List.getElem_toArray, List.getElem_cons_zero, List.getElem_cons_succ, Act.put, List.setIfInBounds_toArray, List.set_cons_zero, List.set_cons_succ]); refine seg_read 17 ?_ rfl (by kernel_rfl) (by kernel_rfl) (by kernel_rfl) (by kernel_rfl) (by kernel_rfl) (by kernel_rfl) (fun _ _ _ h => h) rfl HS2.out ?_ ?_; rotate_left; (focus (intro w hSw; (try dsimp only at hSw); go_split_ands; go_simp; try with_reducible rfl)); (try simp only [List.getElem_toArray, List.getElem_cons_zero, List.getElem_cons_succ, Act.put, List.setIfInBounds_toArray, List.set_cons_zero, List.set_cons_succ]))
          (refine anyB_step 18 rfl (by kernel_rfl) ?_; (try simp only [List.getElem_toArray, List.getElem_cons_zero, List.getElem_cons_succ]))
          go_wp2
          refine ⟨nofun, ?_⟩
          (refine anyB_done (by kernel_rfl) ?_)
          have hlp : L.length - k = (L.drop k).length := by simp
          have hown2 : Own (we.setCell ⟨tb, 1, none⟩ (.slice A2 (L.length - k) (lc' - k))) wb.heap.size (.slice A3 (m + k) c3) (o ++ L.take k) := HO.out.setCell (HO.out.ne Hrow.out (by decide)) _
          have hD2 : Dm G F R wb tb cb sA seed.length sc seed n (tDraw F R seed n left p) p at_ A3 (m + k) c3 (we.setCell ⟨tb, 1, none⟩ (.slice A2 (L.length - k) (lc' - k))) := by
            refine ⟨⟨o ++ L.take k, L.drop k, pn, q', A2, lc' - k, bg', by rw [Hm.out]; simp; omega, by omega, Hgo2.out, by omega, hown2, ?_, ?_, ?_, ?_⟩, Hke.out.setCell (p := ⟨tb, 1, none⟩) (by simp) _⟩
            · rw [← hlp]; exact blk_set Hrow.out 1 _
            · exact (HA2.out _ _ rfl Hlf3.out).setCell c13 (by simp) _
            · exact ⟨hq5, s5, r5, blk_far Hcch.out (by rintro rfl; have := Hrow.out.symm.trans Hcch.out; cases this) _⟩
            · intro _ a ha
              obtain ⟨a0, h0', hb0⟩ := HA2b.out a ha
              refine ⟨fun hb => ?_, hb0 ▸ (Hap2.out a0 h0').2⟩
              rcases HAt.out with h | h
              · rw [h, ← hb0] at hb
                exact (Hap2.out a0 h0').1 hb
              · rw [h] at hb
                have := hlfl.out a0 h0'
                simp only [Option.some.injEq] at hb
                omega
          have HD2 := Lib.hid hD2
          clear hD2 hown2
          go_roundw
          case rel => exact ⟨_, _, _, _, _, _, _, _, _, _, _, _, _, _, _, _, _, _, _, _, _, _, _, _, _, _, _, _, _, _, _, _, _, _, _, _, _, _, _, _, _, _, _, _, _, _, ⟨A3, m + k, c3, rfl, HD2⟩, rfl⟩
          case measure => show n - (m + k) < n - m; omega
    · obtain rfl : m = n := by omega
      have hfin := Hgo.out
      rw [Nat.sub_self] at hfin
      have c4 : wr.cell? ⟨tb, 4, none⟩ = some (.int .i64 at_) := blk_cell Hrow.out 4 rfl
      have f4 : wr.frozen? ⟨tb, 4, none⟩ = false := frozen_row Hrow.out 4
      have Hfin := Lib.hid hfin
      clear hfin Hgo
      go_wp2
      go_ret
      obtain ⟨h5, s5, r5, h6⟩ := Hwt.out
      have hkf : Kp [tb, cb] w (wr.setCell ⟨tb, 4, none⟩ (.int .i64 ((at_ : Int) + m))) := ((H3.out.mono (T := [tb, cb]) (by simp)).then Kr.out).setCell (p := ⟨tb, 4, none⟩) (by simp) _
      have hfst : (tDraw F R seed m left p) = (o, l, p1) := Hfin.out.symm
      rw [hfst]
      refine ⟨A, c, cb, rfl, (Ho.out.lower H3.out.size).setCell (Ho.out.ne Hrow.out (by decide)) _, ⟨lA, lc, q1, bg1, blk_set Hrow.out 4 _, (Hfa.out.apart Kr.out Hnb.out).setCell c4 (by simp) _, Hlf.out.setCell c4 (by simp) _, h5, s5, r5, blk_far h6 (by rintro rfl; have := Hrow.out.symm.trans h6; cases this) _⟩, H2.out, ?_, ?_⟩
      rotate_left
      · intro A' n' c' a' hc' h0' ha'
        have hc2 := hc'.symm.trans (blk_cell (blk_set Hrow.out 4 (.int .i64 ((at_ : Int) + m))) 1 rfl)
        simp only [Option.some.injEq, Value.slice.injEq] at hc2
        obtain ⟨rfl, rfl, rfl⟩ := hc2
        exact Hap.out h0' a' ha'
      refine hkf.mono ?_
      rcases H2.out with h | ⟨h, h'⟩
      · rw [h]; simp
      · rw [h]; intro x hx hlt; simp at hx ⊢; rcases hx with rfl | rfl
        · rfl
        · omega
theorem draw_any2 (G : Nat → Prop) (F R : List Int) (tb : Nat) (ch : Option Nat) (sA : Option Addr) (sc : Nat) (seed left : List Int) (p at_ n : Nat) (w : World) (hTb : Tabs F R w) (hT : IsT F R w tb ch sA sc seed left p at_) (hl : seed.length ≤ 10000000000000) (hll : left.length ≤ 10000000000000) (h0 : 0 < n) (hn : n ≤ 65536) (hp : p ≤ 9007199254600000) (hat : at_ ≤ 9007199254600000) (hG : LeftIn w tb G) (hGn : ∀ b, w.heap.size ≤ b → G b) :
    Calls Tryd.prog 14 #[.pointer (some ⟨tb, 0, none⟩), .int .i64 n] w fun e w' => ∃ A c cb, e = .returned (.slice A n c) ∧ Own w' w.heap.size (.slice A n c) (tDraw F R seed n left p).1 ∧
      IsT F R w' tb (some cb) sA sc seed (tDraw F R seed n left p).2.1 (tDraw F R seed n left p).2.2 (at_ + n) ∧ (ch = some cb ∨ (ch = none ∧ w.heap.size ≤ cb)) ∧ Kp (tb :: ch.toList) w w' ∧ LeftIn w' tb G := by
  refine (draw_any3 G F R tb ch sA sc seed left p at_ n w hTb hT hl hll h0 hn hp hat hG hGn).mono ?_
  rintro e w' ⟨A, c, cb, h1, h2, h3, h4, h5, h6⟩
  exact ⟨A, c, cb, h1, h2, h3, h4, h5, fun A' n' c' a' q1 q2 q3 => (h6 A' n' c' a' q1 q2 q3).2⟩
theorem draw_any (F R : List Int) (tb : Nat) (ch : Option Nat) (sA : Option Addr) (sc : Nat) (seed left : List Int) (p at_ n : Nat) (w : World) (hTb : Tabs F R w) (hT : IsT F R w tb ch sA sc seed left p at_) (hl : seed.length ≤ 10000000000000) (hll : left.length ≤ 10000000000000) (h0 : 0 < n) (hn : n ≤ 65536) (hp : p ≤ 9007199254600000) (hat : at_ ≤ 9007199254600000) :
    Calls Tryd.prog 14 #[.pointer (some ⟨tb, 0, none⟩), .int .i64 n] w fun e w' => ∃ A c cb, e = .returned (.slice A n c) ∧ Own w' w.heap.size (.slice A n c) (tDraw F R seed n left p).1 ∧
      IsT F R w' tb (some cb) sA sc seed (tDraw F R seed n left p).2.1 (tDraw F R seed n left p).2.2 (at_ + n) ∧ (ch = some cb ∨ (ch = none ∧ w.heap.size ≤ cb)) ∧ Kp (tb :: ch.toList) w w' := by
  refine (draw_any2 (fun _ => True) F R tb ch sA sc seed left p at_ n w hTb hT hl hll h0 hn hp hat (fun _ _ _ _ _ _ _ => trivial) (fun _ _ => trivial)).mono ?_
  rintro e w' ⟨A, c, cb, h1, h2, h3, h4, h5, _⟩
  exact ⟨A, c, cb, h1, h2, h3, h4, h5⟩
end Go.Proofs.YtiboflejmnjdhaaDoor
end
