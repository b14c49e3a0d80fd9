/- Contracts of package mode: the table of names. -/
import Derived.Test.YtiboflejmnjdhaaDoorJH
import Derived.Laws.ResultCell
section
set_option linter.unusedVariables false
set_option linter.unusedSimpArgs false
set_option maxRecDepth 100000
namespace Go.Proofs.YtiboflejmnjdhaaDoor
open Go Go.RowKit
/-- A name's value. -/
def vvn (v : List Int) : Value := .agg (w8 v)
theorem zero_name (w : World) : (zeroValue 47).run Tryd.prog w = .ok (vvn (List.replicate 32 0)) w := by
  have h0 : (Tryd.prog.info? 47).bind (·.zero) = some (vvn (List.replicate 32 0)) := by kernel_rfl
  obtain ⟨i, hi, hz⟩ := Option.bind_eq_some_iff.1 h0
  simp [zeroValue, typeInfo, hi, hz]
theorem look_tb_name (mr : Option Nat) (k : ByteArray) (m : List (ByteArray × List Int)) (w : World) (hm : IsTb w mr Value.string vvn m) : (Instr.lookup 115 (.map mr) (.string k) true).run Tryd.prog w = .ok (found k m vvn (vvn (List.replicate 32 0))) w := by
  cases mr with
  | none =>
    have hm : m = [] := hm
    subst hm
    exact look_nil (V := Unit) 115 47 Tryd.underlying115 _ k w (zero_name w)
  | some r => exact look_str 115 47 Tryd.underlying115 vvn _ k m r w hm (zero_name w)
end Go.Proofs.YtiboflejmnjdhaaDoor
end
section
set_option linter.unusedVariables false
set_option linter.unusedSimpArgs false
set_option maxRecDepth 100000
namespace Go.Proofs.YtiboflejmnjdhaaDoor
open Go Go.RowKit
/-- A name's block, made anew. -/
abbrev z32 : Array Value := #[.int .u8 0, .int .u8 0, .int .u8 0, .int .u8 0, .int .u8 0, .int .u8 0, .int .u8 0, .int .u8 0, .int .u8 0, .int .u8 0, .int .u8 0, .int .u8 0, .int .u8 0, .int .u8 0, .int .u8 0, .int .u8 0, .int .u8 0, .int .u8 0, .int .u8 0, .int .u8 0, .int .u8 0, .int .u8 0, .int .u8 0, .int .u8 0, .int .u8 0, .int .u8 0, .int .u8 0, .int .u8 0, .int .u8 0, .int .u8 0, .int .u8 0, .int .u8 0]
theorem new_name {w w1 : World} (h : w.alloc (.cells z32 47) = w1) : Below w.heap.size w w1 ∧ w1.heap[w.heap.size]? = some (.cells z32 47 (0, 0)) := by
  subst h
  exact ⟨(Below.refl w.heap.size w).alloc (Nat.le_refl _) _, new_at rfl⟩
theorem results_cell_tmp_row {P : Program} {fn : Func} {p u : Tmp} {ty : TypeId} (h : fn.results = #[.cell p ty, .tmp u]) (tmps : Array Value) (w : World) (g : Nat) (t : TypeId) (cs : Array Value) (fr : Nat × Nat) (d : TypeDesc)
    (hp : tmps.getD p undef = .pointer (some ⟨g, 0, none⟩)) (hg : w.heap[g]? = some (.cells cs t fr))
    (hu : P.underlying ty = some d) (hd : (match d with | .struct _ | .array _ _ => true | _ => false) = true) (hi : (P.info? ty).map (·.size) = some cs.size) :
    (results fn tmps).run P w = .ok (.tuple #[.agg cs, tmps.getD u undef]) w := by
  rw [results_cell_tmp h, hp]
  simp [asAddr, run_loadVar_row w g t ty cs fr d hg hu hd hi]
theorem get_name (ib off : Nat) (mr : Option Nat) (k : ByteArray) (m : List (ByteArray × List Int)) (w : World) (hc : w.cell? ⟨ib, off, none⟩ = some (.map mr)) (hm : IsTb w mr Value.string vvn m) (hl : ∀ v, mget k m = some v → v.length = 32) :
    Calls Tryd.prog 126 #[.pointer (some ⟨ib, off, none⟩), .string k] w fun e w' => e = .returned (found k m vvn (vvn (List.replicate 32 0))) ∧ Below w.heap.size w w' := by
  have hlt := World.block_lt_of_cell? w _ hc
  obtain ⟨v, fb, hf, hv⟩ : ∃ v fb, found k m vvn (vvn (List.replicate 32 0)) = .tuple #[.agg (w8 v), .bool fb] ∧ v.length = 32 := by
    unfold found
    cases h : mget k m with
    | none => exact ⟨_, _, rfl, by simp⟩
    | some v => exact ⟨_, _, rfl, hl v h⟩
  have hlk : ∀ W, Below w.heap.size w W → (Instr.lookup 115 (.map mr) (.string k) true).run Tryd.prog W = .ok (.tuple #[.agg (w8 v), .bool fb]) W := fun W hW => by rw [← hf]; exact look_tb_name mr k m W (hm.below hW)
  rw [hf]
  have Hlk := Lib.hid hlk
  have hsz : Hid ((Tryd.prog.info? 47).map (·.size) = some (w8 v).size) := Lib.hid (by rw [w8_size, hv]; kernel_rfl)
  have hold : Hid (z32.size = (w8 v).size) := Lib.hid (by rw [w8_size, hv]; rfl)
  have Hc := Lib.hid hc
  clear hm hf hl hlk hc
  go_enter Tryd.func126, Tryd.ntmps126
  go_upto_region 1 with (fail)
  generalize hw1 : World.alloc w _ = w1
  have hn := new_name hw1
  have c1 : w1.cell? ⟨ib, off, none⟩ = some (.map mr) := (hn.1.cell (p := ⟨ib, off, none⟩) hlt).trans Hc.out
  have H1 := Lib.hid hn.2
  have HB := Lib.hid hn.1
  have hlt1 : ib < w1.heap.size := Nat.lt_of_lt_of_le hlt hn.1.size
  have hlk1 := Hlk.out w1 hn.1
  clear hw1 hn
  go_wp2_with (first
    | (with_reducible refine wpList_store_new rfl 47 _ _ rfl _ rfl rfl _ _ hsz.out hold.out (w8_one _) ?_)
    | (with_reducible refine wpList_load_row rfl 47 _ rfl w1.heap.size rfl _ _ (0, 0) _ (new_at rfl) Tryd.underlying47 rfl hsz.out ?_)
    | (with_reducible refine wpList_store_row rfl 47 _ _ rfl w.heap.size _ rfl rfl 47 z32 (blk_alloc H1.out _) hsz.out hold.out (w8_one _) ?_))
  refine bodyPost_ret (results_cell_tmp_row Tryd.results126 _ _ w.heap.size _ _ (0, 0) _ rfl (setRow_heap _ _ _ _ _ _ (blk_alloc H1.out _)) Tryd.underlying47 rfl hsz.out) rfl ⟨rfl, ?_⟩
  exact below_setRow (HB.out.alloc HB.out.size _) (Nat.le_refl _) _
end Go.Proofs.YtiboflejmnjdhaaDoor
end
section
set_option linter.unusedVariables false
set_option linter.unusedSimpArgs false
set_option maxRecDepth 100000
namespace Go.Proofs.YtiboflejmnjdhaaDoor
open Go Go.RowKit
theorem put_name (ib off : Nat) (t : TypeId) (row : Array Value) (mr : Option Nat) (k : ByteArray) (v : List Int) (m : List (ByteArray × List Int)) (w : World) (hr : w.heap[ib]? = some (.cells row t (0, 0))) (hc : row[off]? = some (.map mr)) (hm : IsTb w mr Value.string vvn m) (hv : v.length = 32) :
    Calls Tryd.prog 127 #[.pointer (some ⟨ib, off, none⟩), .string k, .agg (w8 v)] w fun e w' => e = .returned (.tuple #[]) ∧ ∃ r, IsTb w' (some r) Value.string vvn (mput k v m) ∧ w'.heap[ib]? = some (.cells (row.setIfInBounds off (.map (some r))) t (0, 0)) ∧ (mr = some r ∨ (mr = none ∧ w.heap.size ≤ r)) ∧ Kp (ib :: mr.toList) w w' := by
  have Hr := Lib.hid hr
  have Hm := Lib.hid hm
  have c1 : w.cell? ⟨ib, off, none⟩ = some (.map mr) := blk_cell hr off hc
  have hlt := blk_lt hr
  have f1 : w.frozen? ⟨ib, off, none⟩ = false := frozen_row hr off
  have heq := fun W => eql_map 115 _ _ Tryd.underlying115 mr W
  have hmk := make_map 115
  have hsz : Hid ((Tryd.prog.info? 47).map (·.size) = some (w8 v).size) := Lib.hid (by rw [w8_size, hv]; kernel_rfl)
  clear hr hm hc
  cases mr with
  | none =>
    go_enter Tryd.func127, Tryd.ntmps127
    go_wp2
    have hm0 : m = [] := Hm.out
    subst hm0
    refine seg_begin (fun W => W.cell? ⟨ib, off, none⟩ = some (.map (some (w.heap.size + 1))) ∧ Hid (W.heap[w.heap.size]? = some (.cells (w8 v) 47 (0, 0)))) [3, 5] (by kernel_rfl) ?_
    have hrow := blk_alloc (blk_alloc (blk_set Hr.out off (.map (some (w.heap.size + 1)))) (.cells (w8 v) 47)) (.map #[] 0)
    generalize hwd : World.drew _ = wd
    have hrd : wd.heap[ib]? = some (.cells (row.setIfInBounds off (.map (some (w.heap.size + 1)))) t (0, 0)) := by rw [← hwd]; exact hrow
    have hkd : wd.heap[w.heap.size]? = some (.cells (w8 v) 47 (0, 0)) := by rw [← hwd]; exact blk_alloc (new_at (by simp [World.setCell])) _
    have hmd : wd.heap[w.heap.size + 1]? = some (.map #[] 0) := by rw [← hwd]; exact new_at (by simp [World.setCell])
    have hkp : Kp [ib] w wd := by rw [← hwd]; exact ((((Kp.refl [ib] w).setCell (p := ⟨ib, off, none⟩) (by simp) _).alloc _).alloc _).drewN 1
    have hcd : wd.cell? ⟨ib, off, none⟩ = some (.map (some (w.heap.size + 1))) := by
      refine blk_cell hrd off ?_
      have := (cell_in_row Hr.out c1)
      simp [Array.getElem?_setIfInBounds, this]
    have HS : Hid (wd.cell? ⟨ib, off, none⟩ = some (.map (some (w.heap.size + 1))) ∧ Hid (wd.heap[w.heap.size]? = some (.cells (w8 v) 47 (0, 0)))) := Lib.hid ⟨hcd, Lib.hid hkd⟩
    obtain ⟨es, cl, hup, hes⟩ := upd_str 115 47 Tryd.underlying115 vvn k v [] (w.heap.size + 1) wd ⟨#[], 0, hmd, rfl⟩
    have Hup := Lib.hid hup
    have Hes := Lib.hid hes
    have Hkp := Lib.hid hkp
    have Hrd := Lib.hid hrd
    have Hmd := Lib.hid hmd
    clear hup hes hkp hrd hmd hkd hcd hwd hrow c1 f1
    (refine seg_take 0 ?_ rfl (by kernel_rfl) (by kernel_rfl) (by kernel_rfl) (by kernel_rfl) (by kernel_rfl) rfl (fun _ _ _ h => h) rfl ?_ ?_; rotate_left; (focus (intro w; go_simp; try with_reducible rfl)); (try simp only [List.getElem_toArray, List.getElem_cons_zero, List.getElem_cons_succ, Act.put, List.setIfInBounds_toArray, List.set_cons_zero, List.set_cons_succ]); refine seg_take 1 ?_ rfl (by kernel_rfl) (by kernel_rfl) (by kernel_rfl) (by kernel_rfl) (by kernel_rfl) rfl (fun _ _ _ h => h) rfl ?_ ?_; rotate_left; (focus (intro w; go_simp; try with_reducible rfl)); (try simp only [List.getElem_toArray, List.getElem_cons_zero, List.getElem_cons_succ, Act.put, List.setIfInBounds_toArray, List.set_cons_zero, List.set_cons_succ]); refine seg_take 2 ?_ rfl (by kernel_rfl) (by kernel_rfl) (by kernel_rfl) (by kernel_rfl) (by kernel_rfl) rfl (fun _ _ _ h => h) rfl ?_ ?_; rotate_left; (focus (intro w; go_simp; try with_reducible rfl)); (try simp only [List.getElem_toArray, List.getElem_cons_zero, List.getElem_cons_succ, Act.put, List.setIfInBounds_toArray, List.set_cons_zero, List.set_cons_succ]); refine seg_take 4 ?_ rfl (by kernel_rfl) (by kernel_rfl) (by kernel_rfl) (by kernel_rfl) (by kernel_rfl) rfl (fun _ _ _ h => h) rfl ?_ ?_; rotate_left; (focus (intro w; go_simp; try with_reducible rfl)); (try simp only [List.getElem_toArray, List.getElem_cons_zero, List.getElem_cons_succ, Act.put, List.setIfInBounds_toArray, List.set_cons_zero, List.set_cons_succ]); refine seg_read 3 ?_ rfl (by kernel_rfl) (by kernel_rfl) (by kernel_rfl) (by kernel_rfl) (by kernel_rfl) (by kernel_rfl) (fun _ _ _ h => h) rfl HS.out ?_ ?_; rotate_left; (focus (intro w hSw; (try dsimp only at hSw); go_split_ands; go_simp; try with_reducible rfl)); (try simp only [List.getElem_toArray, List.getElem_cons_zero, List.getElem_cons_succ, Act.put, List.setIfInBounds_toArray, List.set_cons_zero, List.set_cons_succ]))
    (refine seg_read 5 (.agg (w8 v)) rfl (by kernel_rfl) (by kernel_rfl) (by kernel_rfl) (by kernel_rfl) (by kernel_rfl) (by kernel_rfl) (fun _ _ _ h => h) rfl HS.out (fun W hW => yields_load_row 47 _ rfl w.heap.size rfl _ _ _ _ hW.2.out Tryd.underlying47 rfl hsz.out) ?_; (try simp only [List.getElem_toArray, List.getElem_cons_zero, List.getElem_cons_succ, Act.put, List.setIfInBounds_toArray, List.set_cons_zero, List.set_cons_succ]))
    skip
    (refine anyB_step 6 rfl (by kernel_rfl) ?_; (try simp only [List.getElem_toArray, List.getElem_cons_zero, List.getElem_cons_succ]))
    have hup : (Instr.mapUpdate 115 (.map (some (w.heap.size + 1))) (.string k) (.agg (w8 v))).run Tryd.prog wd = .ok () (setMap wd (w.heap.size + 1) es cl) := Hup.out
    go_wp2
    refine ⟨nofun, ?_⟩
    (refine anyB_done (by kernel_rfl) ?_)
    go_end0
    have hlt2 := blk_lt Hmd.out
    refine ⟨rfl, w.heap.size + 1, ⟨es, cl, ?_, Hes.out⟩, ?_, .inr ⟨trivial, by omega⟩, ?_⟩
    · simp [setMap, hlt2]
    · simp only [setMap]; rw [Array.getElem?_setIfInBounds_ne (by omega)]; exact Hrd.out
    · exact Hkp.out.trans (T := [w.heap.size + 1]) ⟨rfl, rfl, rfl, by simp [setMap], fun j _ hj => by simp only [setMap]; rw [Array.getElem?_setIfInBounds_ne (by simp at hj; omega)]⟩ (by intro x hx hl; simp at hx; omega)
  | some r =>
    have c1' := c1
    go_enter Tryd.func127, Tryd.ntmps127
    go_wp2
    refine seg_begin (fun W => W.cell? ⟨ib, off, none⟩ = some (.map (some r)) ∧ Hid (W.heap[w.heap.size]? = some (.cells (w8 v) 47 (0, 0)))) [3, 5] (by kernel_rfl) ?_
    generalize hwd : World.drew _ = wd
    have hB := (alloc_drew hwd).1
    have hrd : wd.heap[ib]? = some (.cells row t (0, 0)) := below_at hB Hr.out hlt
    have hkd := (alloc_drew hwd).2
    have hmd : IsM wd r Value.string vvn m := Hm.out.below hB
    have HS : Hid (wd.cell? ⟨ib, off, none⟩ = some (.map (some r)) ∧ Hid (wd.heap[w.heap.size]? = some (.cells (w8 v) 47 (0, 0)))) := Lib.hid ⟨(hB.cell (p := ⟨ib, off, none⟩) hlt).trans c1, Lib.hid hkd⟩
    obtain ⟨es, cl, hup, hes⟩ := upd_str 115 47 Tryd.underlying115 vvn k v m r wd hmd
    have hrl : r < wd.heap.size := by obtain ⟨_, _, h, _⟩ := hmd; exact blk_lt h
    have hri : ib ≠ r := by rintro rfl; obtain ⟨_, _, h, _⟩ := hmd; have := hrd.symm.trans h; cases this
    have hset : row.setIfInBounds off (.map (some r)) = row := by
      have hin := cell_in_row Hr.out c1
      have hv : row[off]? = some (.map (some r)) := by simpa [World.cell?, Hr.out] using c1
      apply Array.ext
      · simp
      · intro j h1 h2
        rw [Array.getElem_setIfInBounds (by simpa using h1)]
        split
        · rename_i h; subst h; rw [Array.getElem?_eq_getElem hin] at hv; exact (Option.some.inj hv).symm
        · rfl
    have Hup := Lib.hid hup
    have Hes := Lib.hid hes
    have Hkp := Lib.hid (Kp.of_below (S := ib :: (some r).toList) hB)
    have Hrd := Lib.hid hrd
    have Hset := Lib.hid hset
    clear hup hes hrd hmd hkd hwd c1 f1 hB hset c1'
    (refine seg_take 0 ?_ rfl (by kernel_rfl) (by kernel_rfl) (by kernel_rfl) (by kernel_rfl) (by kernel_rfl) rfl (fun _ _ _ h => h) rfl ?_ ?_; rotate_left; (focus (intro w; go_simp; try with_reducible rfl)); (try simp only [List.getElem_toArray, List.getElem_cons_zero, List.getElem_cons_succ, Act.put, List.setIfInBounds_toArray, List.set_cons_zero, List.set_cons_succ]); refine seg_take 1 ?_ rfl (by kernel_rfl) (by kernel_rfl) (by kernel_rfl) (by kernel_rfl) (by kernel_rfl) rfl (fun _ _ _ h => h) rfl ?_ ?_; rotate_left; (focus (intro w; go_simp; try with_reducible rfl)); (try simp only [List.getElem_toArray, List.getElem_cons_zero, List.getElem_cons_succ, Act.put, List.setIfInBounds_toArray, List.set_cons_zero, List.set_cons_succ]); refine seg_take 2 ?_ rfl (by kernel_rfl) (by kernel_rfl) (by kernel_rfl) (by kernel_rfl) (by kernel_rfl) rfl (fun _ _ _ h => h) rfl ?_ ?_; rotate_left; (focus (intro w; go_simp; try with_reducible rfl)); (try simp only [List.getElem_toArray, List.getElem_cons_zero, List.getElem_cons_succ, Act.put, List.setIfInBounds_toArray, List.set_cons_zero, List.set_cons_succ]); refine seg_take 4 ?_ rfl (by kernel_rfl) (by kernel_rfl) (by kernel_rfl) (by kernel_rfl) (by kernel_rfl) rfl (fun _ _ _ h => h) rfl ?_ ?_; rotate_left; (focus (intro w; go_simp; try with_reducible rfl)); (try simp only [List.getElem_toArray, List.getElem_cons_zero, List.getElem_cons_succ, Act.put, List.setIfInBounds_toArray, List.set_cons_zero, List.set_cons_succ]); refine seg_read 3 ?_ rfl (by kernel_rfl) (by kernel_rfl) (by kernel_rfl) (by kernel_rfl) (by kernel_rfl) (by kernel_rfl) (fun _ _ _ h => h) rfl HS.out ?_ ?_; rotate_left; (focus (intro w hSw; (try dsimp only at hSw); go_split_ands; go_simp; try with_reducible rfl)); (try simp only [List.getElem_toArray, List.getElem_cons_zero, List.getElem_cons_succ, Act.put, List.setIfInBounds_toArray, List.set_cons_zero, List.set_cons_succ]))
    (refine seg_read 5 (.agg (w8 v)) rfl (by kernel_rfl) (by kernel_rfl) (by kernel_rfl) (by kernel_rfl) (by kernel_rfl) (by kernel_rfl) (fun _ _ _ h => h) rfl HS.out (fun W hW => yields_load_row 47 _ rfl w.heap.size rfl _ _ _ _ hW.2.out Tryd.underlying47 rfl hsz.out) ?_; (try simp only [List.getElem_toArray, List.getElem_cons_zero, List.getElem_cons_succ, Act.put, List.setIfInBounds_toArray, List.set_cons_zero, List.set_cons_succ]))
    skip
    (refine anyB_step 6 rfl (by kernel_rfl) ?_; (try simp only [List.getElem_toArray, List.getElem_cons_zero, List.getElem_cons_succ]))
    have hup : (Instr.mapUpdate 115 (.map (some r)) (.string k) (.agg (w8 v))).run Tryd.prog wd = .ok () (setMap wd r es cl) := Hup.out
    go_wp2
    refine ⟨nofun, ?_⟩
    (refine anyB_done (by kernel_rfl) ?_)
    go_end0
    refine ⟨rfl, r, ⟨es, cl, ?_, Hes.out⟩, ?_, .inl rfl, ?_⟩
    · simp [setMap, hrl]
    · rw [Hset.out]; simp only [setMap]; rw [Array.getElem?_setIfInBounds_ne (fun e => hri e.symm)]; exact Hrd.out
    · exact Hkp.out.trans (T := [r]) ⟨rfl, rfl, rfl, by simp [setMap], fun j _ hj => by simp only [setMap]; rw [Array.getElem?_setIfInBounds_ne (by simp at hj; omega)]⟩ (by simp)
end Go.Proofs.YtiboflejmnjdhaaDoor
end
