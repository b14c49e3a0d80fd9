/- The ideal mode: open. -/
import Derived.Test.YthgnccgablploaaIdeal2
import Derived.Lib.ConvBytes
set_option linter.unusedVariables false
set_option linter.unusedSimpArgs false
set_option maxRecDepth 100000
namespace Go.Proofs.Ythgnccgablploaa
open Go Go.RowKit Go.Conc
/-- A string's bytes. -/
def numsOf (s : ByteArray) : List Int := s.data.toList.map fun b => (b.toNat : Int)
theorem numsOf_length (s : ByteArray) : (numsOf s).length = s.size := by
  rw [numsOf, List.length_map, Array.length_toList]; rfl
theorem strOf_numsOf (s : ByteArray) : strOfNums (numsOf s) = s := by
  obtain ⟨d⟩ := s
  have h : ((fun n : Int => UInt8.ofNat n.toNat) ∘ fun b : UInt8 => (b.toNat : Int)) = id := by
    funext b
    show UInt8.ofNat ((b.toNat : Int)).toNat = b
    rw [Int.toNat_natCast, UInt8.ofNat_toNat]
  show ByteArray.mk ((List.map _ (List.map _ d.toList)).toArray) = ByteArray.mk d
  rw [List.map_map, h, List.map_id, Array.toArray_toList]
theorem conv_bytes (s : ByteArray) (w : World) (hs : s.size ≤ 140737488355328) : ∃ c w1, (convert 9 22 (.string s)).run Try.prog w = .ok (.slice (some ⟨w.heap.size, 0, none⟩) s.size c) w1 ∧ Rd w1 (some ⟨w.heap.size, 0, none⟩) c (numsOf s) ∧ Below w.heap.size w w1 := by
  refine ⟨_, _, Lib.run_convert_string_bytes w 9 22 5 s Try.underlying9 Try.underlying22 Try.underlying5, ⟨?_, ?_, by simp, fun _ => ⟨_, 0, rfl, fun j hj => ?_⟩⟩, ?_⟩
  · rw [numsOf_length]; exact grownCap_ge w s.size 0 5
  · have := grownCap_le_maxLen w s.size 0 5 (by simp only [maxLen]; omega)
    simpa only [maxLen] using this
  · rw [numsOf_length] at hj
    rw [Nat.zero_add, Lib.bytesWorld_cell w 5 s j hj]
    have hj2 : j < s.data.size := hj
    simp [numsOf, List.getD, hj2, Array.getElem?_eq_getElem hj2]
  · refine ⟨?_, ?_, ?_, ?_, fun k hk => Lib.bytesWorld_at_old w 5 s k hk⟩
    · rfl
    · rfl
    · rfl
    · rw [Lib.bytesWorld_size]; omega
theorem yields_conv {P : Program} {o : Oper} {a : Act} {W : World} (tf tt : TypeId) (x : Operand) (ho : o.op = .convert tf tt x) (vx v : Value) (hx : a.eval x = vx) (h : (convert tf tt vx).run P W = .ok v W) : (execOp a.eval o).run P W = .ok (.value v) W := by
  unfold execOp
  simp [ho, hx, h]
theorem iopen_any (F R : List Int) (ib : Nat) (seed : List Int) (s : St) (own : List Nat) (ep : Int) (hA : Option Addr) (hn hc : Nat) (hd : List Int) (bA : Option Addr) (bn bc : Nat) (bs : List Int) (w : World) (hI : IsI F R w ib seed s own) (hhn : hn = hd.length) (hh : Rd w hA hc hd) (hbn : bn = bs.length) (hb : Rd w bA bc bs) :
    Calls Try.prog 43 #[.pointer (some ⟨ib, 0, none⟩), .int .i64 ep, .slice hA hn hc, .slice bA bn bc] w fun e w' => ∃ A n c, e = .returned (.tuple #[.slice A n c, .int .i64 (if (mget (ep, strOfNums hd, strOfNums bs) s.bx).isSome then 0 else 80)]) ∧ ∃ xs : List Int, n = xs.length ∧ Rd w' A c xs ∧ (∀ pl, mget (ep, strOfNums hd, strOfNums bs) s.bx = some pl → strOfNums xs = pl) ∧ Below w.heap.size w w' := by
  obtain ⟨tb, ch, sA, sc, mn, mb, rfl, h1, h2, h3, h4, h5⟩ := hI.ex
  have Hlb := Lib.hid hI.lenb
  have Hh := Lib.hid hh
  have Hb := Lib.hid hb
  have Hhn := Lib.hid hhn
  have Hbn := Lib.hid hbn
  have H1 := Lib.hid h1
  have H4 := Lib.hid h4
  have hf : ∃ fv fb, found (ep, strOfNums hd, strOfNums bs) s.bx Value.string (.string ByteArray.empty) = .tuple #[.string fv, .bool fb] ∧ fb = (mget (ep, strOfNums hd, strOfNums bs) s.bx).isSome ∧ (∀ pl, mget (ep, strOfNums hd, strOfNums bs) s.bx = some pl → fv = pl) ∧ fv.size ≤ 65536 := by
    unfold found
    cases h : mget (ep, strOfNums hd, strOfNums bs) s.bx with
    | none => exact ⟨_, _, rfl, rfl, by simp, by decide⟩
    | some v => exact ⟨_, _, rfl, rfl, by simp, hI.lenb _ _ h⟩
  obtain ⟨fv, fb, hf, hfb, hfv, hfs⟩ := hf
  have Hf := Lib.hid hf
  obtain ⟨r, hr⟩ : ∃ r, r = mget (ep, strOfNums hd, strOfNums bs) s.bx := ⟨_, rfl⟩
  rw [← hr] at hfb hfv ⊢
  have Hfb := Lib.hid hfb
  have Hfv := Lib.hid hfv
  obtain ⟨er, her⟩ : ∃ er : Int, er = if r.isSome then 0 else 80 := ⟨_, rfl⟩
  rw [← her]
  have Her := Lib.hid her
  clear her hI h1 h2 h3 h4 h5 hh hb hhn hbn hr hf hfb hfv
  go_enter Try.func43, Try.ntmps43
  go_upto_region 1 with (fail)
  refine seg_begin (fun W => Rd W hA hc hd ∧ Rd W bA bc bs) [5, 7] (by kernel_rfl) ?_
  have HS : Hid (Rd w.drew hA hc hd ∧ Rd w.drew bA bc bs) := Lib.hid ⟨Hh.out.drewN 1, Hb.out.drewN 1⟩
  have H1d : Hid (w.drew.heap[ib]? = some (.cells (irow tb mn mb) 57 (0, 0))) := Lib.hid H1.out
  have H4d : Hid (IsTb w.drew mb kvb Value.string s.bx) := Lib.hid (H4.out.below (Below.refl _ w).drew)
  have HBd : Hid (Below w.heap.size w w.drew) := Lib.hid (Below.refl _ w).drew
  clear H1 H4 Hh Hb
  generalize w.drew = wd at *
  have c2 : Hid (wd.cell? ⟨ib, 2, none⟩ = some (.map mb)) := Lib.hid (blk_cell H1d.out 2 rfl)
  (refine seg_take 0 ?_ rfl (by kernel_rfl) (by kernel_rfl) (by kernel_rfl) (by kernel_rfl) (by kernel_rfl) rfl (fun _ _ _ h => h) rfl ?_ ?_; rotate_left; (focus (intro w; go_simp; try with_reducible rfl)); (try simp only [List.getElem_toArray, List.getElem_cons_zero, List.getElem_cons_succ, Act.put, List.setIfInBounds_toArray, List.set_cons_zero, List.set_cons_succ]); refine seg_take 1 ?_ rfl (by kernel_rfl) (by kernel_rfl) (by kernel_rfl) (by kernel_rfl) (by kernel_rfl) rfl (fun _ _ _ h => h) rfl ?_ ?_; rotate_left; (focus (intro w; go_simp; try with_reducible rfl)); (try simp only [List.getElem_toArray, List.getElem_cons_zero, List.getElem_cons_succ, Act.put, List.setIfInBounds_toArray, List.set_cons_zero, List.set_cons_succ]); refine seg_take 2 ?_ rfl (by kernel_rfl) (by kernel_rfl) (by kernel_rfl) (by kernel_rfl) (by kernel_rfl) rfl (fun _ _ _ h => h) rfl ?_ ?_; rotate_left; (focus (intro w; go_simp; try with_reducible rfl)); (try simp only [List.getElem_toArray, List.getElem_cons_zero, List.getElem_cons_succ, Act.put, List.setIfInBounds_toArray, List.set_cons_zero, List.set_cons_succ]); refine seg_take 3 ?_ rfl (by kernel_rfl) (by kernel_rfl) (by kernel_rfl) (by kernel_rfl) (by kernel_rfl) rfl (fun _ _ _ h => h) rfl ?_ ?_; rotate_left; (focus (intro w; go_simp; try with_reducible rfl)); (try simp only [List.getElem_toArray, List.getElem_cons_zero, List.getElem_cons_succ, Act.put, List.setIfInBounds_toArray, List.set_cons_zero, List.set_cons_succ]); refine seg_take 4 ?_ rfl (by kernel_rfl) (by kernel_rfl) (by kernel_rfl) (by kernel_rfl) (by kernel_rfl) rfl (fun _ _ _ h => h) rfl ?_ ?_; rotate_left; (focus (intro w; go_simp; try with_reducible rfl)); (try simp only [List.getElem_toArray, List.getElem_cons_zero, List.getElem_cons_succ, Act.put, List.setIfInBounds_toArray, List.set_cons_zero, List.set_cons_succ]); refine seg_take 6 ?_ rfl (by kernel_rfl) (by kernel_rfl) (by kernel_rfl) (by kernel_rfl) (by kernel_rfl) rfl (fun _ _ _ h => h) rfl ?_ ?_; rotate_left; (focus (intro w; go_simp; try with_reducible rfl)); (try simp only [List.getElem_toArray, List.getElem_cons_zero, List.getElem_cons_succ, Act.put, List.setIfInBounds_toArray, List.set_cons_zero, List.set_cons_succ]))
  (refine seg_read 5 (.string (strOfNums hd)) rfl (by kernel_rfl) (by kernel_rfl) (by kernel_rfl) (by kernel_rfl) (by kernel_rfl) (by kernel_rfl) (fun _ _ _ h => h) rfl HS.out (fun W hW => yields_conv _ _ _ rfl _ _ rfl (conv_str hW.1 hn Hhn.out)) ?_; (try simp only [List.getElem_toArray, List.getElem_cons_zero, List.getElem_cons_succ, Act.put, List.setIfInBounds_toArray, List.set_cons_zero, List.set_cons_succ]))
  skip
  (refine seg_read 7 (.string (strOfNums bs)) rfl (by kernel_rfl) (by kernel_rfl) (by kernel_rfl) (by kernel_rfl) (by kernel_rfl) (by kernel_rfl) (fun _ _ _ h => h) rfl HS.out (fun W hW => yields_conv _ _ _ rfl _ _ rfl (conv_str hW.2 bn Hbn.out)) ?_; (try simp only [List.getElem_toArray, List.getElem_cons_zero, List.getElem_cons_succ, Act.put, List.setIfInBounds_toArray, List.set_cons_zero, List.set_cons_succ]))
  (refine seg_take 8 ?_ rfl (by kernel_rfl) (by kernel_rfl) (by kernel_rfl) (by kernel_rfl) (by kernel_rfl) rfl (fun _ _ _ h => h) rfl ?_ ?_; rotate_left; (focus (intro w; go_simp; try with_reducible rfl)); (try simp only [List.getElem_toArray, List.getElem_cons_zero, List.getElem_cons_succ, Act.put, List.setIfInBounds_toArray, List.set_cons_zero, List.set_cons_succ]))
  (refine anyB_step 9 rfl (by kernel_rfl) ?_; (try simp only [List.getElem_toArray, List.getElem_cons_zero, List.getElem_cons_succ]))
  go_wp2_with (go_at_call 49; go_must (refine (get_box ib 2 mb ep (strOfNums hd) (strOfNums bs) s.bx wd c2.out H4d.out).mono ?_; rintro e w1 ⟨he, h2⟩; rw [Hf.out] at he; subst he; have HB1 := Lib.hid h2; clear h2))
  refine ⟨nofun, ?_⟩
  (refine seg_take 10 ?_ rfl (by kernel_rfl) (by kernel_rfl) (by kernel_rfl) (by kernel_rfl) (by kernel_rfl) rfl (fun _ _ _ h => h) rfl ?_ ?_; rotate_left; (focus (intro w; go_simp; try with_reducible rfl)); (try simp only [List.getElem_toArray, List.getElem_cons_zero, List.getElem_cons_succ, Act.put, List.setIfInBounds_toArray, List.set_cons_zero, List.set_cons_succ]); refine seg_take 11 ?_ rfl (by kernel_rfl) (by kernel_rfl) (by kernel_rfl) (by kernel_rfl) (by kernel_rfl) rfl (fun _ _ _ h => h) rfl ?_ ?_; rotate_left; (focus (intro w; go_simp; try with_reducible rfl)); (try simp only [List.getElem_toArray, List.getElem_cons_zero, List.getElem_cons_succ, Act.put, List.setIfInBounds_toArray, List.set_cons_zero, List.set_cons_succ]); refine seg_take 12 ?_ rfl (by kernel_rfl) (by kernel_rfl) (by kernel_rfl) (by kernel_rfl) (by kernel_rfl) rfl (fun _ _ _ h => h) rfl ?_ ?_; rotate_left; (focus (intro w; go_simp; try with_reducible rfl)); (try simp only [List.getElem_toArray, List.getElem_cons_zero, List.getElem_cons_succ, Act.put, List.setIfInBounds_toArray, List.set_cons_zero, List.set_cons_succ]); refine seg_take 13 ?_ rfl (by kernel_rfl) (by kernel_rfl) (by kernel_rfl) (by kernel_rfl) (by kernel_rfl) rfl (fun _ _ _ h => h) rfl ?_ ?_; rotate_left; (focus (intro w; go_simp; try with_reducible rfl)); (try simp only [List.getElem_toArray, List.getElem_cons_zero, List.getElem_cons_succ, Act.put, List.setIfInBounds_toArray, List.set_cons_zero, List.set_cons_succ]); refine seg_take 14 ?_ rfl (by kernel_rfl) (by kernel_rfl) (by kernel_rfl) (by kernel_rfl) (by kernel_rfl) rfl (fun _ _ _ h => h) rfl ?_ ?_; rotate_left; (focus (intro w; go_simp; try with_reducible rfl)); (try simp only [List.getElem_toArray, List.getElem_cons_zero, List.getElem_cons_succ, Act.put, List.setIfInBounds_toArray, List.set_cons_zero, List.set_cons_succ]))
  (refine anyB_done (by kernel_rfl) ?_)
  have HB : Hid (Below w.heap.size w w1) := Lib.hid (HBd.out.trans (HB1.out.mono HBd.out.size))
  cases fb with
  | false =>
    have hr : r.isSome = false := Hfb.out.symm
    have Her2 : Hid (er = 80) := Lib.hid (by rw [Her.out, hr]; rfl)
    have Hrs := Lib.hid hr
    clear hr
    go_wp2
    go_ret2
    refine ⟨none, 0, 0, by rw [Her2.out]; rfl, [], rfl, Rd.none_ _, ?_, HB.out⟩
    intro pl h
    have hr := Hrs.out
    rw [h] at hr; cases hr
  | true =>
    have hr : r.isSome = true := Hfb.out.symm
    have Her2 : Hid (er = 0) := Lib.hid (by rw [Her.out, hr]; rfl)
    clear hr
    obtain ⟨c9, w9, hcv, hrd, hbl⟩ := conv_bytes fv w1 (by omega)
    have Hrd := Lib.hid hrd
    have Hbl := Lib.hid hbl
    clear hrd hbl
    go_wp2
    go_ret2
    refine ⟨some ⟨w1.heap.size, 0, none⟩, fv.size, c9, by rw [Her2.out]; rfl, numsOf fv, (numsOf_length fv).symm, Hrd.out, ?_, HB.out.trans (Hbl.out.mono HB.out.size)⟩
    intro pl h
    rw [strOf_numsOf]
    exact Hfv.out pl h
end Go.Proofs.Ythgnccgablploaa
