/- The ideal mode: name. -/
import Derived.Test.YthgnccgablploaaIdealD
import Derived.Deep.MidRow
set_option linter.unusedVariables false
set_option linter.unusedSimpArgs false
set_option maxRecDepth 100000
namespace Go.Proofs.Ythgnccgablploaa
open Go Go.RowKit Go.Conc
theorem iname_any2 (X : Nat → Prop) (F R : List Int) (ib : Nat) (seed : List Int) (s : St) (own : List Nat) (kA : Option Addr) (kn kc : Nat) (key : List Int) (w : World)
    (hX : ∀ b, X b → b < w.heap.size) (hTb : Tabs F R w) (hIo : IsIo X F R w ib seed s own) (hl : seed.length ≤ 10000000000000) (hll : s.left.length ≤ 10000000000000) (hp : s.p ≤ 9007199254600000) (hat : s.at_ ≤ 9007199254600000)
    (hkn : kn = key.length) (hk : Rd w kA kc key) :
    Calls Try.prog 42 #[.pointer (some ⟨ib, 0, none⟩), .slice kA kn kc] w fun e w' => e = .returned (vvn (inm F R seed s (strOfNums key)).1) ∧ (∃ own', IsIo X F R w' ib seed (inm F R seed s (strOfNums key)).2 own' ∧ Fresh w own own') ∧ Kp own w w' := by
  have hI := hIo.isI
  have HIo := Lib.hid hIo
  clear hIo
  obtain ⟨tb, ch, sA, sc, mn, mb, ho, h1, h2, h3, h4, h5⟩ := hI.ex
  obtain ⟨r, hr⟩ : ∃ r, r = mget (strOfNums key) s.nm := ⟨_, rfl⟩
  obtain ⟨v, fb, hf, hv, hfb, hfv⟩ : ∃ v fb, found (strOfNums key) s.nm vvn (vvn (List.replicate 32 0)) = .tuple #[.agg (w8 v), .bool fb] ∧ v.length = 32 ∧ fb = r.isSome ∧ ∀ x, r = some x → v = x := by
    rw [hr]
    unfold found
    cases h : mget (strOfNums key) s.nm with
    | none => exact ⟨_, _, rfl, by simp, rfl, by simp⟩
    | some v => exact ⟨_, _, rfl, hI.len _ _ h, rfl, by simp⟩
  have HI := Lib.hid hI
  have HTb := Lib.hid hTb
  have Hk := Lib.hid hk
  have Hkn := Lib.hid hkn
  have H1 := Lib.hid h1
  have H3 := Lib.hid h3
  have Hf := Lib.hid hf
  have Hv := Lib.hid hv
  have Hr := Lib.hid hr
  have Hfb := Lib.hid hfb
  have Hfv := Lib.hid hfv
  have hsz : Hid ((Try.prog.info? 43).map (·.size) = some (w8 v).size) := Lib.hid (by rw [w8_size, hv]; kernel_rfl)
  have hold : Hid (z32.size = (w8 v).size) := Lib.hid (by rw [w8_size, hv]; rfl)
  clear hTb hI hk hkn ho h1 h2 h3 h4 h5 hr hf hv hfb hfv
  go_enter Try.func42, Try.ntmps42
  go_upto_region 1 with (fail)
  generalize hw1 : World.alloc w _ = w1
  have hn := new_name hw1
  have HN := Lib.hid hn.2
  have HB := Lib.hid hn.1
  have hz : w1.heap.size = w.heap.size + 1 := by rw [← hw1]; simp
  have Hz := Lib.hid hz
  clear hw1 hn hz
  go_cut [5, 6] from 7 to 33 (fun s5 s6 wx => ∃ nb : Nat, s5 = .pointer (some ⟨nb, 0, none⟩) ∧ s6 = .bool fb ∧ Hid (w1.heap.size ≤ nb ∧ wx.heap[nb]? = some (.cells (w8 v) 43 (0, 0)) ∧ Below w1.heap.size w1 wx))
  case first =>
    refine seg_begin (fun W => Rd W kA kc key) [4, 9] (by kernel_rfl) ?_
    have HS : Hid (Rd w1.drew kA kc key) := Lib.hid ((Hk.out.below HB.out).drewN 1)
    have H1d : Hid (w1.drew.cell? ⟨ib, 1, none⟩ = some (.map mn)) := Lib.hid (blk_cell (below_at HB.out H1.out (blk_lt H1.out)) 1 rfl)
    have H3d : Hid (IsTb w1.drew mn Value.string vvn s.nm) := Lib.hid ((H3.out.below HB.out).below (Below.refl _ w1).drew)
    have HBd : Hid (Below w1.heap.size w1 w1.drew) := Lib.hid (Below.refl _ w1).drew
    generalize w1.drew = wd at *
    (refine seg_take 0 ?_ rfl (by kernel_rfl) (by kernel_rfl) (by kernel_rfl) (by kernel_rfl) (by kernel_rfl) rfl (fun _ _ _ h => h) rfl ?_ ?_; rotate_left; (focus (intro w; go_simp; try with_reducible rfl)); (try simp only [List.getElem_toArray, List.getElem_cons_zero, List.getElem_cons_succ, Act.put, List.setIfInBounds_toArray, List.set_cons_zero, List.set_cons_succ]); refine seg_take 1 ?_ rfl (by kernel_rfl) (by kernel_rfl) (by kernel_rfl) (by kernel_rfl) (by kernel_rfl) rfl (fun _ _ _ h => h) rfl ?_ ?_; rotate_left; (focus (intro w; go_simp; try with_reducible rfl)); (try simp only [List.getElem_toArray, List.getElem_cons_zero, List.getElem_cons_succ, Act.put, List.setIfInBounds_toArray, List.set_cons_zero, List.set_cons_succ]); refine seg_take 2 ?_ rfl (by kernel_rfl) (by kernel_rfl) (by kernel_rfl) (by kernel_rfl) (by kernel_rfl) rfl (fun _ _ _ h => h) rfl ?_ ?_; rotate_left; (focus (intro w; go_simp; try with_reducible rfl)); (try simp only [List.getElem_toArray, List.getElem_cons_zero, List.getElem_cons_succ, Act.put, List.setIfInBounds_toArray, List.set_cons_zero, List.set_cons_succ]); refine seg_take 3 ?_ rfl (by kernel_rfl) (by kernel_rfl) (by kernel_rfl) (by kernel_rfl) (by kernel_rfl) rfl (fun _ _ _ h => h) rfl ?_ ?_; rotate_left; (focus (intro w; go_simp; try with_reducible rfl)); (try simp only [List.getElem_toArray, List.getElem_cons_zero, List.getElem_cons_succ, Act.put, List.setIfInBounds_toArray, List.set_cons_zero, List.set_cons_succ]))
    (refine seg_read 4 (.string (strOfNums key)) rfl (by kernel_rfl) (by kernel_rfl) (by kernel_rfl) (by kernel_rfl) (by kernel_rfl) (by kernel_rfl) (fun _ _ _ h => h) rfl HS.out (fun W hW => yields_conv _ _ _ rfl _ _ rfl (conv_str hW kn Hkn.out)) ?_; (try simp only [List.getElem_toArray, List.getElem_cons_zero, List.getElem_cons_succ, Act.put, List.setIfInBounds_toArray, List.set_cons_zero, List.set_cons_succ]))
    skip
    refine anyB_two 5 9 rfl rfl (by kernel_rfl) ?_ ?_
    · go_wp2_with (go_at_call 46; go_must (refine (get_name ib 1 mn (strOfNums key) s.nm wd H1d.out H3d.out (HI.out.len _)).mono ?_; rintro e w2 ⟨he, h2⟩; rw [Hf.out] at he; subst he; have HB1 := Lib.hid h2; clear h2))
      refine ⟨nofun, ?_⟩
      (refine seg_take 6 ?_ rfl (by kernel_rfl) (by kernel_rfl) (by kernel_rfl) (by kernel_rfl) (by kernel_rfl) rfl (fun _ _ _ h => h) rfl ?_ ?_; rotate_left; (focus (intro w; go_simp; try with_reducible rfl)); (try simp only [List.getElem_toArray, List.getElem_cons_zero, List.getElem_cons_succ, Act.put, List.setIfInBounds_toArray, List.set_cons_zero, List.set_cons_succ]); refine seg_take 7 ?_ rfl (by kernel_rfl) (by kernel_rfl) (by kernel_rfl) (by kernel_rfl) (by kernel_rfl) rfl (fun _ _ _ h => h) rfl ?_ ?_; rotate_left; (focus (intro w; go_simp; try with_reducible rfl)); (try simp only [List.getElem_toArray, List.getElem_cons_zero, List.getElem_cons_succ, Act.put, List.setIfInBounds_toArray, List.set_cons_zero, List.set_cons_succ]); refine seg_take 8 ?_ rfl (by kernel_rfl) (by kernel_rfl) (by kernel_rfl) (by kernel_rfl) (by kernel_rfl) rfl (fun _ _ _ h => h) rfl ?_ ?_; rotate_left; (focus (intro w; go_simp; try with_reducible rfl)); (try simp only [List.getElem_toArray, List.getElem_cons_zero, List.getElem_cons_succ, Act.put, List.setIfInBounds_toArray, List.set_cons_zero, List.set_cons_succ]))
      have hbw : Below w1.heap.size w1 w2 := HBd.out.trans (HB1.out.mono HBd.out.size)
      have HBw := Lib.hid hbw
      clear hbw
      have HSw := Lib.hid (HS.out.below HB1.out)
      (refine anyB_step 9 rfl (by kernel_rfl) ?_; (try simp only [List.getElem_toArray, List.getElem_cons_zero, List.getElem_cons_succ]))
      go_wp2
      refine ⟨fun _ => HSw.out.alloc _, ?_⟩
      skip
      (refine anyB_step 10 rfl (by kernel_rfl) ?_; (try simp only [List.getElem_toArray, List.getElem_cons_zero, List.getElem_cons_succ]))
      go_wp2_with (with_reducible refine wpList_store_new rfl 43 _ _ rfl _ rfl rfl _ _ hsz.out hold.out (w8_one _) ?_)
      show AnyB _ _ _ _ _ _ _ _ _ _ _ _
      (refine seg_take 11 ?_ rfl (by kernel_rfl) (by kernel_rfl) (by kernel_rfl) (by kernel_rfl) (by kernel_rfl) rfl (fun _ _ _ h => h) rfl ?_ ?_; rotate_left; (focus (intro w; go_simp; try with_reducible rfl)); (try simp only [List.getElem_toArray, List.getElem_cons_zero, List.getElem_cons_succ, Act.put, List.setIfInBounds_toArray, List.set_cons_zero, List.set_cons_succ]))
      (refine anyB_done (by kernel_rfl) ?_)
      go_wp2
      go_meet
      exact ⟨w2.heap.size, rfl, rfl, Lib.hid ⟨HBw.out.size, new_at rfl, HBw.out.alloc HBw.out.size _⟩⟩
    · go_wp2
      refine ⟨fun _ => HS.out.alloc _, ?_⟩
      generalize hwe : World.alloc wd _ = we
      have hn2 := new_name hwe
      have HN2 := Lib.hid hn2.2
      have HB2 := Lib.hid hn2.1
      have H1e : Hid (we.cell? ⟨ib, 1, none⟩ = some (.map mn)) := Lib.hid ((hn2.1.cell (p := ⟨ib, 1, none⟩) (World.block_lt_of_cell? wd _ H1d.out)).trans H1d.out)
      have H3e : Hid (IsTb we mn Value.string vvn s.nm) := Lib.hid (H3d.out.below hn2.1)
      clear hn2 hwe
      skip
      (refine anyB_step 5 rfl (by kernel_rfl) ?_; (try simp only [List.getElem_toArray, List.getElem_cons_zero, List.getElem_cons_succ]))
      go_wp2_with (go_at_call 46; go_must (refine (get_name ib 1 mn (strOfNums key) s.nm we H1e.out H3e.out (HI.out.len _)).mono ?_; rintro e w2 ⟨he, h2⟩; rw [Hf.out] at he; subst he; have HB1 := Lib.hid h2; clear h2))
      refine ⟨nofun, ?_⟩
      (refine seg_take 6 ?_ rfl (by kernel_rfl) (by kernel_rfl) (by kernel_rfl) (by kernel_rfl) (by kernel_rfl) rfl (fun _ _ _ h => h) rfl ?_ ?_; rotate_left; (focus (intro w; go_simp; try with_reducible rfl)); (try simp only [List.getElem_toArray, List.getElem_cons_zero, List.getElem_cons_succ, Act.put, List.setIfInBounds_toArray, List.set_cons_zero, List.set_cons_succ]); refine seg_take 7 ?_ rfl (by kernel_rfl) (by kernel_rfl) (by kernel_rfl) (by kernel_rfl) (by kernel_rfl) rfl (fun _ _ _ h => h) rfl ?_ ?_; rotate_left; (focus (intro w; go_simp; try with_reducible rfl)); (try simp only [List.getElem_toArray, List.getElem_cons_zero, List.getElem_cons_succ, Act.put, List.setIfInBounds_toArray, List.set_cons_zero, List.set_cons_succ]); refine seg_take 8 ?_ rfl (by kernel_rfl) (by kernel_rfl) (by kernel_rfl) (by kernel_rfl) (by kernel_rfl) rfl (fun _ _ _ h => h) rfl ?_ ?_; rotate_left; (focus (intro w; go_simp; try with_reducible rfl)); (try simp only [List.getElem_toArray, List.getElem_cons_zero, List.getElem_cons_succ, Act.put, List.setIfInBounds_toArray, List.set_cons_zero, List.set_cons_succ]))
      have HN3 := Lib.hid (below_at HB1.out HN2.out (blk_lt HN2.out))
      (refine anyB_step 10 rfl (by kernel_rfl) ?_; (try simp only [List.getElem_toArray, List.getElem_cons_zero, List.getElem_cons_succ]))
      go_wp2_with (with_reducible refine wpList_store_row rfl 43 _ _ rfl wd.heap.size _ rfl rfl 43 z32 HN3.out hsz.out hold.out (w8_one _) ?_)
      show AnyB _ _ _ _ _ _ _ _ _ _ _ _
      (refine seg_take 11 ?_ rfl (by kernel_rfl) (by kernel_rfl) (by kernel_rfl) (by kernel_rfl) (by kernel_rfl) rfl (fun _ _ _ h => h) rfl ?_ ?_; rotate_left; (focus (intro w; go_simp; try with_reducible rfl)); (try simp only [List.getElem_toArray, List.getElem_cons_zero, List.getElem_cons_succ, Act.put, List.setIfInBounds_toArray, List.set_cons_zero, List.set_cons_succ]))
      (refine anyB_done (by kernel_rfl) ?_)
      go_wp2
      go_meet
      refine ⟨wd.heap.size, rfl, rfl, Lib.hid ⟨HBd.out.size, setRow_heap _ _ _ _ _ _ HN3.out, ?_⟩⟩
      exact below_setRow (HBd.out.trans ((HB2.out.trans (HB1.out.mono HB2.out.size)).mono HBd.out.size)) HBd.out.size _
  case rest =>
    obtain ⟨nb, rfl, rfl, Hw⟩ := hcut
    have HNc := Lib.hid (below_at Hw.out.2.2 HN.out (blk_lt HN.out))
    have Hnb := Lib.hid Hw.out.2.1
    have hbc : Below w.heap.size w wc := HB.out.trans (Hw.out.2.2.mono HB.out.size)
    have HBc := Lib.hid hbc
    clear hbc
    cases fb with
    | true =>
      have hrs : r.isSome = true := Hfb.out.symm
      obtain ⟨x, hx⟩ := Option.isSome_iff_exists.1 hrs
      have hin : Hid (inm F R seed s (strOfNums key) = (v, s)) := Lib.hid (by
        have h1 := Hfv.out x hx
        have h2 := Hr.out.symm.trans hx
        unfold inm
        rw [h2, h1])
      clear hrs hx
      go_wp2_with (first
        | (with_reducible refine wpList_load_row rfl 43 _ rfl nb rfl _ _ (0, 0) _ Hnb.out Try.underlying43 rfl hsz.out ?_)
        | (with_reducible refine wpList_store_row rfl 43 _ _ rfl w.heap.size _ rfl rfl 43 z32 HNc.out hsz.out hold.out (w8_one _) ?_))
      refine bodyPost_ret (results_cell_row Try.results42 _ _ w.heap.size _ _ (0, 0) _ rfl (setRow_heap _ _ _ _ _ _ HNc.out) Try.underlying43 rfl hsz.out) rfl ?_
      have hfin : Below w.heap.size w (wc.setRow w.heap.size (w8 v)) := below_setRow HBc.out (Nat.le_refl _) _
      rw [hin.out]
      exact ⟨rfl, ⟨own, HIo.out.below hfin (fun b hb => .inl hb), fun b hb => .inl hb⟩, Kp.of_below hfin⟩
    | false =>
      have hrn : r = none := by
        have := Hfb.out
        cases r with
        | none => rfl
        | some x => cases this
      have hin : Hid (inm F R seed s (strOfNums key) = ((tDraw F R seed 32 s.left s.p).1, { s with left := (tDraw F R seed 32 s.left s.p).2.1, p := (tDraw F R seed 32 s.left s.p).2.2, at_ := s.at_ + 32, nm := mput (strOfNums key) (tDraw F R seed 32 s.left s.p).1 s.nm })) := Lib.hid (by
        have h2 := Hr.out.symm.trans hrn
        unfold inm
        rw [h2])
      have hIc : IsIo (fun b => X b ∨ (w.heap.size ≤ b ∧ b < wc.heap.size)) F R wc ib seed s own := HIo.out.below HBc.out (fun b hb => hb.elim .inl (fun h => .inr h.1))
      obtain ⟨tbx, hcx, hcall⟩ := idraw_any _ F R ib seed s own wc hIc (fun b hb => hb.elim (fun h => Nat.lt_of_lt_of_le (hX b h) HBc.out.size) (fun h => h.2)) (HTb.out.below HBc.out) hl hll hp hat
      have Hcall := Lib.hid hcall
      have hld : (tDraw F R seed 32 s.left s.p).1.length = 32 := tDraw_len _ _ _ _ _ _
      generalize hd : (tDraw F R seed 32 s.left s.p).1 = d at *
      have hsd : Hid ((Try.prog.info? 43).map (·.size) = some (w8 d).size) := Lib.hid (by rw [w8_size, hld]; kernel_rfl)
      have holdd : Hid ((w8 v).size = (w8 d).size) := Lib.hid (by rw [w8_size, w8_size, hld, Hv.out])
      have Hld := Lib.hid hld
      have hsd2 : Hid ((Try.prog.info? 43).map (·.size) = some (bytes d).length) := Lib.hid (by rw [bytes_len, hld]; kernel_rfl)
      have hsd3 : Hid ((Try.prog.info? 43).map (·.size) = some (bytes d).toArray.size) := Lib.hid (by rw [List.size_toArray, bytes_len, hld]; kernel_rfl)
      have holdd2 : Hid ((w8 v).size = (bytes d).toArray.size) := Lib.hid holdd.out
      have hone : Hid (((bytes d).toArray).all (·.oneCell') = true) := Lib.hid (w8_one d)
      clear hcall hld hrn hd hIc
      have hown : ∀ b ∈ own, b < w.heap.size := fun b hb => (HI.out.blocks b hb).2
      have Hown := Lib.hid hown
      have hnbw : w.heap.size < nb := by have := Hw.out.1; have := Hz.out; omega
      have Hnbw := Lib.hid hnbw
      clear hown hnbw
      have hat9 := arrayAt_name
      go_upto_region 4 with (first
        | (go_at_call 47; go_must (refine Hcall.out.mono ?_; rintro e w4 ⟨A, c, rfl, h1, h2, h3⟩; obtain ⟨b9, off9, rfl, hcells⟩ := h1.cells (by rw [Hld.out]; omega); have H3' := Lib.hid h3; have H2' := Lib.hid h2; have H1' : Hid (w4.rangeAt b9 off9 (bytes d)) := Lib.hid (rangeAt_of hcells); have Hnb4 : Hid (w4.heap[nb]? = some (.cells (w8 v) 43 (0, 0))) := Lib.hid (h2.at_ Hnb.out (fun hx => by have := Hown.out nb hx; have := Hnbw.out; omega)); clear h1 h2 h3 hcells))
        | (with_reducible refine wpList_load_mid rfl 43 _ rfl b9 off9 rfl (bytes d) _ H1'.out Try.underlying43 rfl hsd2.out ?_)
        | (with_reducible refine wpList_store_row rfl 43 _ _ rfl nb _ rfl rfl 43 (w8 v) Hnb4.out hsd3.out holdd2.out hone.out ?_))
      have hw5 : ∃ w5, w5 = w4.setRow nb (bytes d).toArray := ⟨_, rfl⟩
      obtain ⟨w5, hw5⟩ := hw5
      rw [← hw5]
      have hI5 := H3'.out
      obtain ⟨own', hI5, hfr⟩ := hI5
      have hnl : nb < wc.heap.size := blk_lt Hnb.out
      have hno : nb ∉ own' := fun hx => (hfr nb hx).elim (fun h => by have := Hown.out _ h; have := Hnbw.out; omega) (fun h => by omega)
      have hI5 := hI5.set (nb := nb) (.inr ⟨(by have := Hnbw.out; omega), hnl⟩) hno (bytes d).toArray
      rw [← hw5] at hI5
      have HI5 := Lib.hid hI5
      have hN5 : w5.heap[nb]? = some (.cells (w8 d) 43 (0, 0)) := by rw [hw5]; exact setRow_heap _ _ _ _ _ _ Hnb4.out
      have hK5 : Kp (nb :: own) wc w5 := by rw [hw5]; exact (H2'.out.mono (by intro b hb _; simp [hb])).setRow (by simp) _
      have hZ5 : w5.heap[w.heap.size]? = some (.cells z32 43 (0, 0)) := hK5.at_ HNc.out (fun hx => (List.mem_cons.1 hx).elim (fun e => by have := Hnbw.out; omega) (fun hx => by have := Hown.out _ hx; omega))
      have hk5 : Rd w5 kA kc key := by
        have hk4 := (Hk.out.below HBc.out).hard H2'.out (fun b hb => ((HI.out.below HBc.out).blocks b hb).1)
        rw [hw5]
        exact hk4.set_ne (fun h0 a ha => by have := Hk.out.lt h0 a ha; have := Hnbw.out; omega) _
      refine seg_begin (fun W => Rd W kA kc key ∧ Hid (W.heap[nb]? = some (.cells (w8 d) 43 (0, 0)))) [4, 5] (by kernel_rfl) ?_
      have HS : Hid (Rd w5.drew kA kc key ∧ Hid (w5.drew.heap[nb]? = some (.cells (w8 d) 43 (0, 0)))) := Lib.hid ⟨hk5.drewN 1, Lib.hid hN5⟩
      have HI6 : Hid (IsIo (fun b => X b ∨ (w.heap.size ≤ b ∧ b < wc.heap.size)) F R w5.drew ib seed _ own') := Lib.hid ⟨hI5.isI.below (Below.refl _ w5).drew, hI5.off⟩
      have HK6 := Lib.hid (hK5.drewN 1)
      have HZ6 : Hid (w5.drew.heap[w.heap.size]? = some (.cells z32 43 (0, 0))) := Lib.hid hZ5
      have Hfr := Lib.hid hfr
      clear hw5 hI5 hN5 hK5 hZ5 hk5 hfr
      have HK6 : Hid (Kp (nb :: own) wc w5.drew) := HK6
      generalize w5.drew = w6 at *
      (refine seg_take 0 ?_ rfl (by kernel_rfl) (by kernel_rfl) (by kernel_rfl) (by kernel_rfl) (by kernel_rfl) rfl (fun _ _ _ h => h) rfl ?_ ?_; rotate_left; (focus (intro w; go_simp; try with_reducible rfl)); (try simp only [List.getElem_toArray, List.getElem_cons_zero, List.getElem_cons_succ, Act.put, List.setIfInBounds_toArray, List.set_cons_zero, List.set_cons_succ]); refine seg_take 1 ?_ rfl (by kernel_rfl) (by kernel_rfl) (by kernel_rfl) (by kernel_rfl) (by kernel_rfl) rfl (fun _ _ _ h => h) rfl ?_ ?_; rotate_left; (focus (intro w; go_simp; try with_reducible rfl)); (try simp only [List.getElem_toArray, List.getElem_cons_zero, List.getElem_cons_succ, Act.put, List.setIfInBounds_toArray, List.set_cons_zero, List.set_cons_succ]); refine seg_take 2 ?_ rfl (by kernel_rfl) (by kernel_rfl) (by kernel_rfl) (by kernel_rfl) (by kernel_rfl) rfl (fun _ _ _ h => h) rfl ?_ ?_; rotate_left; (focus (intro w; go_simp; try with_reducible rfl)); (try simp only [List.getElem_toArray, List.getElem_cons_zero, List.getElem_cons_succ, Act.put, List.setIfInBounds_toArray, List.set_cons_zero, List.set_cons_succ]); refine seg_take 3 ?_ rfl (by kernel_rfl) (by kernel_rfl) (by kernel_rfl) (by kernel_rfl) (by kernel_rfl) rfl (fun _ _ _ h => h) rfl ?_ ?_; rotate_left; (focus (intro w; go_simp; try with_reducible rfl)); (try simp only [List.getElem_toArray, List.getElem_cons_zero, List.getElem_cons_succ, Act.put, List.setIfInBounds_toArray, List.set_cons_zero, List.set_cons_succ]))
      (refine seg_read 4 (.string (strOfNums key)) rfl (by kernel_rfl) (by kernel_rfl) (by kernel_rfl) (by kernel_rfl) (by kernel_rfl) (by kernel_rfl) (fun _ _ _ h => h) rfl HS.out (fun W hW => yields_conv _ _ _ rfl _ _ rfl (conv_str hW.1 kn Hkn.out)) ?_; (try simp only [List.getElem_toArray, List.getElem_cons_zero, List.getElem_cons_succ, Act.put, List.setIfInBounds_toArray, List.set_cons_zero, List.set_cons_succ]))
      skip
      (refine seg_read 5 (.agg (w8 d)) rfl (by kernel_rfl) (by kernel_rfl) (by kernel_rfl) (by kernel_rfl) (by kernel_rfl) (by kernel_rfl) (fun _ _ _ h => h) rfl HS.out (fun W hW => yields_load_row 43 _ rfl nb rfl _ _ _ _ hW.2.out Try.underlying43 rfl hsd.out) ?_; (try simp only [List.getElem_toArray, List.getElem_cons_zero, List.getElem_cons_succ, Act.put, List.setIfInBounds_toArray, List.set_cons_zero, List.set_cons_succ]))
      skip
      (refine anyB_step 6 rfl (by kernel_rfl) ?_; (try simp only [List.getElem_toArray, List.getElem_cons_zero, List.getElem_cons_succ]))
      go_wp2_with (go_at_call 48; go_must (refine (iput_name F R ib seed _ own' (strOfNums key) d w6 HI6.out.isI Hld.out).mono ?_; rintro e w7 ⟨rfl, h1, h2, h3, h4⟩; have P1 := Lib.hid h1; have P2 := Lib.hid h2; have P3 := Lib.hid h3; have P4 := Lib.hid h4; clear h1 h2 h3 h4))
      refine ⟨nofun, ?_⟩
      (refine anyB_done (by kernel_rfl) ?_)
      have hown6 : ∀ b ∈ own', b ∈ own ∨ wc.heap.size ≤ b := Hfr.out
      have hNl : nb < wc.heap.size := blk_lt Hnb.out
      have hwl : w.heap.size < wc.heap.size := by have := Hnbw.out; omega
      have HN7 : Hid (w7.heap[nb]? = some (.cells (w8 d) 43 (0, 0))) := Lib.hid (P2.out.at_ HS.out.2.out (fun hx => (hown6 _ hx).elim (fun h => by have := Hown.out _ h; have := Hnbw.out; omega) (fun h => by omega)))
      have HZ7 : Hid (w7.heap[w.heap.size]? = some (.cells z32 43 (0, 0))) := Lib.hid (P2.out.at_ HZ6.out (fun hx => (hown6 _ hx).elim (fun h => by have := Hown.out _ h; omega) (fun h => by omega)))
      have holdz : Hid (z32.size = (w8 d).size) := Lib.hid (by rw [w8_size, Hld.out]; rfl)
      go_wp2_with (first
        | (with_reducible refine wpList_load_row rfl 43 _ rfl nb rfl _ _ (0, 0) _ HN7.out Try.underlying43 rfl hsd.out ?_)
        | (with_reducible refine wpList_store_row rfl 43 _ _ rfl w.heap.size _ rfl rfl 43 z32 HZ7.out hsd.out holdz.out (w8_one _) ?_))
      refine bodyPost_ret (results_cell_row Try.results42 _ _ w.heap.size _ _ (0, 0) _ rfl (setRow_heap _ _ _ _ _ _ HZ7.out) Try.underlying43 rfl hsd.out) rfl ?_
      obtain ⟨own2, q1, q2⟩ := P1.out
      have hIo7 := HI6.out.cells q1 (Y := fun b => X b ∨ (w.heap.size ≤ b ∧ b < wc.heap.size)) (fun b hb => .inl hb) P3.out P4.out
      have hszc : wc.heap.size ≤ w6.heap.size := HK6.out.size
      have hzo : w.heap.size ∉ own2 := fun hx => by
        rcases q2 _ hx with h | h
        · exact (hown6 _ h).elim (fun h => by have := Hown.out _ h; omega) (fun h => by omega)
        · omega
      rw [hin.out]
      refine ⟨rfl, ⟨own2, (hIo7.set (nb := w.heap.size) (.inr ⟨Nat.le_refl _, hwl⟩) hzo _).mono (fun b hb => .inl hb), ?_⟩, ?_⟩
      · intro b hb
        rcases q2 b hb with h | h
        · rcases hown6 b h with h | h
          · exact .inl h
          · exact .inr (by omega)
        · exact .inr (by omega)
      · have hK7 : Kp (nb :: own) wc w7 := HK6.out.trans P2.out (fun x hx hlt => by
          rcases hown6 x hx with h | h
          · simp [h]
          · omega)
        exact ((Kp.of_below (S := own) HBc.out).trans hK7 (fun x hx hlt => by
          rcases List.mem_cons.1 hx with rfl | hx
          · have := Hnbw.out; omega
          · exact hx)).setRow (fun h => by omega) _
theorem iname_any (F R : List Int) (ib : Nat) (seed : List Int) (s : St) (own : List Nat) (kA : Option Addr) (kn kc : Nat) (key : List Int) (w : World)
    (hTb : Tabs F R w) (hI : IsI F R w ib seed s own) (hl : seed.length ≤ 10000000000000) (hll : s.left.length ≤ 10000000000000) (hp : s.p ≤ 9007199254600000) (hat : s.at_ ≤ 9007199254600000)
    (hkn : kn = key.length) (hk : Rd w kA kc key) :
    Calls Try.prog 42 #[.pointer (some ⟨ib, 0, none⟩), .slice kA kn kc] w fun e w' => e = .returned (vvn (inm F R seed s (strOfNums key)).1) ∧ (∃ own', IsI F R w' ib seed (inm F R seed s (strOfNums key)).2 own' ∧ Fresh w own own') ∧ Kp own w w' := by
  refine (iname_any2 (fun _ => False) F R ib seed s own kA kn kc key w (fun _ h => h.elim) hTb (hI.io.mono (fun _ h => h.elim)) hl hll hp hat hkn hk).mono ?_
  rintro e w' ⟨h1, ⟨own', h2, h3⟩, h4⟩
  exact ⟨h1, ⟨own', h2.isI, h3⟩, h4⟩
end Go.Proofs.Ythgnccgablploaa
