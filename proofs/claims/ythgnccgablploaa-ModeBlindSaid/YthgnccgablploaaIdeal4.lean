/- The ideal mode: seal. -/
import Derived.Test.YthgnccgablploaaIdeal3
set_option linter.unusedVariables false
set_option linter.unusedSimpArgs false
set_option maxRecDepth 100000
namespace Go.Proofs.Ythgnccgablploaa
open Go Go.RowKit Go.Conc
theorem iput_box (F R : List Int) (ib : Nat) (seed : List Int) (s : St) (own : List Nat) (e1 : Int) (h1 b1 v : ByteArray) (w : World) (hI : IsI F R w ib seed s own) (hv : v.size ≤ 65536) :
    Calls Try.prog 50 #[.pointer (some ⟨ib, 2, none⟩), .agg #[.int .i64 e1, .string h1, .string b1], .string v] w fun e w' => e = .returned (.tuple #[]) ∧ (∃ own', IsI F R w' ib seed { s with bx := mput (e1, h1, b1) v s.bx } own' ∧ Fresh w own own') ∧ Kp own w w' := by
  obtain ⟨tb, ch, sA, sc, mn, mb, rfl, h1', h2, h3, h4, h5⟩ := hI.ex
  refine (put_box ib 2 57 (irow tb mn mb) mb e1 h1 b1 v s.bx w h1' rfl h4).mono ?_
  rintro e w' ⟨rfl, r, k1, k2, k3, k4⟩
  have hin := hI.blocks
  have hmap : ∀ x, x = ib ∨ mb = some x → x ∉ tb :: ch.toList ∧ mn ≠ some x := by
    obtain ⟨lA, lc, q, bg, t1, t2, t3, t4⟩ := h2.row
    rintro x (rfl | hx)
    · refine ⟨?_, ?_⟩
      · intro hb
        rcases List.mem_cons.1 hb with rfl | hb
        · exact blk_ne h1' t1 (by decide) rfl
        · cases ch with
          | none => simp at hb
          | some cb =>
            obtain ⟨_, _, _, t5⟩ := t4
            obtain rfl : x = cb := by simpa using hb
            have := h1'.symm.trans t5; cases this
      · rintro rfl
        obtain ⟨_, _, t5, _⟩ := h3
        have := h1'.symm.trans t5; cases this
    · subst hx
      obtain ⟨_, _, t6, _⟩ := h4
      refine ⟨?_, fun e => h5 x e rfl⟩
      intro hb
      rcases List.mem_cons.1 hb with rfl | hb
      · have := t1.symm.trans t6; cases this
      · cases ch with
        | none => simp at hb
        | some cb =>
          obtain ⟨_, _, _, t5⟩ := t4
          obtain rfl : x = cb := by simpa using hb
          have := t6.symm.trans t5; cases this
  have hS : ∀ b ∈ ib :: mb.toList, b = ib ∨ mb = some b := by
    intro b hb
    rcases List.mem_cons.1 hb with rfl | hb
    · exact .inl rfl
    · exact .inr (by simpa using hb)
  have hSb : ∀ b ∈ ib :: mb.toList, Hard w b := fun b hb => (hin b (by rcases hS b hb with rfl | h <;> simp [*])).1
  have hmn : ∀ b, mn = some b → b < w.heap.size := fun b e => (hin b (by simp [e])).2
  refine ⟨rfl, ⟨ib :: (tb :: ch.toList) ++ (mn.toList ++ [r]), ⟨⟨tb, ch, sA, sc, mn, some r, by simp, k2, h2.keep k4 hSb ?_, h3.keep k4 ?_, k1, ?_⟩, hI.len, ?_⟩, ?_⟩, k4.mono ?_⟩
  · intro b hb hx
    exact (hmap b (hS b hx)).1 hb
  · intro b hb hx
    exact (hmap b (hS b hx)).2 hb
  · rintro x hx hr
    obtain rfl : r = x := Option.some.inj hr
    rcases k3 with k3 | ⟨_, k3⟩
    · exact h5 r hx k3
    · have := hmn r hx
      omega
  · intro k u hk
    simp only [mget_mput] at hk
    split at hk
    · cases hk; exact hv
    · exact hI.lenb k u hk
  · intro b hb
    simp only [List.cons_append, List.mem_cons, List.mem_append, List.not_mem_nil, or_false] at hb
    rcases k3 with rfl | ⟨rfl, k3⟩
    · left
      simp only [List.cons_append, List.mem_cons, List.mem_append, Option.toList_some, List.not_mem_nil, or_false]
      exact hb
    · rcases hb with hb | hb | hb | hb | hb
      · simp [hb]
      · simp [hb]
      · simp [hb]
      · left; simp only [List.cons_append, List.mem_cons, List.mem_append]; simp [hb]
      · exact .inr (hb ▸ k3)
  · intro b hb _
    rcases hS b hb with rfl | h <;> simp [*]
/-- What seal leaves. -/
structure SealOut (F R : List Int) (w w' : World) (ib : Nat) (seed : List Int) (s : St) (own : List Nat) (tb : Nat) (tseed tleft : List Int) (tp tat : Nat) (town : List Nat) (ep : Int) (hd pl : List Int) (A : Option Addr) (c : Nat) : Prop where
  box : Rd w' A c (tDraw F R tseed (pl.length + 28) tleft tp).1
  new : ∀ a, A = some a → w.heap.size ≤ a.block
  kp : Kp (own ++ town) w w'
  ex : ∃ own' town', IsTp F R w' tb tseed (tDraw F R tseed (pl.length + 28) tleft tp).2.1 (tDraw F R tseed (pl.length + 28) tleft tp).2.2 (tat + (pl.length + 28)) town' ∧
    IsI F R w' ib seed { s with bx := mput (ep, strOfNums hd, strOfNums (tDraw F R tseed (pl.length + 28) tleft tp).1) (strOfNums pl) s.bx } own' ∧
    (∀ b ∈ own', b ∉ town') ∧ Fresh w own own' ∧ Fresh w town town'
theorem iseal_any (F R : List Int) (ib : Nat) (seed : List Int) (s : St) (own : List Nat) (tb : Nat) (tseed tleft : List Int) (tp tat : Nat) (town : List Nat) (ep : Int) (hA : Option Addr) (hn hc : Nat) (hd : List Int) (pA : Option Addr) (pn pc : Nat) (pl : List Int) (w : World)
    (hTb : Tabs F R w) (hI : IsI F R w ib seed s own) (hT : IsTp F R w tb tseed tleft tp tat town) (hap : ∀ b ∈ own, b ∉ town) (hl : tseed.length ≤ 10000000000000) (hll : tleft.length ≤ 10000000000000) (hp : tp ≤ 9007199254600000) (hat : tat ≤ 9007199254600000)
    (hhn : hn = hd.length) (hh : Rd w hA hc hd) (hpn : pn = pl.length) (hpl : Rd w pA pc pl) (hpm : pn ≤ 4096) :
    Calls Try.prog 44 #[.pointer (some ⟨ib, 0, none⟩), .pointer (some ⟨tb, 0, none⟩), .int .i64 ep, .slice hA hn hc, .slice pA pn pc] w fun e w' => ∃ A c, e = .returned (.tuple #[.slice A (pn + 28) c, .int .i64 0]) ∧ SealOut F R w w' ib seed s own tb tseed tleft tp tat town ep hd pl A c := by
  have HI := Lib.hid hI
  have HT := Lib.hid hT
  have Hap := Lib.hid hap
  have HTb := Lib.hid hTb
  have Hh := Lib.hid hh
  have Hpl := Lib.hid hpl
  have Hhn := Lib.hid hhn
  have Hpn := Lib.hid hpn
  clear hTb hI hT hap hh hpl hhn hpn
  go_enter Try.func44, Try.ntmps44
  go_wp2_with (go_at_call 47; go_must (refine (draw_tp F R tb tseed tleft tp tat (pn + 28) town w HTb.out HT.out hl hll (by omega) (by omega) hp hat).mono ?_; rintro e w1 ⟨A, c, town1, rfl, h1, h2, h3, h4, h5⟩; have D1 := Lib.hid h1; have D2 := Lib.hid h2; have D3 := Lib.hid h3; have D4 := Lib.hid h4; have D5 := Lib.hid h5; clear h1 h2 h3 h4 h5))
  refine seg_begin (fun W => Rd W hA hc hd ∧ Rd W A c (tDraw F R tseed (pn + 28) tleft tp).1 ∧ Rd W pA pc pl) [5, 7, 10] (by kernel_rfl) ?_
  have hth : ∀ b ∈ town, Hard w b := fun b hb => (HT.out.blocks b hb).1
  have HS : Hid (Rd w1.drew hA hc hd ∧ Rd w1.drew A c (tDraw F R tseed (pn + 28) tleft tp).1 ∧ Rd w1.drew pA pc pl) := Lib.hid ⟨(Hh.out.hard D5.out hth).drewN 1, D1.out.drewN 1, (Hpl.out.hard D5.out hth).drewN 1⟩
  have HI1 : Hid (IsI F R w1.drew ib seed s own) := Lib.hid ((HI.out.keep D5.out hth Hap.out).below (Below.refl _ w1).drew)
  have HT1 := Lib.hid (D3.out.below (Below.refl _ w1).drew)
  have HK1 := Lib.hid (D5.out.drewN 1)
  have hkd : Kp town w w1.drew := D5.out.drewN 1
  have HKd := Lib.hid hkd
  have Hdl : Hid ((tDraw F R tseed (pn + 28) tleft tp).1.length = pn + 28) := Lib.hid (tDraw_len _ _ _ _ _ _)
  clear hth D1 D3 D5 HK1 hkd
  generalize w1.drew = wd at *
  (refine seg_take 0 ?_ rfl (by kernel_rfl) (by kernel_rfl) (by kernel_rfl) (by kernel_rfl) (by kernel_rfl) rfl (fun _ _ _ h => h) rfl ?_ ?_; rotate_left; (focus (intro w; go_simp; try with_reducible rfl)); (try simp only [List.getElem_toArray, List.getElem_cons_zero, List.getElem_cons_succ, Act.put, List.setIfInBounds_toArray, List.set_cons_zero, List.set_cons_succ]); refine seg_take 1 ?_ rfl (by kernel_rfl) (by kernel_rfl) (by kernel_rfl) (by kernel_rfl) (by kernel_rfl) rfl (fun _ _ _ h => h) rfl ?_ ?_; rotate_left; (focus (intro w; go_simp; try with_reducible rfl)); (try simp only [List.getElem_toArray, List.getElem_cons_zero, List.getElem_cons_succ, Act.put, List.setIfInBounds_toArray, List.set_cons_zero, List.set_cons_succ]); refine seg_take 2 ?_ rfl (by kernel_rfl) (by kernel_rfl) (by kernel_rfl) (by kernel_rfl) (by kernel_rfl) rfl (fun _ _ _ h => h) rfl ?_ ?_; rotate_left; (focus (intro w; go_simp; try with_reducible rfl)); (try simp only [List.getElem_toArray, List.getElem_cons_zero, List.getElem_cons_succ, Act.put, List.setIfInBounds_toArray, List.set_cons_zero, List.set_cons_succ]); refine seg_take 3 ?_ rfl (by kernel_rfl) (by kernel_rfl) (by kernel_rfl) (by kernel_rfl) (by kernel_rfl) rfl (fun _ _ _ h => h) rfl ?_ ?_; rotate_left; (focus (intro w; go_simp; try with_reducible rfl)); (try simp only [List.getElem_toArray, List.getElem_cons_zero, List.getElem_cons_succ, Act.put, List.setIfInBounds_toArray, List.set_cons_zero, List.set_cons_succ]); refine seg_take 4 ?_ rfl (by kernel_rfl) (by kernel_rfl) (by kernel_rfl) (by kernel_rfl) (by kernel_rfl) rfl (fun _ _ _ h => h) rfl ?_ ?_; rotate_left; (focus (intro w; go_simp; try with_reducible rfl)); (try simp only [List.getElem_toArray, List.getElem_cons_zero, List.getElem_cons_succ, Act.put, List.setIfInBounds_toArray, List.set_cons_zero, List.set_cons_succ]); refine seg_take 6 ?_ rfl (by kernel_rfl) (by kernel_rfl) (by kernel_rfl) (by kernel_rfl) (by kernel_rfl) rfl (fun _ _ _ h => h) rfl ?_ ?_; rotate_left; (focus (intro w; go_simp; try with_reducible rfl)); (try simp only [List.getElem_toArray, List.getElem_cons_zero, List.getElem_cons_succ, Act.put, List.setIfInBounds_toArray, List.set_cons_zero, List.set_cons_succ]); refine seg_take 9 ?_ rfl (by kernel_rfl) (by kernel_rfl) (by kernel_rfl) (by kernel_rfl) (by kernel_rfl) rfl (fun _ _ _ h => h) rfl ?_ ?_; rotate_left; (focus (intro w; go_simp; try with_reducible rfl)); (try simp only [List.getElem_toArray, List.getElem_cons_zero, List.getElem_cons_succ, Act.put, List.setIfInBounds_toArray, List.set_cons_zero, List.set_cons_succ]))
  (refine seg_read 5 (.string (strOfNums hd)) rfl (by kernel_rfl) (by kernel_rfl) (by kernel_rfl) (by kernel_rfl) (by kernel_rfl) (by kernel_rfl) (fun _ _ _ h => h) rfl HS.out (fun W hW => yields_conv _ _ _ rfl _ _ rfl (conv_str hW.1 hn Hhn.out)) ?_; (try simp only [List.getElem_toArray, List.getElem_cons_zero, List.getElem_cons_succ, Act.put, List.setIfInBounds_toArray, List.set_cons_zero, List.set_cons_succ]))
  skip
  (refine seg_read 7 (.string (strOfNums (tDraw F R tseed (pn + 28) tleft tp).1)) rfl (by kernel_rfl) (by kernel_rfl) (by kernel_rfl) (by kernel_rfl) (by kernel_rfl) (by kernel_rfl) (fun _ _ _ h => h) rfl HS.out (fun W hW => yields_conv _ _ _ rfl _ _ rfl (conv_str hW.2.1 (pn + 28) Hdl.out.symm)) ?_; (try simp only [List.getElem_toArray, List.getElem_cons_zero, List.getElem_cons_succ, Act.put, List.setIfInBounds_toArray, List.set_cons_zero, List.set_cons_succ]))
  (refine seg_take 8 ?_ rfl (by kernel_rfl) (by kernel_rfl) (by kernel_rfl) (by kernel_rfl) (by kernel_rfl) rfl (fun _ _ _ h => h) rfl ?_ ?_; rotate_left; (focus (intro w; go_simp; try with_reducible rfl)); (try simp only [List.getElem_toArray, List.getElem_cons_zero, List.getElem_cons_succ, Act.put, List.setIfInBounds_toArray, List.set_cons_zero, List.set_cons_succ]))
  (refine seg_read 10 (.string (strOfNums pl)) rfl (by kernel_rfl) (by kernel_rfl) (by kernel_rfl) (by kernel_rfl) (by kernel_rfl) (by kernel_rfl) (fun _ _ _ h => h) rfl HS.out (fun W hW => yields_conv _ _ _ rfl _ _ rfl (conv_str hW.2.2 pn Hpn.out)) ?_; (try simp only [List.getElem_toArray, List.getElem_cons_zero, List.getElem_cons_succ, Act.put, List.setIfInBounds_toArray, List.set_cons_zero, List.set_cons_succ]))
  skip
  (refine anyB_step 11 rfl (by kernel_rfl) ?_; (try simp only [List.getElem_toArray, List.getElem_cons_zero, List.getElem_cons_succ]))
  go_wp2_with (go_at_call 50; go_must (refine (iput_box F R ib seed s own ep (strOfNums hd) (strOfNums (tDraw F R tseed (pn + 28) tleft tp).1) (strOfNums pl) wd HI1.out (by rw [strOfNums_size]; have := Hpn.out; omega)).mono ?_; rintro e w2 ⟨rfl, h1, h2⟩; have P1 := Lib.hid h1; have P2 := Lib.hid h2; clear h1 h2))
  refine ⟨nofun, ?_⟩
  (refine anyB_done (by kernel_rfl) ?_)
  go_wp2
  go_ret2
  refine ⟨A, c, rfl, ?_⟩
  obtain ⟨own', q1, q2⟩ := P1.out
  have hoh : ∀ b ∈ own, Hard wd b := fun b hb => (HI1.out.blocks b hb).1
  have hdis : ∀ b ∈ own, b ∉ town1 := fun b hb hx => by
    rcases D4.out b hx with h | h
    · exact Hap.out b hb h
    · have := (HI.out.blocks b hb).2
      omega
  have e28 : pl.length + 28 = pn + 28 := by rw [Hpn.out]
  refine ⟨?_, D2.out, ?_, own', town1, ?_, ?_, ?_, ?_, D4.out⟩
  · rw [e28]; exact HS.out.2.1.hard P2.out hoh
  · exact (HKd.out.mono (by intro x hx _; simp [hx])).then (P2.out.mono (by intro x hx _; simp [hx]))
  · rw [e28]; exact HT1.out.keep P2.out hoh (fun b hb hx => hdis b hx hb)
  · rw [e28]; exact q1
  · intro b hb hx
    rcases q2 b hb with h | h
    · exact hdis b h hx
    · have := (HT1.out.blocks b hx).2
      omega
  · intro b hb
    rcases q2 b hb with h | h
    · exact .inl h
    · have := HKd.out.size
      exact .inr (by omega)
end Go.Proofs.Ythgnccgablploaa
