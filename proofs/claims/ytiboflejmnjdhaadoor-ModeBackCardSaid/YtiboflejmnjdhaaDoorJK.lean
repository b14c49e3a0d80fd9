/- The ideal mode: seal. -/
import Derived.Test.YtiboflejmnjdhaaDoorJJ
import Derived.Deep.MidRow
section
set_option linter.unusedVariables false
set_option linter.unusedSimpArgs false
set_option maxRecDepth 100000
namespace Go.Proofs.YtiboflejmnjdhaaDoor
open Go Go.RowKit Go.Conc
theorem iput_box (F R : List Int) (ib : Nat) (seed : List Int) (s : St) (own : List Nat) (e1 : Int) (h1 b1 v : ByteArray) (w : World) (hI : IsI F R w ib seed s own) (hv : v.size ≤ 65536) :
    Calls Tryd.prog 129 #[.pointer (some ⟨ib, 2, none⟩), .agg #[.int .i64 e1, .string h1, .string b1], .string v] w fun e w' => e = .returned (.tuple #[]) ∧ (∃ own', IsI F R w' ib seed { s with bx := mput (e1, h1, b1) v s.bx } own' ∧ Fresh w own own') ∧ Kp own w w' := by
  obtain ⟨tb, ch, sA, sc, mn, mb, rfl, h1', h2, h3, h4, h5⟩ := hI.ex
  refine (put_box ib 2 122 (irow tb mn mb) mb e1 h1 b1 v s.bx w h1' rfl h4).mono ?_
  rintro e w' ⟨rfl, r, k1, k2, k3, k4⟩
  have hin := hI.blocks
  have hmap : ∀ x, x = ib ∨ mb = some x → x ∉ tb :: ch.toList ∧ mn ≠ some x := by
    obtain ⟨lA, lc, q, bg, t1, t2, t3, t4⟩ := h2.row
    rintro x (rfl | hx)
    · refine ⟨?_, ?_⟩
      · intro hb
        rcases List.mem_cons.1 hb with rfl | hb
        · exact blk_ne h1' t1 (by decide) rfl
        · cases ch with
          | none => simp at hb
          | some cb =>
            obtain ⟨_, _, _, t5⟩ := t4
            obtain rfl : x = cb := by simpa using hb
            have := h1'.symm.trans t5; cases this
      · rintro rfl
        obtain ⟨_, _, t5, _⟩ := h3
        have := h1'.symm.trans t5; cases this
    · subst hx
      obtain ⟨_, _, t6, _⟩ := h4
      refine ⟨?_, fun e => h5 x e rfl⟩
      intro hb
      rcases List.mem_cons.1 hb with rfl | hb
      · have := t1.symm.trans t6; cases this
      · cases ch with
        | none => simp at hb
        | some cb =>
          obtain ⟨_, _, _, t5⟩ := t4
          obtain rfl : x = cb := by simpa using hb
          have := t6.symm.trans t5; cases this
  have hS : ∀ b ∈ ib :: mb.toList, b = ib ∨ mb = some b := by
    intro b hb
    rcases List.mem_cons.1 hb with rfl | hb
    · exact .inl rfl
    · exact .inr (by simpa using hb)
  have hSb : ∀ b ∈ ib :: mb.toList, Hard w b := fun b hb => (hin b (by rcases hS b hb with rfl | h <;> simp [*])).1
  have hmn : ∀ b, mn = some b → b < w.heap.size := fun b e => (hin b (by simp [e])).2
  refine ⟨rfl, ⟨ib :: (tb :: ch.toList) ++ (mn.toList ++ [r]), ⟨⟨tb, ch, sA, sc, mn, some r, by simp, k2, h2.keep k4 hSb ?_, h3.keep k4 ?_, k1, ?_⟩, hI.len, ?_⟩, ?_⟩, k4.mono ?_⟩
  · intro b hb hx
    exact (hmap b (hS b hx)).1 hb
  · intro b hb hx
    exact (hmap b (hS b hx)).2 hb
  · rintro x hx hr
    obtain rfl : r = x := Option.some.inj hr
    rcases k3 with k3 | ⟨_, k3⟩
    · exact h5 r hx k3
    · have := hmn r hx
      omega
  · intro k u hk
    simp only [mget_mput] at hk
    split at hk
    · cases hk; exact hv
    · exact hI.lenb k u hk
  · intro b hb
    simp only [List.cons_append, List.mem_cons, List.mem_append, List.not_mem_nil, or_false] at hb
    rcases k3 with rfl | ⟨rfl, k3⟩
    · left
      simp only [List.cons_append, List.mem_cons, List.mem_append, Option.toList_some, List.not_mem_nil, or_false]
      exact hb
    · rcases hb with hb | hb | hb | hb | hb
      · simp [hb]
      · simp [hb]
      · simp [hb]
      · left; simp only [List.cons_append, List.mem_cons, List.mem_append]; simp [hb]
      · exact .inr (hb ▸ k3)
  · intro b hb _
    rcases hS b hb with rfl | h <;> simp [*]
/-- What seal leaves. -/
structure SealOut (F R : List Int) (w w' : World) (ib : Nat) (seed : List Int) (s : St) (own : List Nat) (tb : Nat) (tseed tleft : List Int) (tp tat : Nat) (town : List Nat) (ep : Int) (hd pl : List Int) (A : Option Addr) (c : Nat) : Prop where
  box : Rd w' A c (tDraw F R tseed (pl.length + 28) tleft tp).1
  new : ∀ a, A = some a → w.heap.size ≤ a.block
  kp : Kp (own ++ town) w w'
  ex : ∃ own' town', IsTp F R w' tb tseed (tDraw F R tseed (pl.length + 28) tleft tp).2.1 (tDraw F R tseed (pl.length + 28) tleft tp).2.2 (tat + (pl.length + 28)) town' ∧
    IsI F R w' ib seed { s with bx := mput (ep, strOfNums hd, strOfNums (tDraw F R tseed (pl.length + 28) tleft tp).1) (strOfNums pl) s.bx } own' ∧
    (∀ b ∈ own', b ∉ town') ∧ Fresh w own own' ∧ Fresh w town town'
theorem iseal_any (F R : List Int) (ib : Nat) (seed : List Int) (s : St) (own : List Nat) (tb : Nat) (tseed tleft : List Int) (tp tat : Nat) (town : List Nat) (ep : Int) (hA : Option Addr) (hn hc : Nat) (hd : List Int) (pA : Option Addr) (pn pc : Nat) (pl : List Int) (w : World)
    (hTb : Tabs F R w) (hI : IsI F R w ib seed s own) (hT : IsTp F R w tb tseed tleft tp tat town) (hap : ∀ b ∈ own, b ∉ town) (hl : tseed.length ≤ 10000000000000) (hll : tleft.length ≤ 10000000000000) (hp : tp ≤ 9007199254600000) (hat : tat ≤ 9007199254600000)
    (hhn : hn = hd.length) (hh : Rd w hA hc hd) (hpn : pn = pl.length) (hpl : Rd w pA pc pl) (hpm : pn ≤ 4096) :
    Calls Tryd.prog 124 #[.pointer (some ⟨ib, 0, none⟩), .pointer (some ⟨tb, 0, none⟩), .int .i64 ep, .slice hA hn hc, .slice pA pn pc] w fun e w' => ∃ A c, e = .returned (.tuple #[.slice A (pn + 28) c, .int .i64 0]) ∧ SealOut F R w w' ib seed s own tb tseed tleft tp tat town ep hd pl A c := by
  have HI := Lib.hid hI
  have HT := Lib.hid hT
  have Hap := Lib.hid hap
  have HTb := Lib.hid hTb
  have Hh := Lib.hid hh
  have Hpl := Lib.hid hpl
  have Hhn := Lib.hid hhn
  have Hpn := Lib.hid hpn
  clear hTb hI hT hap hh hpl hhn hpn
  go_enter Tryd.func124, Tryd.ntmps124
  go_wp2_with (go_at_call 14; go_must (refine (draw_tp F R tb tseed tleft tp tat (pn + 28) town w HTb.out HT.out hl hll (by omega) (by omega) hp hat).mono ?_; rintro e w1 ⟨A, c, town1, rfl, h1, h2, h3, h4, h5⟩; have D1 := Lib.hid h1; have D2 := Lib.hid h2; have D3 := Lib.hid h3; have D4 := Lib.hid h4; have D5 := Lib.hid h5; clear h1 h2 h3 h4 h5))
  refine seg_begin (fun W => Rd W hA hc hd ∧ Rd W A c (tDraw F R tseed (pn + 28) tleft tp).1 ∧ Rd W pA pc pl) [5, 7, 10] (by kernel_rfl) ?_
  have hth : ∀ b ∈ town, Hard w b := fun b hb => (HT.out.blocks b hb).1
  have HS : Hid (Rd w1.drew hA hc hd ∧ Rd w1.drew A c (tDraw F R tseed (pn + 28) tleft tp).1 ∧ Rd w1.drew pA pc pl) := Lib.hid ⟨(Hh.out.hard D5.out hth).drewN 1, D1.out.drewN 1, (Hpl.out.hard D5.out hth).drewN 1⟩
  have HI1 : Hid (IsI F R w1.drew ib seed s own) := Lib.hid ((HI.out.keep D5.out hth Hap.out).below (Below.refl _ w1).drew)
  have HT1 := Lib.hid (D3.out.below (Below.refl _ w1).drew)
  have HK1 := Lib.hid (D5.out.drewN 1)
  have hkd : Kp town w w1.drew := D5.out.drewN 1
  have HKd := Lib.hid hkd
  have Hdl : Hid ((tDraw F R tseed (pn + 28) tleft tp).1.length = pn + 28) := Lib.hid (tDraw_len _ _ _ _ _ _)
  clear hth D1 D3 D5 HK1 hkd
  generalize w1.drew = wd at *
  (refine seg_take 0 ?_ rfl (by kernel_rfl) (by kernel_rfl) (by kernel_rfl) (by kernel_rfl) (by kernel_rfl) rfl (fun _ _ _ h => h) rfl ?_ ?_; rotate_left; (focus (intro w; go_simp; try with_reducible rfl)); (try simp only [List.getElem_toArray, List.getElem_cons_zero, List.getElem_cons_succ, Act.put, List.setIfInBounds_toArray, List.set_cons_zero, List.set_cons_succ]); refine seg_take 1 ?_ rfl (by kernel_rfl) (by kernel_rfl) (by kernel_rfl) (by kernel_rfl) (by kernel_rfl) rfl (fun _ _ _ h => h) rfl ?_ ?_; rotate_left; (focus (intro w; go_simp; try with_reducible rfl)); (try simp only [List.getElem_toArray, List.getElem_cons_zero, List.getElem_cons_succ, Act.put, List.setIfInBounds_toArray, List.set_cons_zero, List.set_cons_succ]); refine seg_take 2 ?_ rfl (by kernel_rfl) (by kernel_rfl) (by kernel_rfl) (by kernel_rfl) (by kernel_rfl) rfl (fun _ _ _ h => h) rfl ?_ ?_; rotate_left; (focus (intro w; go_simp; try with_reducible rfl)); (try simp only [List.getElem_toArray, List.getElem_cons_zero, List.getElem_cons_succ, Act.put, List.setIfInBounds_toArray, List.set_cons_zero, List.set_cons_succ]); refine seg_take 3 ?_ rfl (by kernel_rfl) (by kernel_rfl) (by kernel_rfl) (by kernel_rfl) (by kernel_rfl) rfl (fun _ _ _ h => h) rfl ?_ ?_; rotate_left; (focus (intro w; go_simp; try with_reducible rfl)); (try simp only [List.getElem_toArray, List.getElem_cons_zero, List.getElem_cons_succ, Act.put, List.setIfInBounds_toArray, List.set_cons_zero, List.set_cons_succ]); refine seg_take 4 ?_ rfl (by kernel_rfl) (by kernel_rfl) (by kernel_rfl) (by kernel_rfl) (by kernel_rfl) rfl (fun _ _ _ h => h) rfl ?_ ?_; rotate_left; (focus (intro w; go_simp; try with_reducible rfl)); (try simp only [List.getElem_toArray, List.getElem_cons_zero, List.getElem_cons_succ, Act.put, List.setIfInBounds_toArray, List.set_cons_zero, List.set_cons_succ]); refine seg_take 6 ?_ rfl (by kernel_rfl) (by kernel_rfl) (by kernel_rfl) (by kernel_rfl) (by kernel_rfl) rfl (fun _ _ _ h => h) rfl ?_ ?_; rotate_left; (focus (intro w; go_simp; try with_reducible rfl)); (try simp only [List.getElem_toArray, List.getElem_cons_zero, List.getElem_cons_succ, Act.put, List.setIfInBounds_toArray, List.set_cons_zero, List.set_cons_succ]); refine seg_take 9 ?_ rfl (by kernel_rfl) (by kernel_rfl) (by kernel_rfl) (by kernel_rfl) (by kernel_rfl) rfl (fun _ _ _ h => h) rfl ?_ ?_; rotate_left; (focus (intro w; go_simp; try with_reducible rfl)); (try simp only [List.getElem_toArray, List.getElem_cons_zero, List.getElem_cons_succ, Act.put, List.setIfInBounds_toArray, List.set_cons_zero, List.set_cons_succ]))
  (refine seg_read 5 (.string (strOfNums hd)) rfl (by kernel_rfl) (by kernel_rfl) (by kernel_rfl) (by kernel_rfl) (by kernel_rfl) (by kernel_rfl) (fun _ _ _ h => h) rfl HS.out (fun W hW => yields_conv _ _ _ rfl _ _ rfl (conv_str hW.1 hn Hhn.out)) ?_; (try simp only [List.getElem_toArray, List.getElem_cons_zero, List.getElem_cons_succ, Act.put, List.setIfInBounds_toArray, List.set_cons_zero, List.set_cons_succ]))
  skip
  (refine seg_read 7 (.string (strOfNums (tDraw F R tseed (pn + 28) tleft tp).1)) rfl (by kernel_rfl) (by kernel_rfl) (by kernel_rfl) (by kernel_rfl) (by kernel_rfl) (by kernel_rfl) (fun _ _ _ h => h) rfl HS.out (fun W hW => yields_conv _ _ _ rfl _ _ rfl (conv_str hW.2.1 (pn + 28) Hdl.out.symm)) ?_; (try simp only [List.getElem_toArray, List.getElem_cons_zero, List.getElem_cons_succ, Act.put, List.setIfInBounds_toArray, List.set_cons_zero, List.set_cons_succ]))
  (refine seg_take 8 ?_ rfl (by kernel_rfl) (by kernel_rfl) (by kernel_rfl) (by kernel_rfl) (by kernel_rfl) rfl (fun _ _ _ h => h) rfl ?_ ?_; rotate_left; (focus (intro w; go_simp; try with_reducible rfl)); (try simp only [List.getElem_toArray, List.getElem_cons_zero, List.getElem_cons_succ, Act.put, List.setIfInBounds_toArray, List.set_cons_zero, List.set_cons_succ]))
  (refine seg_read 10 (.string (strOfNums pl)) rfl (by kernel_rfl) (by kernel_rfl) (by kernel_rfl) (by kernel_rfl) (by kernel_rfl) (by kernel_rfl) (fun _ _ _ h => h) rfl HS.out (fun W hW => yields_conv _ _ _ rfl _ _ rfl (conv_str hW.2.2 pn Hpn.out)) ?_; (try simp only [List.getElem_toArray, List.getElem_cons_zero, List.getElem_cons_succ, Act.put, List.setIfInBounds_toArray, List.set_cons_zero, List.set_cons_succ]))
  skip
  (refine anyB_step 11 rfl (by kernel_rfl) ?_; (try simp only [List.getElem_toArray, List.getElem_cons_zero, List.getElem_cons_succ]))
  go_wp2_with (go_at_call 129; go_must (refine (iput_box F R ib seed s own ep (strOfNums hd) (strOfNums (tDraw F R tseed (pn + 28) tleft tp).1) (strOfNums pl) wd HI1.out (by rw [strOfNums_size]; have := Hpn.out; omega)).mono ?_; rintro e w2 ⟨rfl, h1, h2⟩; have P1 := Lib.hid h1; have P2 := Lib.hid h2; clear h1 h2))
  refine ⟨nofun, ?_⟩
  (refine anyB_done (by kernel_rfl) ?_)
  go_wp2
  go_ret2
  refine ⟨A, c, rfl, ?_⟩
  obtain ⟨own', q1, q2⟩ := P1.out
  have hoh : ∀ b ∈ own, Hard wd b := fun b hb => (HI1.out.blocks b hb).1
  have hdis : ∀ b ∈ own, b ∉ town1 := fun b hb hx => by
    rcases D4.out b hx with h | h
    · exact Hap.out b hb h
    · have := (HI.out.blocks b hb).2
      omega
  have e28 : pl.length + 28 = pn + 28 := by rw [Hpn.out]
  refine ⟨?_, D2.out, ?_, own', town1, ?_, ?_, ?_, ?_, D4.out⟩
  · rw [e28]; exact HS.out.2.1.hard P2.out hoh
  · exact (HKd.out.mono (by intro x hx _; simp [hx])).then (P2.out.mono (by intro x hx _; simp [hx]))
  · rw [e28]; exact HT1.out.keep P2.out hoh (fun b hb hx => hdis b hx hb)
  · rw [e28]; exact q1
  · intro b hb hx
    rcases q2 b hb with h | h
    · exact hdis b h hx
    · have := (HT1.out.blocks b hx).2
      omega
  · intro b hb
    rcases q2 b hb with h | h
    · exact .inl h
    · have := HKd.out.size
      exact .inr (by omega)
end Go.Proofs.YtiboflejmnjdhaaDoor
end
section
set_option linter.unusedVariables false
set_option linter.unusedSimpArgs false
set_option maxRecDepth 100000
namespace Go.Proofs.YtiboflejmnjdhaaDoor
open Go Go.RowKit Go.Conc
theorem iput_name (F R : List Int) (ib : Nat) (seed : List Int) (s : St) (own : List Nat) (k0 : ByteArray) (v : List Int) (w : World) (hI : IsI F R w ib seed s own) (hv : v.length = 32) :
    Calls Tryd.prog 127 #[.pointer (some ⟨ib, 1, none⟩), .string k0, .agg (w8 v)] w fun e w' => e = .returned (.tuple #[]) ∧ (∃ own', IsI F R w' ib seed { s with nm := mput k0 v s.nm } own' ∧ Fresh w own own') ∧ Kp own w w' ∧ w'.cell? ⟨ib, 0, none⟩ = w.cell? ⟨ib, 0, none⟩ ∧ ∀ tb, w.cell? ⟨ib, 0, none⟩ = some (.pointer (some ⟨tb, 0, none⟩)) → ∀ i, w'.cell? ⟨tb, i, none⟩ = w.cell? ⟨tb, i, none⟩ := by
  obtain ⟨tb, ch, sA, sc, mn, mb, rfl, h1', h2, h3, h4, h5⟩ := hI.ex
  refine (put_name ib 1 122 (irow tb mn mb) mn k0 v s.nm w h1' rfl h3 hv).mono ?_
  rintro e w' ⟨rfl, r, k1, k2, k3, k4⟩
  have hin := hI.blocks
  have hmap : ∀ x, x = ib ∨ mn = some x → x ∉ tb :: ch.toList ∧ mb ≠ some x := by
    obtain ⟨lA, lc, q, bg, t1, t2, t3, t4⟩ := h2.row
    rintro x (rfl | hx)
    · refine ⟨?_, ?_⟩
      · intro hb
        rcases List.mem_cons.1 hb with rfl | hb
        · exact blk_ne h1' t1 (by decide) rfl
        · cases ch with
          | none => simp at hb
          | some cb =>
            obtain ⟨_, _, _, t5⟩ := t4
            obtain rfl : x = cb := by simpa using hb
            have := h1'.symm.trans t5; cases this
      · rintro rfl
        obtain ⟨_, _, t5, _⟩ := h4
        have := h1'.symm.trans t5; cases this
    · subst hx
      obtain ⟨_, _, t6, _⟩ := h3
      refine ⟨?_, fun e => h5 x rfl e⟩
      intro hb
      rcases List.mem_cons.1 hb with rfl | hb
      · have := t1.symm.trans t6; cases this
      · cases ch with
        | none => simp at hb
        | some cb =>
          obtain ⟨_, _, _, t5⟩ := t4
          obtain rfl : x = cb := by simpa using hb
          have := t6.symm.trans t5; cases this
  have hS : ∀ b ∈ ib :: mn.toList, b = ib ∨ mn = some b := by
    intro b hb
    rcases List.mem_cons.1 hb with rfl | hb
    · exact .inl rfl
    · exact .inr (by simpa using hb)
  have hSb : ∀ b ∈ ib :: mn.toList, Hard w b := fun b hb => (hin b (by rcases hS b hb with rfl | h <;> simp [*])).1
  have hmn : ∀ b, mb = some b → b < w.heap.size := fun b e => (hin b (by simp [e])).2
  refine ⟨rfl, ⟨ib :: (tb :: ch.toList) ++ ([r] ++ mb.toList), ⟨⟨tb, ch, sA, sc, some r, mb, by simp, k2, h2.keep k4 hSb ?_, k1, h4.keep k4 ?_, ?_⟩, ?_, hI.lenb⟩, ?_⟩, k4.mono ?_, ?_, ?_⟩
  · intro b hb hx
    exact (hmap b (hS b hx)).1 hb
  · intro b hb hx
    exact (hmap b (hS b hx)).2 hb
  · rintro x hx hr
    obtain rfl : r = x := Option.some.inj hx
    rcases k3 with k3 | ⟨_, k3⟩
    · exact h5 r k3 hr
    · have := hmn r hr
      omega
  · intro k u hk
    simp only [mget_mput] at hk
    split at hk
    · cases hk; exact hv
    · exact hI.len k u hk
  · intro b hb
    simp only [List.cons_append, List.mem_cons, List.mem_append, List.not_mem_nil, or_false, List.nil_append] at hb
    rcases hb with hb | hb | hb | hb | hb
    · simp [hb]
    · simp [hb]
    · simp [hb]
    · rcases k3 with rfl | ⟨rfl, k3⟩
      · left; simp [hb]
      · exact .inr (hb ▸ k3)
    · left; simp only [List.cons_append, List.mem_cons, List.mem_append]; simp [hb]
  · intro b hb _
    rcases hS b hb with rfl | h <;> simp [*]
  · exact (blk_cell k2 0 rfl).trans (blk_cell h1' 0 rfl).symm
  · intro tb2 hc i
    have hc2 := hc.symm.trans (blk_cell h1' 0 rfl)
    simp only [Option.some.injEq, Value.pointer.injEq, Addr.mk.injEq] at hc2
    obtain ⟨rfl, -, -⟩ := hc2
    have hlt : tb < w.heap.size := h2.inn tb (by simp)
    refine World.cell?_of_block (w := w) (a := ⟨tb, i, none⟩) (k4.block tb hlt ?_)
    intro hx
    exact (hmap tb (hS tb hx)).1 (by simp)
/-- A name, and what the mode is behind it. -/
def inm (F R seed : List Int) (s : St) (k : ByteArray) : List Int × St :=
  match mget k s.nm with
  | some v => (v, s)
  | none => ((tDraw F R seed 32 s.left s.p).1, { s with left := (tDraw F R seed 32 s.left s.p).2.1, p := (tDraw F R seed 32 s.left s.p).2.2, at_ := s.at_ + 32, nm := mput k (tDraw F R seed 32 s.left s.p).1 s.nm })
section
variable {P : Program} {ops : Array Oper} {md : Region.Mode} {Q : Exit → Act → World → Prop} {S : World → Prop} {B ZS : List Nat} {Ke : Act → World → Prop}
/-- One of two operations may come up now. -/
theorem anyB_two (k l : Nat) {o o2 : Oper} {n : Nat} {listed : Array Bool} {a : Act} {w : World} (ho : ops[k]? = some o) (ho2 : ops[l]? = some o2) (hr : decide (Region.ready md ops listed = [k, l]) = true)
    (h : wpList P ops (thn Q fun a' w' => (B.contains k = true → S w') ∧ AnyB P md ops Q S B ZS Ke n (listed.setIfInBounds k true) a' w') [o] a w)
    (h2 : wpList P ops (thn Q fun a' w' => (B.contains l = true → S w') ∧ AnyB P md ops Q S B ZS Ke n (listed.setIfInBounds l true) a' w') [o2] a w) : AnyB P md ops Q S B ZS Ke (n + 1) listed a w := by
  have hr := of_decide_eq_true hr
  refine ⟨fun h1 => (by rw [hr] at h1; cases h1), fun i hi => ?_⟩
  rw [hr] at hi
  simp only [List.mem_cons, List.not_mem_nil, or_false] at hi
  rcases hi with rfl | rfl
  · exact wpOp_thn ho h
  · exact wpOp_thn ho2 h2
end
end Go.Proofs.YtiboflejmnjdhaaDoor
end
section
set_option linter.unusedVariables false
set_option linter.unusedSimpArgs false
set_option maxRecDepth 100000
namespace Go.Proofs.YtiboflejmnjdhaaDoor
open Go Go.RowKit Go.Conc
theorem Rd.set_ne {w : World} {A : Option Addr} {c : Nat} {xs : List Int} (h : Rd w A c xs) {nb : Nat} (hn : 0 < xs.length → ∀ a, A = some a → a.block ≠ nb) (cs : Array Value) : Rd (w.setRow nb cs) A c xs :=
  ⟨h.le, h.big, h.nil, fun h0 => by
    obtain ⟨b, off, e, hc⟩ := h.cells h0
    exact ⟨b, off, e, fun j hj => (World.cell?_of_block (w := w) (a := ⟨b, off + j, none⟩) (setRow_other w nb b cs (hn h0 _ e))).trans (hc j hj)⟩⟩
theorem rangeAt_of {w : World} {b off : Nat} {d : List Int} (h : ∀ j, j < d.length → w.cell? ⟨b, off + j, none⟩ = some (.int .u8 (d.getD j 0))) : w.rangeAt b off (bytes d) := by
  intro j u hj
  have hjl : j < d.length := by
    have := (List.getElem?_eq_some_iff.1 hj).1
    simpa [bytes] using this
  rw [h j hjl]
  simp [bytes, hjl] at hj
  simp [hj, hjl]
theorem arrayAt_name (A : Option Addr) (c : Nat) (W : World) : (Instr.arrayAt 47 (.slice A 32 c)).run Tryd.prog W = .ok (.pointer A) W := by
  simp [Instr.arrayAt, run_underlying Tryd.underlying47]
/-- A mode whose tape's bytes lie in no block of X. -/
structure IsIo (X : Nat → Prop) (F R : List Int) (w : World) (ib : Nat) (seed : List Int) (s : St) (own : List Nat) : Prop where
  isI : IsI F R w ib seed s own
  off : ∀ tb, w.cell? ⟨ib, 0, none⟩ = some (.pointer (some ⟨tb, 0, none⟩)) → ∀ i, i < 2 → ∀ A n c a, w.cell? ⟨tb, i, none⟩ = some (.slice A n c) → 0 < n → A = some a → ¬ X a.block
theorem IsIo.set {X : Nat → Prop} {F R : List Int} {w : World} {ib : Nat} {seed : List Int} {s : St} {own : List Nat} (h : IsIo X F R w ib seed s own) {nb : Nat} (h0 : X nb) (hn : nb ∉ own) (cs : Array Value) : IsIo X F R (w.setRow nb cs) ib seed s own := by
  obtain ⟨tb, ch, sA, sc, mn, mb, rfl, g1, g2, g3, g4, g5⟩ := h.isI.ex
  have hks : Kp [nb] w (w.setRow nb cs) := (Kp.refl _ _).setRow (by simp) cs
  have hne : ∀ b, b ∈ ib :: (tb :: ch.toList) ++ (mn.toList ++ mb.toList) → b ∉ [nb] := fun b hb hx => by
    obtain rfl : b = nb := by simpa using hx
    exact hn hb
  obtain ⟨lA, lc, q, bg, t1, t2, t3, t4⟩ := g2.row
  have ho := h.off tb (blk_cell g1 0 rfl)
  refine ⟨⟨⟨tb, ch, sA, sc, mn, mb, rfl, hks.at_ g1 (hne _ (by simp)), ⟨lA, lc, q, bg, hks.at_ t1 (hne _ (by simp)), ?_, ?_, t4.kp hks (fun c e => hne c (by simp [e]))⟩, g3.keep hks (fun r e => hne r (by simp [e])), g4.keep hks (fun r e => hne r (by simp [e])), g5⟩, h.isI.len, h.isI.lenb⟩, ?_⟩
  · exact t2.set_ne (fun hp a ha e => ho 0 (by omega) _ _ _ a (blk_cell t1 0 rfl) hp ha (e ▸ h0)) cs
  · exact t3.set_ne (fun hp a ha e => ho 1 (by omega) _ _ _ a (blk_cell t1 1 rfl) hp ha (e ▸ h0)) cs
  · intro tb2 hc i hi A n c a h3 h4 h5
    have hib : ib ≠ nb := fun e => hne ib (by simp) (by simp [e])
    have e1 : (w.setRow nb cs).cell? ⟨ib, 0, none⟩ = w.cell? ⟨ib, 0, none⟩ := World.cell?_of_block (w := w) (a := ⟨ib, 0, none⟩) (setRow_other w nb ib cs hib)
    rw [e1] at hc
    have hc2 := hc.symm.trans (blk_cell g1 0 rfl)
    simp only [Option.some.injEq, Value.pointer.injEq, Addr.mk.injEq] at hc2
    obtain ⟨rfl, -, -⟩ := hc2
    have htb : tb ≠ nb := fun e => hne tb (by simp) (by simp [e])
    have e2 : (w.setRow nb cs).cell? ⟨tb, i, none⟩ = w.cell? ⟨tb, i, none⟩ := World.cell?_of_block (w := w) (a := ⟨tb, i, none⟩) (setRow_other w nb tb cs htb)
    rw [e2] at h3
    exact ho i hi A n c a h3 h4 h5
theorem IsIo.cells {X Y : Nat → Prop} {F R : List Int} {w w' : World} {ib : Nat} {seed : List Int} {s s' : St} {own own' : List Nat} (h : IsIo X F R w ib seed s own) (hI : IsI F R w' ib seed s' own') (hY : ∀ b, Y b → X b ∨ w.heap.size ≤ b) (h0 : w'.cell? ⟨ib, 0, none⟩ = w.cell? ⟨ib, 0, none⟩) (h1 : ∀ tb, w.cell? ⟨ib, 0, none⟩ = some (.pointer (some ⟨tb, 0, none⟩)) → ∀ i, w'.cell? ⟨tb, i, none⟩ = w.cell? ⟨tb, i, none⟩) : IsIo Y F R w' ib seed s' own' := by
  obtain ⟨tb, ch, sA, sc, mn, mb, rfl, g1, g2, g3, g4, g5⟩ := h.isI.ex
  obtain ⟨lA, lc, q, bg, t1, t2, t3, t4⟩ := g2.row
  have ho := h.off tb (blk_cell g1 0 rfl)
  refine ⟨hI, ?_⟩
  intro tb2 hc i hi A n c a hA hn ha hy
  rw [h0] at hc
  rw [h1 tb2 hc i] at hA
  have hc2 := hc.symm.trans (blk_cell g1 0 rfl)
  simp only [Option.some.injEq, Value.pointer.injEq, Addr.mk.injEq] at hc2
  obtain ⟨rfl, -, -⟩ := hc2
  rcases hY _ hy with hx | hx
  · exact ho i hi A n c a hA hn ha hx
  · match i, hi with
    | 0, _ =>
      have hA2 := hA.symm.trans (blk_cell t1 0 rfl)
      simp only [Option.some.injEq, Value.slice.injEq] at hA2
      obtain ⟨rfl, rfl, rfl⟩ := hA2
      have := t2.lt hn a ha
      omega
    | 1, _ =>
      have hA2 := hA.symm.trans (blk_cell t1 1 rfl)
      simp only [Option.some.injEq, Value.slice.injEq] at hA2
      obtain ⟨rfl, rfl, rfl⟩ := hA2
      have := t3.lt hn a ha
      omega
theorem IsI.io {F R : List Int} {w : World} {ib : Nat} {seed : List Int} {s : St} {own : List Nat} (h : IsI F R w ib seed s own) : IsIo (fun b => w.heap.size ≤ b) F R w ib seed s own := by
  obtain ⟨tb, ch, sA, sc, mn, mb, ho, g1, g2, g3, g4, g5⟩ := h.ex
  obtain ⟨lA, lc, q, bg, t1, t2, t3, t4⟩ := g2.row
  refine ⟨h, ?_⟩
  intro tb2 hc i hi A n c a hA hn ha hy
  have hy : w.heap.size ≤ a.block := hy
  have hc2 := hc.symm.trans (blk_cell g1 0 rfl)
  simp only [Option.some.injEq, Value.pointer.injEq, Addr.mk.injEq] at hc2
  obtain ⟨rfl, -, -⟩ := hc2
  match i, hi with
  | 0, _ =>
    have hA2 := hA.symm.trans (blk_cell t1 0 rfl)
    simp only [Option.some.injEq, Value.slice.injEq] at hA2
    obtain ⟨rfl, rfl, rfl⟩ := hA2
    have := t2.lt hn a ha
    omega
  | 1, _ =>
    have hA2 := hA.symm.trans (blk_cell t1 1 rfl)
    simp only [Option.some.injEq, Value.slice.injEq] at hA2
    obtain ⟨rfl, rfl, rfl⟩ := hA2
    have := t3.lt hn a ha
    omega
/-- Behind what leaves all old blocks. -/
theorem IsIo.below {X Y : Nat → Prop} {F R : List Int} {w w' : World} {ib : Nat} {seed : List Int} {s : St} {own : List Nat} (h : IsIo X F R w ib seed s own) (hb : Below w.heap.size w w') (hY : ∀ b, Y b → X b ∨ w.heap.size ≤ b) : IsIo Y F R w' ib seed s own := by
  obtain ⟨tb, ch, sA, sc, mn, mb, ho, g1, g2, g3, g4, g5⟩ := h.isI.ex
  refine h.cells (h.isI.below hb) hY (hb.cell (p := ⟨ib, 0, none⟩) (blk_lt g1)) ?_
  intro tb2 hc i
  have hc2 := hc.symm.trans (blk_cell g1 0 rfl)
  simp only [Option.some.injEq, Value.pointer.injEq, Addr.mk.injEq] at hc2
  obtain ⟨rfl, -, -⟩ := hc2
  exact hb.cell (p := ⟨tb, i, none⟩) (g2.inn tb (by simp))
theorem IsIo.mono {X Y : Nat → Prop} {F R : List Int} {w : World} {ib : Nat} {seed : List Int} {s : St} {own : List Nat} (h : IsIo X F R w ib seed s own) (hY : ∀ b, Y b → X b) : IsIo Y F R w ib seed s own :=
  ⟨h.isI, fun tb hc i hi A n c a hA hn ha hy => h.off tb hc i hi A n c a hA hn ha (hY _ hy)⟩
theorem idraw_any (X : Nat → Prop) (F R : List Int) (ib : Nat) (seed : List Int) (s : St) (own : List Nat) (w : World) (hI : IsIo X F R w ib seed s own) (hX : ∀ b, X b → b < w.heap.size) (hTb : Tabs F R w)
    (hl : seed.length ≤ 10000000000000) (hll : s.left.length ≤ 10000000000000) (hp : s.p ≤ 9007199254600000) (hat : s.at_ ≤ 9007199254600000) :
    ∃ tb, w.cell? ⟨ib, 0, none⟩ = some (.pointer (some ⟨tb, 0, none⟩)) ∧ Calls Tryd.prog 14 #[.pointer (some ⟨tb, 0, none⟩), .int .i64 32] w fun e w' => ∃ A c, e = .returned (.slice A 32 c) ∧ Rd w' A c (tDraw F R seed 32 s.left s.p).1 ∧
      Kp own w w' ∧ ∃ own', IsIo X F R w' ib seed { s with left := (tDraw F R seed 32 s.left s.p).2.1, p := (tDraw F R seed 32 s.left s.p).2.2, at_ := s.at_ + 32 } own' ∧ Fresh w own own' := by
  obtain ⟨tb, ch, sA, sc, mn, mb, rfl, h1, h2, h3, h4, h5⟩ := hI.isI.ex
  have hin := hI.isI.blocks
  have hof := hI.off tb (blk_cell h1 0 rfl)
  refine ⟨tb, blk_cell h1 0 rfl, ?_⟩
  obtain ⟨lA, lc, q, bg, t1, t2, t3, t4⟩ := h2.row
  have hG : LeftIn w tb (fun b => ¬ X b) := fun A n c a hc h0 ha => hof 1 (by omega) A n c a hc h0 ha
  refine (draw_any2 (fun b => ¬ X b) F R tb ch sA sc seed s.left s.p s.at_ 32 w hTb h2 hl hll (by omega) (by omega) hp hat hG (fun b hb hx => by have := hX b hx; omega)).mono ?_
  rintro e w' ⟨A, c, cb, rfl, k1, k2, k3, k4, k5⟩
  obtain ⟨A1, c1, e1, k6, k7⟩ := k1.rd
  rw [Value.slice.injEq] at e1
  obtain ⟨rfl, -, rfl⟩ := e1
  have hbl : ∀ b, b ∈ ib :: (tb :: ch.toList) ++ (mn.toList ++ mb.toList) → b < w.heap.size := fun b hb => (hin b hb).2
  have hdis : ∀ b, (b = ib ∨ b ∈ mn.toList ++ mb.toList) → b ∉ tb :: ch.toList := by
    intro b hb hx
    have hcell : ∀ o, w.heap[b]? = some o → (∃ es cl, o = .map es cl) ∨ (∃ cs f, o = .cells cs 122 f) → False := by
      intro o ho hk
      rcases List.mem_cons.1 hx with rfl | hx
      · rw [t1] at ho
        obtain rfl := Option.some.inj ho
        rcases hk with ⟨_, _, hk⟩ | ⟨_, _, hk⟩
        · cases hk
        · simp only [Obj.cells.injEq] at hk
          exact absurd hk.2.1 (by decide)
      · cases ch with
        | none => simp at hx
        | some c0 =>
          obtain ⟨_, s1, r1, t5⟩ := t4
          obtain rfl : b = c0 := by simpa using hx
          rw [t5] at ho
          obtain rfl := Option.some.inj ho
          rcases hk with ⟨_, _, hk⟩ | ⟨_, _, hk⟩ <;> cases hk
    rcases hb with rfl | hb
    · exact hcell _ h1 (.inr ⟨_, _, rfl⟩)
    · rcases List.mem_append.1 hb with hb | hb
      · cases mn with
        | none => simp at hb
        | some r =>
          obtain ⟨es, cl, hm, _⟩ := h3
          obtain rfl : b = r := by simpa using hb
          exact hcell _ hm (.inl ⟨_, _, rfl⟩)
      · cases mb with
        | none => simp at hb
        | some r =>
          obtain ⟨es, cl, hm, _⟩ := h4
          obtain rfl : b = r := by simpa using hb
          exact hcell _ hm (.inl ⟨_, _, rfl⟩)
  refine ⟨A, c, rfl, k6, k4.mono (by intro b hb _; simp only [List.cons_append, List.mem_cons, List.mem_append] at hb ⊢; rcases hb with hb | hb <;> simp [hb]), ib :: (tb :: [cb]) ++ (mn.toList ++ mb.toList), ?_, ?_⟩
  · obtain ⟨lA', lc', q', bg', r1, r2, r3, h6, s1, r4, r5⟩ := k2.row
    have hrow := k4.at_ h1 (hdis ib (.inl rfl))
    refine ⟨⟨⟨tb, some cb, sA, sc, mn, mb, by simp, hrow, k2, h3.keep k4 (fun r e => hdis r (.inr (by simp [e]))), h4.keep k4 (fun r e => hdis r (.inr (by simp [e]))), h5⟩, hI.isI.len, hI.isI.lenb⟩, ?_⟩
    intro tb2 hc i hi A' n' c' a hA h0 ha
    have hc2 := hc.symm.trans (blk_cell hrow 0 rfl)
    simp only [Option.some.injEq, Value.pointer.injEq, Addr.mk.injEq] at hc2
    obtain ⟨rfl, -, -⟩ := hc2
    match i, hi with
    | 0, _ =>
      have hA2 := hA.symm.trans (blk_cell r1 0 rfl)
      simp only [Option.some.injEq, Value.slice.injEq] at hA2
      obtain ⟨rfl, rfl, rfl⟩ := hA2
      exact hof 0 (by omega) _ _ _ a (blk_cell t1 0 rfl) h0 ha
    | 1, _ => exact k5 A' n' c' a hA h0 ha
  · intro b hb
    simp only [List.cons_append, List.mem_cons, List.mem_append, List.not_mem_nil, or_false, List.nil_append] at hb ⊢
    rcases hb with hb | hb | hb | hb
    · simp [hb]
    · simp [hb]
    · rcases k3 with rfl | ⟨rfl, k3⟩
      · left; simp [hb]
      · exact .inr (hb ▸ k3)
    · rcases hb with hb | hb <;> simp [hb]
end Go.Proofs.YtiboflejmnjdhaaDoor
end
section
set_option linter.unusedVariables false
set_option linter.unusedSimpArgs false
set_option maxRecDepth 100000
namespace Go.Proofs.YtiboflejmnjdhaaDoor
open Go Go.RowKit Go.Conc
theorem iname_any2 (X : Nat → Prop) (F R : List Int) (ib : Nat) (seed : List Int) (s : St) (own : List Nat) (kA : Option Addr) (kn kc : Nat) (key : List Int) (w : World)
    (hX : ∀ b, X b → b < w.heap.size) (hTb : Tabs F R w) (hIo : IsIo X F R w ib seed s own) (hl : seed.length ≤ 10000000000000) (hll : s.left.length ≤ 10000000000000) (hp : s.p ≤ 9007199254600000) (hat : s.at_ ≤ 9007199254600000)
    (hkn : kn = key.length) (hk : Rd w kA kc key) :
    Calls Tryd.prog 122 #[.pointer (some ⟨ib, 0, none⟩), .slice kA kn kc] w fun e w' => e = .returned (vvn (inm F R seed s (strOfNums key)).1) ∧ (∃ own', IsIo X F R w' ib seed (inm F R seed s (strOfNums key)).2 own' ∧ Fresh w own own') ∧ Kp own w w' := by
  have hI := hIo.isI
  have HIo := Lib.hid hIo
  clear hIo
  obtain ⟨tb, ch, sA, sc, mn, mb, ho, h1, h2, h3, h4, h5⟩ := hI.ex
  obtain ⟨r, hr⟩ : ∃ r, r = mget (strOfNums key) s.nm := ⟨_, rfl⟩
  obtain ⟨v, fb, hf, hv, hfb, hfv⟩ : ∃ v fb, found (strOfNums key) s.nm vvn (vvn (List.replicate 32 0)) = .tuple #[.agg (w8 v), .bool fb] ∧ v.length = 32 ∧ fb = r.isSome ∧ ∀ x, r = some x → v = x := by
    rw [hr]
    unfold found
    cases h : mget (strOfNums key) s.nm with
    | none => exact ⟨_, _, rfl, by simp, rfl, by simp⟩
    | some v => exact ⟨_, _, rfl, hI.len _ _ h, rfl, by simp⟩
  have HI := Lib.hid hI
  have HTb := Lib.hid hTb
  have Hk := Lib.hid hk
  have Hkn := Lib.hid hkn
  have H1 := Lib.hid h1
  have H3 := Lib.hid h3
  have Hf := Lib.hid hf
  have Hv := Lib.hid hv
  have Hr := Lib.hid hr
  have Hfb := Lib.hid hfb
  have Hfv := Lib.hid hfv
  have hsz : Hid ((Tryd.prog.info? 47).map (·.size) = some (w8 v).size) := Lib.hid (by rw [w8_size, hv]; kernel_rfl)
  have hold : Hid (z32.size = (w8 v).size) := Lib.hid (by rw [w8_size, hv]; rfl)
  clear hTb hI hk hkn ho h1 h2 h3 h4 h5 hr hf hv hfb hfv
  go_enter Tryd.func122, Tryd.ntmps122
  go_upto_region 1 with (fail)
  generalize hw1 : World.alloc w _ = w1
  have hn := new_name hw1
  have HN := Lib.hid hn.2
  have HB := Lib.hid hn.1
  have hz : w1.heap.size = w.heap.size + 1 := by rw [← hw1]; simp
  have Hz := Lib.hid hz
  clear hw1 hn hz
  go_cut [5, 6] from 7 to 33 (fun s5 s6 wx => ∃ nb : Nat, s5 = .pointer (some ⟨nb, 0, none⟩) ∧ s6 = .bool fb ∧ Hid (w1.heap.size ≤ nb ∧ wx.heap[nb]? = some (.cells (w8 v) 47 (0, 0)) ∧ Below w1.heap.size w1 wx))
  case first =>
    refine seg_begin (fun W => Rd W kA kc key) [4, 9] (by kernel_rfl) ?_
    have HS : Hid (Rd w1.drew kA kc key) := Lib.hid ((Hk.out.below HB.out).drewN 1)
    have H1d : Hid (w1.drew.cell? ⟨ib, 1, none⟩ = some (.map mn)) := Lib.hid (blk_cell (below_at HB.out H1.out (blk_lt H1.out)) 1 rfl)
    have H3d : Hid (IsTb w1.drew mn Value.string vvn s.nm) := Lib.hid ((H3.out.below HB.out).below (Below.refl _ w1).drew)
    have HBd : Hid (Below w1.heap.size w1 w1.drew) := Lib.hid (Below.refl _ w1).drew
    generalize w1.drew = wd at *
    (refine seg_take 0 ?_ rfl (by kernel_rfl) (by kernel_rfl) (by kernel_rfl) (by kernel_rfl) (by kernel_rfl) rfl (fun _ _ _ h => h) rfl ?_ ?_; rotate_left; (focus (intro w; go_simp; try with_reducible rfl)); (try simp only [List.getElem_toArray, List.getElem_cons_zero, List.getElem_cons_succ, Act.put, List.setIfInBounds_toArray, List.set_cons_zero, List.set_cons_succ]); refine seg_take 1 ?_ rfl (by kernel_rfl) (by kernel_rfl) (by kernel_rfl) (by kernel_rfl) (by kernel_rfl) rfl (fun _ _ _ h => h) rfl ?_ ?_; rotate_left; (focus (intro w; go_simp; try with_reducible rfl)); (try simp only [List.getElem_toArray, List.getElem_cons_zero, List.getElem_cons_succ, Act.put, List.setIfInBounds_toArray, List.set_cons_zero, List.set_cons_succ]); refine seg_take 2 ?_ rfl (by kernel_rfl) (by kernel_rfl) (by kernel_rfl) (by kernel_rfl) (by kernel_rfl) rfl (fun _ _ _ h => h) rfl ?_ ?_; rotate_left; (focus (intro w; go_simp; try with_reducible rfl)); (try simp only [List.getElem_toArray, List.getElem_cons_zero, List.getElem_cons_succ, Act.put, List.setIfInBounds_toArray, List.set_cons_zero, List.set_cons_succ]); refine seg_take 3 ?_ rfl (by kernel_rfl) (by kernel_rfl) (by kernel_rfl) (by kernel_rfl) (by kernel_rfl) rfl (fun _ _ _ h => h) rfl ?_ ?_; rotate_left; (focus (intro w; go_simp; try with_reducible rfl)); (try simp only [List.getElem_toArray, List.getElem_cons_zero, List.getElem_cons_succ, Act.put, List.setIfInBounds_toArray, List.set_cons_zero, List.set_cons_succ]))
    (refine seg_read 4 (.string (strOfNums key)) rfl (by kernel_rfl) (by kernel_rfl) (by kernel_rfl) (by kernel_rfl) (by kernel_rfl) (by kernel_rfl) (fun _ _ _ h => h) rfl HS.out (fun W hW => yields_conv _ _ _ rfl _ _ rfl (conv_str hW kn Hkn.out)) ?_; (try simp only [List.getElem_toArray, List.getElem_cons_zero, List.getElem_cons_succ, Act.put, List.setIfInBounds_toArray, List.set_cons_zero, List.set_cons_succ]))
    skip
    refine anyB_two 5 9 rfl rfl (by kernel_rfl) ?_ ?_
    · go_wp2_with (go_at_call 126; go_must (refine (get_name ib 1 mn (strOfNums key) s.nm wd H1d.out H3d.out (HI.out.len _)).mono ?_; rintro e w2 ⟨he, h2⟩; rw [Hf.out] at he; subst he; have HB1 := Lib.hid h2; clear h2))
      refine ⟨nofun, ?_⟩
      (refine seg_take 6 ?_ rfl (by kernel_rfl) (by kernel_rfl) (by kernel_rfl) (by kernel_rfl) (by kernel_rfl) rfl (fun _ _ _ h => h) rfl ?_ ?_; rotate_left; (focus (intro w; go_simp; try with_reducible rfl)); (try simp only [List.getElem_toArray, List.getElem_cons_zero, List.getElem_cons_succ, Act.put, List.setIfInBounds_toArray, List.set_cons_zero, List.set_cons_succ]); refine seg_take 7 ?_ rfl (by kernel_rfl) (by kernel_rfl) (by kernel_rfl) (by kernel_rfl) (by kernel_rfl) rfl (fun _ _ _ h => h) rfl ?_ ?_; rotate_left; (focus (intro w; go_simp; try with_reducible rfl)); (try simp only [List.getElem_toArray, List.getElem_cons_zero, List.getElem_cons_succ, Act.put, List.setIfInBounds_toArray, List.set_cons_zero, List.set_cons_succ]); refine seg_take 8 ?_ rfl (by kernel_rfl) (by kernel_rfl) (by kernel_rfl) (by kernel_rfl) (by kernel_rfl) rfl (fun _ _ _ h => h) rfl ?_ ?_; rotate_left; (focus (intro w; go_simp; try with_reducible rfl)); (try simp only [List.getElem_toArray, List.getElem_cons_zero, List.getElem_cons_succ, Act.put, List.setIfInBounds_toArray, List.set_cons_zero, List.set_cons_succ]))
      have hbw : Below w1.heap.size w1 w2 := HBd.out.trans (HB1.out.mono HBd.out.size)
      have HBw := Lib.hid hbw
      clear hbw
      have HSw := Lib.hid (HS.out.below HB1.out)
      (refine anyB_step 9 rfl (by kernel_rfl) ?_; (try simp only [List.getElem_toArray, List.getElem_cons_zero, List.getElem_cons_succ]))
      go_wp2
      refine ⟨fun _ => HSw.out.alloc _, ?_⟩
      skip
      (refine anyB_step 10 rfl (by kernel_rfl) ?_; (try simp only [List.getElem_toArray, List.getElem_cons_zero, List.getElem_cons_succ]))
      go_wp2_with (with_reducible refine wpList_store_new rfl 47 _ _ rfl _ rfl rfl _ _ hsz.out hold.out (w8_one _) ?_)
      show AnyB _ _ _ _ _ _ _ _ _ _ _ _
      (refine seg_take 11 ?_ rfl (by kernel_rfl) (by kernel_rfl) (by kernel_rfl) (by kernel_rfl) (by kernel_rfl) rfl (fun _ _ _ h => h) rfl ?_ ?_; rotate_left; (focus (intro w; go_simp; try with_reducible rfl)); (try simp only [List.getElem_toArray, List.getElem_cons_zero, List.getElem_cons_succ, Act.put, List.setIfInBounds_toArray, List.set_cons_zero, List.set_cons_succ]))
      (refine anyB_done (by kernel_rfl) ?_)
      go_wp2
      go_meet
      exact ⟨w2.heap.size, rfl, rfl, Lib.hid ⟨HBw.out.size, new_at rfl, HBw.out.alloc HBw.out.size _⟩⟩
    · go_wp2
      refine ⟨fun _ => HS.out.alloc _, ?_⟩
      generalize hwe : World.alloc wd _ = we
      have hn2 := new_name hwe
      have HN2 := Lib.hid hn2.2
      have HB2 := Lib.hid hn2.1
      have H1e : Hid (we.cell? ⟨ib, 1, none⟩ = some (.map mn)) := Lib.hid ((hn2.1.cell (p := ⟨ib, 1, none⟩) (World.block_lt_of_cell? wd _ H1d.out)).trans H1d.out)
      have H3e : Hid (IsTb we mn Value.string vvn s.nm) := Lib.hid (H3d.out.below hn2.1)
      clear hn2 hwe
      skip
      (refine anyB_step 5 rfl (by kernel_rfl) ?_; (try simp only [List.getElem_toArray, List.getElem_cons_zero, List.getElem_cons_succ]))
      go_wp2_with (go_at_call 126; go_must (refine (get_name ib 1 mn (strOfNums key) s.nm we H1e.out H3e.out (HI.out.len _)).mono ?_; rintro e w2 ⟨he, h2⟩; rw [Hf.out] at he; subst he; have HB1 := Lib.hid h2; clear h2))
      refine ⟨nofun, ?_⟩
      (refine seg_take 6 ?_ rfl (by kernel_rfl) (by kernel_rfl) (by kernel_rfl) (by kernel_rfl) (by kernel_rfl) rfl (fun _ _ _ h => h) rfl ?_ ?_; rotate_left; (focus (intro w; go_simp; try with_reducible rfl)); (try simp only [List.getElem_toArray, List.getElem_cons_zero, List.getElem_cons_succ, Act.put, List.setIfInBounds_toArray, List.set_cons_zero, List.set_cons_succ]); refine seg_take 7 ?_ rfl (by kernel_rfl) (by kernel_rfl) (by kernel_rfl) (by kernel_rfl) (by kernel_rfl) rfl (fun _ _ _ h => h) rfl ?_ ?_; rotate_left; (focus (intro w; go_simp; try with_reducible rfl)); (try simp only [List.getElem_toArray, List.getElem_cons_zero, List.getElem_cons_succ, Act.put, List.setIfInBounds_toArray, List.set_cons_zero, List.set_cons_succ]); refine seg_take 8 ?_ rfl (by kernel_rfl) (by kernel_rfl) (by kernel_rfl) (by kernel_rfl) (by kernel_rfl) rfl (fun _ _ _ h => h) rfl ?_ ?_; rotate_left; (focus (intro w; go_simp; try with_reducible rfl)); (try simp only [List.getElem_toArray, List.getElem_cons_zero, List.getElem_cons_succ, Act.put, List.setIfInBounds_toArray, List.set_cons_zero, List.set_cons_succ]))
      have HN3 := Lib.hid (below_at HB1.out HN2.out (blk_lt HN2.out))
      (refine anyB_step 10 rfl (by kernel_rfl) ?_; (try simp only [List.getElem_toArray, List.getElem_cons_zero, List.getElem_cons_succ]))
      go_wp2_with (with_reducible refine wpList_store_row rfl 47 _ _ rfl wd.heap.size _ rfl rfl 47 z32 HN3.out hsz.out hold.out (w8_one _) ?_)
      show AnyB _ _ _ _ _ _ _ _ _ _ _ _
      (refine seg_take 11 ?_ rfl (by kernel_rfl) (by kernel_rfl) (by kernel_rfl) (by kernel_rfl) (by kernel_rfl) rfl (fun _ _ _ h => h) rfl ?_ ?_; rotate_left; (focus (intro w; go_simp; try with_reducible rfl)); (try simp only [List.getElem_toArray, List.getElem_cons_zero, List.getElem_cons_succ, Act.put, List.setIfInBounds_toArray, List.set_cons_zero, List.set_cons_succ]))
      (refine anyB_done (by kernel_rfl) ?_)
      go_wp2
      go_meet
      refine ⟨wd.heap.size, rfl, rfl, Lib.hid ⟨HBd.out.size, setRow_heap _ _ _ _ _ _ HN3.out, ?_⟩⟩
      exact below_setRow (HBd.out.trans ((HB2.out.trans (HB1.out.mono HB2.out.size)).mono HBd.out.size)) HBd.out.size _
  case rest =>
    obtain ⟨nb, rfl, rfl, Hw⟩ := hcut
    have HNc := Lib.hid (below_at Hw.out.2.2 HN.out (blk_lt HN.out))
    have Hnb := Lib.hid Hw.out.2.1
    have hbc : Below w.heap.size w wc := HB.out.trans (Hw.out.2.2.mono HB.out.size)
    have HBc := Lib.hid hbc
    clear hbc
    cases fb with
    | true =>
      have hrs : r.isSome = true := Hfb.out.symm
      obtain ⟨x, hx⟩ := Option.isSome_iff_exists.1 hrs
      have hin : Hid (inm F R seed s (strOfNums key) = (v, s)) := Lib.hid (by
        have h1 := Hfv.out x hx
        have h2 := Hr.out.symm.trans hx
        unfold inm
        rw [h2, h1])
      clear hrs hx
      go_wp2_with (first
        | (with_reducible refine wpList_load_row rfl 47 _ rfl nb rfl _ _ (0, 0) _ Hnb.out Tryd.underlying47 rfl hsz.out ?_)
        | (with_reducible refine wpList_store_row rfl 47 _ _ rfl w.heap.size _ rfl rfl 47 z32 HNc.out hsz.out hold.out (w8_one _) ?_))
      refine bodyPost_ret (results_cell_row Tryd.results122 _ _ w.heap.size _ _ (0, 0) _ rfl (setRow_heap _ _ _ _ _ _ HNc.out) Tryd.underlying47 rfl hsz.out) rfl ?_
      have hfin : Below w.heap.size w (wc.setRow w.heap.size (w8 v)) := below_setRow HBc.out (Nat.le_refl _) _
      rw [hin.out]
      exact ⟨rfl, ⟨own, HIo.out.below hfin (fun b hb => .inl hb), fun b hb => .inl hb⟩, Kp.of_below hfin⟩
    | false =>
      have hrn : r = none := by
        have := Hfb.out
        cases r with
        | none => rfl
        | some x => cases this
      have hin : Hid (inm F R seed s (strOfNums key) = ((tDraw F R seed 32 s.left s.p).1, { s with left := (tDraw F R seed 32 s.left s.p).2.1, p := (tDraw F R seed 32 s.left s.p).2.2, at_ := s.at_ + 32, nm := mput (strOfNums key) (tDraw F R seed 32 s.left s.p).1 s.nm })) := Lib.hid (by
        have h2 := Hr.out.symm.trans hrn
        unfold inm
        rw [h2])
      have hIc : IsIo (fun b => X b ∨ (w.heap.size ≤ b ∧ b < wc.heap.size)) F R wc ib seed s own := HIo.out.below HBc.out (fun b hb => hb.elim .inl (fun h => .inr h.1))
      obtain ⟨tbx, hcx, hcall⟩ := idraw_any _ F R ib seed s own wc hIc (fun b hb => hb.elim (fun h => Nat.lt_of_lt_of_le (hX b h) HBc.out.size) (fun h => h.2)) (HTb.out.below HBc.out) hl hll hp hat
      have Hcall := Lib.hid hcall
      have hld : (tDraw F R seed 32 s.left s.p).1.length = 32 := tDraw_len _ _ _ _ _ _
      generalize hd : (tDraw F R seed 32 s.left s.p).1 = d at *
      have hsd : Hid ((Tryd.prog.info? 47).map (·.size) = some (w8 d).size) := Lib.hid (by rw [w8_size, hld]; kernel_rfl)
      have holdd : Hid ((w8 v).size = (w8 d).size) := Lib.hid (by rw [w8_size, w8_size, hld, Hv.out])
      have Hld := Lib.hid hld
      have hsd2 : Hid ((Tryd.prog.info? 47).map (·.size) = some (bytes d).length) := Lib.hid (by rw [bytes_len, hld]; kernel_rfl)
      have hsd3 : Hid ((Tryd.prog.info? 47).map (·.size) = some (bytes d).toArray.size) := Lib.hid (by rw [List.size_toArray, bytes_len, hld]; kernel_rfl)
      have holdd2 : Hid ((w8 v).size = (bytes d).toArray.size) := Lib.hid holdd.out
      have hone : Hid (((bytes d).toArray).all (·.oneCell') = true) := Lib.hid (w8_one d)
      clear hcall hld hrn hd hIc
      have hown : ∀ b ∈ own, b < w.heap.size := fun b hb => (HI.out.blocks b hb).2
      have Hown := Lib.hid hown
      have hnbw : w.heap.size < nb := by have := Hw.out.1; have := Hz.out; omega
      have Hnbw := Lib.hid hnbw
      clear hown hnbw
      have hat9 := arrayAt_name
      go_upto_region 4 with (first
        | (go_at_call 14; go_must (refine Hcall.out.mono ?_; rintro e w4 ⟨A, c, rfl, h1, h2, h3⟩; obtain ⟨b9, off9, rfl, hcells⟩ := h1.cells (by rw [Hld.out]; omega); have H3' := Lib.hid h3; have H2' := Lib.hid h2; have H1' : Hid (w4.rangeAt b9 off9 (bytes d)) := Lib.hid (rangeAt_of hcells); have Hnb4 : Hid (w4.heap[nb]? = some (.cells (w8 v) 47 (0, 0))) := Lib.hid (h2.at_ Hnb.out (fun hx => by have := Hown.out nb hx; have := Hnbw.out; omega)); clear h1 h2 h3 hcells))
        | (with_reducible refine wpList_load_mid rfl 47 _ rfl b9 off9 rfl (bytes d) _ H1'.out Tryd.underlying47 rfl hsd2.out ?_)
        | (with_reducible refine wpList_store_row rfl 47 _ _ rfl nb _ rfl rfl 47 (w8 v) Hnb4.out hsd3.out holdd2.out hone.out ?_))
      have hw5 : ∃ w5, w5 = w4.setRow nb (bytes d).toArray := ⟨_, rfl⟩
      obtain ⟨w5, hw5⟩ := hw5
      rw [← hw5]
      have hI5 := H3'.out
      obtain ⟨own', hI5, hfr⟩ := hI5
      have hnl : nb < wc.heap.size := blk_lt Hnb.out
      have hno : nb ∉ own' := fun hx => (hfr nb hx).elim (fun h => by have := Hown.out _ h; have := Hnbw.out; omega) (fun h => by omega)
      have hI5 := hI5.set (nb := nb) (.inr ⟨(by have := Hnbw.out; omega), hnl⟩) hno (bytes d).toArray
      rw [← hw5] at hI5
      have HI5 := Lib.hid hI5
      have hN5 : w5.heap[nb]? = some (.cells (w8 d) 47 (0, 0)) := by rw [hw5]; exact setRow_heap _ _ _ _ _ _ Hnb4.out
      have hK5 : Kp (nb :: own) wc w5 := by rw [hw5]; exact (H2'.out.mono (by intro b hb _; simp [hb])).setRow (by simp) _
      have hZ5 : w5.heap[w.heap.size]? = some (.cells z32 47 (0, 0)) := hK5.at_ HNc.out (fun hx => (List.mem_cons.1 hx).elim (fun e => by have := Hnbw.out; omega) (fun hx => by have := Hown.out _ hx; omega))
      have hk5 : Rd w5 kA kc key := by
        have hk4 := (Hk.out.below HBc.out).hard H2'.out (fun b hb => ((HI.out.below HBc.out).blocks b hb).1)
        rw [hw5]
        exact hk4.set_ne (fun h0 a ha => by have := Hk.out.lt h0 a ha; have := Hnbw.out; omega) _
      refine seg_begin (fun W => Rd W kA kc key ∧ Hid (W.heap[nb]? = some (.cells (w8 d) 47 (0, 0)))) [4, 5] (by kernel_rfl) ?_
      have HS : Hid (Rd w5.drew kA kc key ∧ Hid (w5.drew.heap[nb]? = some (.cells (w8 d) 47 (0, 0)))) := Lib.hid ⟨hk5.drewN 1, Lib.hid hN5⟩
      have HI6 : Hid (IsIo (fun b => X b ∨ (w.heap.size ≤ b ∧ b < wc.heap.size)) F R w5.drew ib seed _ own') := Lib.hid ⟨hI5.isI.below (Below.refl _ w5).drew, hI5.off⟩
      have HK6 := Lib.hid (hK5.drewN 1)
      have HZ6 : Hid (w5.drew.heap[w.heap.size]? = some (.cells z32 47 (0, 0))) := Lib.hid hZ5
      have Hfr := Lib.hid hfr
      clear hw5 hI5 hN5 hK5 hZ5 hk5 hfr
      have HK6 : Hid (Kp (nb :: own) wc w5.drew) := HK6
      generalize w5.drew = w6 at *
      (refine seg_take 0 ?_ rfl (by kernel_rfl) (by kernel_rfl) (by kernel_rfl) (by kernel_rfl) (by kernel_rfl) rfl (fun _ _ _ h => h) rfl ?_ ?_; rotate_left; (focus (intro w; go_simp; try with_reducible rfl)); (try simp only [List.getElem_toArray, List.getElem_cons_zero, List.getElem_cons_succ, Act.put, List.setIfInBounds_toArray, List.set_cons_zero, List.set_cons_succ]); refine seg_take 1 ?_ rfl (by kernel_rfl) (by kernel_rfl) (by kernel_rfl) (by kernel_rfl) (by kernel_rfl) rfl (fun _ _ _ h => h) rfl ?_ ?_; rotate_left; (focus (intro w; go_simp; try with_reducible rfl)); (try simp only [List.getElem_toArray, List.getElem_cons_zero, List.getElem_cons_succ, Act.put, List.setIfInBounds_toArray, List.set_cons_zero, List.set_cons_succ]); refine seg_take 2 ?_ rfl (by kernel_rfl) (by kernel_rfl) (by kernel_rfl) (by kernel_rfl) (by kernel_rfl) rfl (fun _ _ _ h => h) rfl ?_ ?_; rotate_left; (focus (intro w; go_simp; try with_reducible rfl)); (try simp only [List.getElem_toArray, List.getElem_cons_zero, List.getElem_cons_succ, Act.put, List.setIfInBounds_toArray, List.set_cons_zero, List.set_cons_succ]); refine seg_take 3 ?_ rfl (by kernel_rfl) (by kernel_rfl) (by kernel_rfl) (by kernel_rfl) (by kernel_rfl) rfl (fun _ _ _ h => h) rfl ?_ ?_; rotate_left; (focus (intro w; go_simp; try with_reducible rfl)); (try simp only [List.getElem_toArray, List.getElem_cons_zero, List.getElem_cons_succ, Act.put, List.setIfInBounds_toArray, List.set_cons_zero, List.set_cons_succ]))
      (refine seg_read 4 (.string (strOfNums key)) rfl (by kernel_rfl) (by kernel_rfl) (by kernel_rfl) (by kernel_rfl) (by kernel_rfl) (by kernel_rfl) (fun _ _ _ h => h) rfl HS.out (fun W hW => yields_conv _ _ _ rfl _ _ rfl (conv_str hW.1 kn Hkn.out)) ?_; (try simp only [List.getElem_toArray, List.getElem_cons_zero, List.getElem_cons_succ, Act.put, List.setIfInBounds_toArray, List.set_cons_zero, List.set_cons_succ]))
      skip
      (refine seg_read 5 (.agg (w8 d)) rfl (by kernel_rfl) (by kernel_rfl) (by kernel_rfl) (by kernel_rfl) (by kernel_rfl) (by kernel_rfl) (fun _ _ _ h => h) rfl HS.out (fun W hW => yields_load_row 47 _ rfl nb rfl _ _ _ _ hW.2.out Tryd.underlying47 rfl hsd.out) ?_; (try simp only [List.getElem_toArray, List.getElem_cons_zero, List.getElem_cons_succ, Act.put, List.setIfInBounds_toArray, List.set_cons_zero, List.set_cons_succ]))
      skip
      (refine anyB_step 6 rfl (by kernel_rfl) ?_; (try simp only [List.getElem_toArray, List.getElem_cons_zero, List.getElem_cons_succ]))
      go_wp2_with (go_at_call 127; go_must (refine (iput_name F R ib seed _ own' (strOfNums key) d w6 HI6.out.isI Hld.out).mono ?_; rintro e w7 ⟨rfl, h1, h2, h3, h4⟩; have P1 := Lib.hid h1; have P2 := Lib.hid h2; have P3 := Lib.hid h3; have P4 := Lib.hid h4; clear h1 h2 h3 h4))
      refine ⟨nofun, ?_⟩
      (refine anyB_done (by kernel_rfl) ?_)
      have hown6 : ∀ b ∈ own', b ∈ own ∨ wc.heap.size ≤ b := Hfr.out
      have hNl : nb < wc.heap.size := blk_lt Hnb.out
      have hwl : w.heap.size < wc.heap.size := by have := Hnbw.out; omega
      have HN7 : Hid (w7.heap[nb]? = some (.cells (w8 d) 47 (0, 0))) := Lib.hid (P2.out.at_ HS.out.2.out (fun hx => (hown6 _ hx).elim (fun h => by have := Hown.out _ h; have := Hnbw.out; omega) (fun h => by omega)))
      have HZ7 : Hid (w7.heap[w.heap.size]? = some (.cells z32 47 (0, 0))) := Lib.hid (P2.out.at_ HZ6.out (fun hx => (hown6 _ hx).elim (fun h => by have := Hown.out _ h; omega) (fun h => by omega)))
      have holdz : Hid (z32.size = (w8 d).size) := Lib.hid (by rw [w8_size, Hld.out]; rfl)
      go_wp2_with (first
        | (with_reducible refine wpList_load_row rfl 47 _ rfl nb rfl _ _ (0, 0) _ HN7.out Tryd.underlying47 rfl hsd.out ?_)
        | (with_reducible refine wpList_store_row rfl 47 _ _ rfl w.heap.size _ rfl rfl 47 z32 HZ7.out hsd.out holdz.out (w8_one _) ?_))
      refine bodyPost_ret (results_cell_row Tryd.results122 _ _ w.heap.size _ _ (0, 0) _ rfl (setRow_heap _ _ _ _ _ _ HZ7.out) Tryd.underlying47 rfl hsd.out) rfl ?_
      obtain ⟨own2, q1, q2⟩ := P1.out
      have hIo7 := HI6.out.cells q1 (Y := fun b => X b ∨ (w.heap.size ≤ b ∧ b < wc.heap.size)) (fun b hb => .inl hb) P3.out P4.out
      have hszc : wc.heap.size ≤ w6.heap.size := HK6.out.size
      have hzo : w.heap.size ∉ own2 := fun hx => by
        rcases q2 _ hx with h | h
        · exact (hown6 _ h).elim (fun h => by have := Hown.out _ h; omega) (fun h => by omega)
        · omega
      rw [hin.out]
      refine ⟨rfl, ⟨own2, (hIo7.set (nb := w.heap.size) (.inr ⟨Nat.le_refl _, hwl⟩) hzo _).mono (fun b hb => .inl hb), ?_⟩, ?_⟩
      · intro b hb
        rcases q2 b hb with h | h
        · rcases hown6 b h with h | h
          · exact .inl h
          · exact .inr (by omega)
        · exact .inr (by omega)
      · have hK7 : Kp (nb :: own) wc w7 := HK6.out.trans P2.out (fun x hx hlt => by
          rcases hown6 x hx with h | h
          · simp [h]
          · omega)
        exact ((Kp.of_below (S := own) HBc.out).trans hK7 (fun x hx hlt => by
          rcases List.mem_cons.1 hx with rfl | hx
          · have := Hnbw.out; omega
          · exact hx)).setRow (fun h => by omega) _
theorem iname_any (F R : List Int) (ib : Nat) (seed : List Int) (s : St) (own : List Nat) (kA : Option Addr) (kn kc : Nat) (key : List Int) (w : World)
    (hTb : Tabs F R w) (hI : IsI F R w ib seed s own) (hl : seed.length ≤ 10000000000000) (hll : s.left.length ≤ 10000000000000) (hp : s.p ≤ 9007199254600000) (hat : s.at_ ≤ 9007199254600000)
    (hkn : kn = key.length) (hk : Rd w kA kc key) :
    Calls Tryd.prog 122 #[.pointer (some ⟨ib, 0, none⟩), .slice kA kn kc] w fun e w' => e = .returned (vvn (inm F R seed s (strOfNums key)).1) ∧ (∃ own', IsI F R w' ib seed (inm F R seed s (strOfNums key)).2 own' ∧ Fresh w own own') ∧ Kp own w w' := by
  refine (iname_any2 (fun _ => False) F R ib seed s own kA kn kc key w (fun _ h => h.elim) hTb (hI.io.mono (fun _ h => h.elim)) hl hll hp hat hkn hk).mono ?_
  rintro e w' ⟨h1, ⟨own', h2, h3⟩, h4⟩
  exact ⟨h1, ⟨own', h2.isI, h3⟩, h4⟩
end Go.Proofs.YtiboflejmnjdhaaDoor
end
