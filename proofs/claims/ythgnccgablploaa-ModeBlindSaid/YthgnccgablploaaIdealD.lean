/- The ideal mode's own tape is drawn from. -/
import Derived.Test.YthgnccgablploaaIdeal5
import Derived.Deep.MidRow
set_option linter.unusedVariables false
set_option linter.unusedSimpArgs false
set_option maxRecDepth 100000
namespace Go.Proofs.Ythgnccgablploaa
open Go Go.RowKit Go.Conc
theorem Rd.set_ne {w : World} {A : Option Addr} {c : Nat} {xs : List Int} (h : Rd w A c xs) {nb : Nat} (hn : 0 < xs.length → ∀ a, A = some a → a.block ≠ nb) (cs : Array Value) : Rd (w.setRow nb cs) A c xs :=
  ⟨h.le, h.big, h.nil, fun h0 => by
    obtain ⟨b, off, e, hc⟩ := h.cells h0
    exact ⟨b, off, e, fun j hj => (World.cell?_of_block (w := w) (a := ⟨b, off + j, none⟩) (setRow_other w nb b cs (hn h0 _ e))).trans (hc j hj)⟩⟩
theorem rangeAt_of {w : World} {b off : Nat} {d : List Int} (h : ∀ j, j < d.length → w.cell? ⟨b, off + j, none⟩ = some (.int .u8 (d.getD j 0))) : w.rangeAt b off (bytes d) := by
  intro j u hj
  have hjl : j < d.length := by
    have := (List.getElem?_eq_some_iff.1 hj).1
    simpa [bytes] using this
  rw [h j hjl]
  simp [bytes, hjl] at hj
  simp [hj, hjl]
theorem arrayAt_name (A : Option Addr) (c : Nat) (W : World) : (Instr.arrayAt 43 (.slice A 32 c)).run Try.prog W = .ok (.pointer A) W := by
  simp [Instr.arrayAt, run_underlying Try.underlying43]
/-- A mode whose tape's bytes lie in no block of X. -/
structure IsIo (X : Nat → Prop) (F R : List Int) (w : World) (ib : Nat) (seed : List Int) (s : St) (own : List Nat) : Prop where
  isI : IsI F R w ib seed s own
  off : ∀ tb, w.cell? ⟨ib, 0, none⟩ = some (.pointer (some ⟨tb, 0, none⟩)) → ∀ i, i < 2 → ∀ A n c a, w.cell? ⟨tb, i, none⟩ = some (.slice A n c) → 0 < n → A = some a → ¬ X a.block
theorem IsIo.set {X : Nat → Prop} {F R : List Int} {w : World} {ib : Nat} {seed : List Int} {s : St} {own : List Nat} (h : IsIo X F R w ib seed s own) {nb : Nat} (h0 : X nb) (hn : nb ∉ own) (cs : Array Value) : IsIo X F R (w.setRow nb cs) ib seed s own := by
  obtain ⟨tb, ch, sA, sc, mn, mb, rfl, g1, g2, g3, g4, g5⟩ := h.isI.ex
  have hks : Kp [nb] w (w.setRow nb cs) := (Kp.refl _ _).setRow (by simp) cs
  have hne : ∀ b, b ∈ ib :: (tb :: ch.toList) ++ (mn.toList ++ mb.toList) → b ∉ [nb] := fun b hb hx => by
    obtain rfl : b = nb := by simpa using hx
    exact hn hb
  obtain ⟨lA, lc, q, bg, t1, t2, t3, t4⟩ := g2.row
  have ho := h.off tb (blk_cell g1 0 rfl)
  refine ⟨⟨⟨tb, ch, sA, sc, mn, mb, rfl, hks.at_ g1 (hne _ (by simp)), ⟨lA, lc, q, bg, hks.at_ t1 (hne _ (by simp)), ?_, ?_, t4.kp hks (fun c e => hne c (by simp [e]))⟩, g3.keep hks (fun r e => hne r (by simp [e])), g4.keep hks (fun r e => hne r (by simp [e])), g5⟩, h.isI.len, h.isI.lenb⟩, ?_⟩
  · exact t2.set_ne (fun hp a ha e => ho 0 (by omega) _ _ _ a (blk_cell t1 0 rfl) hp ha (e ▸ h0)) cs
  · exact t3.set_ne (fun hp a ha e => ho 1 (by omega) _ _ _ a (blk_cell t1 1 rfl) hp ha (e ▸ h0)) cs
  · intro tb2 hc i hi A n c a h3 h4 h5
    have hib : ib ≠ nb := fun e => hne ib (by simp) (by simp [e])
    have e1 : (w.setRow nb cs).cell? ⟨ib, 0, none⟩ = w.cell? ⟨ib, 0, none⟩ := World.cell?_of_block (w := w) (a := ⟨ib, 0, none⟩) (setRow_other w nb ib cs hib)
    rw [e1] at hc
    have hc2 := hc.symm.trans (blk_cell g1 0 rfl)
    simp only [Option.some.injEq, Value.pointer.injEq, Addr.mk.injEq] at hc2
    obtain ⟨rfl, -, -⟩ := hc2
    have htb : tb ≠ nb := fun e => hne tb (by simp) (by simp [e])
    have e2 : (w.setRow nb cs).cell? ⟨tb, i, none⟩ = w.cell? ⟨tb, i, none⟩ := World.cell?_of_block (w := w) (a := ⟨tb, i, none⟩) (setRow_other w nb tb cs htb)
    rw [e2] at h3
    exact ho i hi A n c a h3 h4 h5
theorem IsIo.cells {X Y : Nat → Prop} {F R : List Int} {w w' : World} {ib : Nat} {seed : List Int} {s s' : St} {own own' : List Nat} (h : IsIo X F R w ib seed s own) (hI : IsI F R w' ib seed s' own') (hY : ∀ b, Y b → X b ∨ w.heap.size ≤ b) (h0 : w'.cell? ⟨ib, 0, none⟩ = w.cell? ⟨ib, 0, none⟩) (h1 : ∀ tb, w.cell? ⟨ib, 0, none⟩ = some (.pointer (some ⟨tb, 0, none⟩)) → ∀ i, w'.cell? ⟨tb, i, none⟩ = w.cell? ⟨tb, i, none⟩) : IsIo Y F R w' ib seed s' own' := by
  obtain ⟨tb, ch, sA, sc, mn, mb, rfl, g1, g2, g3, g4, g5⟩ := h.isI.ex
  obtain ⟨lA, lc, q, bg, t1, t2, t3, t4⟩ := g2.row
  have ho := h.off tb (blk_cell g1 0 rfl)
  refine ⟨hI, ?_⟩
  intro tb2 hc i hi A n c a hA hn ha hy
  rw [h0] at hc
  rw [h1 tb2 hc i] at hA
  have hc2 := hc.symm.trans (blk_cell g1 0 rfl)
  simp only [Option.some.injEq, Value.pointer.injEq, Addr.mk.injEq] at hc2
  obtain ⟨rfl, -, -⟩ := hc2
  rcases hY _ hy with hx | hx
  · exact ho i hi A n c a hA hn ha hx
  · match i, hi with
    | 0, _ =>
      have hA2 := hA.symm.trans (blk_cell t1 0 rfl)
      simp only [Option.some.injEq, Value.slice.injEq] at hA2
      obtain ⟨rfl, rfl, rfl⟩ := hA2
      have := t2.lt hn a ha
      omega
    | 1, _ =>
      have hA2 := hA.symm.trans (blk_cell t1 1 rfl)
      simp only [Option.some.injEq, Value.slice.injEq] at hA2
      obtain ⟨rfl, rfl, rfl⟩ := hA2
      have := t3.lt hn a ha
      omega
theorem IsI.io {F R : List Int} {w : World} {ib : Nat} {seed : List Int} {s : St} {own : List Nat} (h : IsI F R w ib seed s own) : IsIo (fun b => w.heap.size ≤ b) F R w ib seed s own := by
  obtain ⟨tb, ch, sA, sc, mn, mb, ho, g1, g2, g3, g4, g5⟩ := h.ex
  obtain ⟨lA, lc, q, bg, t1, t2, t3, t4⟩ := g2.row
  refine ⟨h, ?_⟩
  intro tb2 hc i hi A n c a hA hn ha hy
  have hy : w.heap.size ≤ a.block := hy
  have hc2 := hc.symm.trans (blk_cell g1 0 rfl)
  simp only [Option.some.injEq, Value.pointer.injEq, Addr.mk.injEq] at hc2
  obtain ⟨rfl, -, -⟩ := hc2
  match i, hi with
  | 0, _ =>
    have hA2 := hA.symm.trans (blk_cell t1 0 rfl)
    simp only [Option.some.injEq, Value.slice.injEq] at hA2
    obtain ⟨rfl, rfl, rfl⟩ := hA2
    have := t2.lt hn a ha
    omega
  | 1, _ =>
    have hA2 := hA.symm.trans (blk_cell t1 1 rfl)
    simp only [Option.some.injEq, Value.slice.injEq] at hA2
    obtain ⟨rfl, rfl, rfl⟩ := hA2
    have := t3.lt hn a ha
    omega
/-- Behind what leaves all old blocks. -/
theorem IsIo.below {X Y : Nat → Prop} {F R : List Int} {w w' : World} {ib : Nat} {seed : List Int} {s : St} {own : List Nat} (h : IsIo X F R w ib seed s own) (hb : Below w.heap.size w w') (hY : ∀ b, Y b → X b ∨ w.heap.size ≤ b) : IsIo Y F R w' ib seed s own := by
  obtain ⟨tb, ch, sA, sc, mn, mb, ho, g1, g2, g3, g4, g5⟩ := h.isI.ex
  refine h.cells (h.isI.below hb) hY (hb.cell (p := ⟨ib, 0, none⟩) (blk_lt g1)) ?_
  intro tb2 hc i
  have hc2 := hc.symm.trans (blk_cell g1 0 rfl)
  simp only [Option.some.injEq, Value.pointer.injEq, Addr.mk.injEq] at hc2
  obtain ⟨rfl, -, -⟩ := hc2
  exact hb.cell (p := ⟨tb, i, none⟩) (g2.inn tb (by simp))
theorem IsIo.mono {X Y : Nat → Prop} {F R : List Int} {w : World} {ib : Nat} {seed : List Int} {s : St} {own : List Nat} (h : IsIo X F R w ib seed s own) (hY : ∀ b, Y b → X b) : IsIo Y F R w ib seed s own :=
  ⟨h.isI, fun tb hc i hi A n c a hA hn ha hy => h.off tb hc i hi A n c a hA hn ha (hY _ hy)⟩
theorem idraw_any (X : Nat → Prop) (F R : List Int) (ib : Nat) (seed : List Int) (s : St) (own : List Nat) (w : World) (hI : IsIo X F R w ib seed s own) (hX : ∀ b, X b → b < w.heap.size) (hTb : Tabs F R w)
    (hl : seed.length ≤ 10000000000000) (hll : s.left.length ≤ 10000000000000) (hp : s.p ≤ 9007199254600000) (hat : s.at_ ≤ 9007199254600000) :
    ∃ tb, w.cell? ⟨ib, 0, none⟩ = some (.pointer (some ⟨tb, 0, none⟩)) ∧ Calls Try.prog 47 #[.pointer (some ⟨tb, 0, none⟩), .int .i64 32] w fun e w' => ∃ A c, e = .returned (.slice A 32 c) ∧ Rd w' A c (tDraw F R seed 32 s.left s.p).1 ∧
      Kp own w w' ∧ ∃ own', IsIo X F R w' ib seed { s with left := (tDraw F R seed 32 s.left s.p).2.1, p := (tDraw F R seed 32 s.left s.p).2.2, at_ := s.at_ + 32 } own' ∧ Fresh w own own' := by
  obtain ⟨tb, ch, sA, sc, mn, mb, rfl, h1, h2, h3, h4, h5⟩ := hI.isI.ex
  have hin := hI.isI.blocks
  have hof := hI.off tb (blk_cell h1 0 rfl)
  refine ⟨tb, blk_cell h1 0 rfl, ?_⟩
  obtain ⟨lA, lc, q, bg, t1, t2, t3, t4⟩ := h2.row
  have hG : LeftIn w tb (fun b => ¬ X b) := fun A n c a hc h0 ha => hof 1 (by omega) A n c a hc h0 ha
  refine (draw_any2 (fun b => ¬ X b) F R tb ch sA sc seed s.left s.p s.at_ 32 w hTb h2 hl hll (by omega) (by omega) hp hat hG (fun b hb hx => by have := hX b hx; omega)).mono ?_
  rintro e w' ⟨A, c, cb, rfl, k1, k2, k3, k4, k5⟩
  obtain ⟨A1, c1, e1, k6, k7⟩ := k1.rd
  rw [Value.slice.injEq] at e1
  obtain ⟨rfl, -, rfl⟩ := e1
  have hbl : ∀ b, b ∈ ib :: (tb :: ch.toList) ++ (mn.toList ++ mb.toList) → b < w.heap.size := fun b hb => (hin b hb).2
  have hdis : ∀ b, (b = ib ∨ b ∈ mn.toList ++ mb.toList) → b ∉ tb :: ch.toList := by
    intro b hb hx
    have hcell : ∀ o, w.heap[b]? = some o → (∃ es cl, o = .map es cl) ∨ (∃ cs f, o = .cells cs 57 f) → False := by
      intro o ho hk
      rcases List.mem_cons.1 hx with rfl | hx
      · rw [t1] at ho
        obtain rfl := Option.some.inj ho
        rcases hk with ⟨_, _, hk⟩ | ⟨_, _, hk⟩
        · cases hk
        · simp only [Obj.cells.injEq] at hk
          exact absurd hk.2.1 (by decide)
      · cases ch with
        | none => simp at hx
        | some c0 =>
          obtain ⟨_, s1, r1, t5⟩ := t4
          obtain rfl : b = c0 := by simpa using hx
          rw [t5] at ho
          obtain rfl := Option.some.inj ho
          rcases hk with ⟨_, _, hk⟩ | ⟨_, _, hk⟩ <;> cases hk
    rcases hb with rfl | hb
    · exact hcell _ h1 (.inr ⟨_, _, rfl⟩)
    · rcases List.mem_append.1 hb with hb | hb
      · cases mn with
        | none => simp at hb
        | some r =>
          obtain ⟨es, cl, hm, _⟩ := h3
          obtain rfl : b = r := by simpa using hb
          exact hcell _ hm (.inl ⟨_, _, rfl⟩)
      · cases mb with
        | none => simp at hb
        | some r =>
          obtain ⟨es, cl, hm, _⟩ := h4
          obtain rfl : b = r := by simpa using hb
          exact hcell _ hm (.inl ⟨_, _, rfl⟩)
  refine ⟨A, c, rfl, k6, k4.mono (by intro b hb _; simp only [List.cons_append, List.mem_cons, List.mem_append] at hb ⊢; rcases hb with hb | hb <;> simp [hb]), ib :: (tb :: [cb]) ++ (mn.toList ++ mb.toList), ?_, ?_⟩
  · obtain ⟨lA', lc', q', bg', r1, r2, r3, h6, s1, r4, r5⟩ := k2.row
    have hrow := k4.at_ h1 (hdis ib (.inl rfl))
    refine ⟨⟨⟨tb, some cb, sA, sc, mn, mb, by simp, hrow, k2, h3.keep k4 (fun r e => hdis r (.inr (by simp [e]))), h4.keep k4 (fun r e => hdis r (.inr (by simp [e]))), h5⟩, hI.isI.len, hI.isI.lenb⟩, ?_⟩
    intro tb2 hc i hi A' n' c' a hA h0 ha
    have hc2 := hc.symm.trans (blk_cell hrow 0 rfl)
    simp only [Option.some.injEq, Value.pointer.injEq, Addr.mk.injEq] at hc2
    obtain ⟨rfl, -, -⟩ := hc2
    match i, hi with
    | 0, _ =>
      have hA2 := hA.symm.trans (blk_cell r1 0 rfl)
      simp only [Option.some.injEq, Value.slice.injEq] at hA2
      obtain ⟨rfl, rfl, rfl⟩ := hA2
      exact hof 0 (by omega) _ _ _ a (blk_cell t1 0 rfl) h0 ha
    | 1, _ => exact k5 A' n' c' a hA h0 ha
  · intro b hb
    simp only [List.cons_append, List.mem_cons, List.mem_append, List.not_mem_nil, or_false, List.nil_append] at hb ⊢
    rcases hb with hb | hb | hb | hb
    · simp [hb]
    · simp [hb]
    · rcases k3 with rfl | ⟨rfl, k3⟩
      · left; simp [hb]
      · exact .inr (hb ▸ k3)
    · rcases hb with hb | hb <;> simp [hb]
end Go.Proofs.Ythgnccgablploaa
