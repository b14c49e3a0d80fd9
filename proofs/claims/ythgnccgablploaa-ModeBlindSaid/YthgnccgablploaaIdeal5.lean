/- The ideal mode: name. -/
import Derived.Test.YthgnccgablploaaIdeal4
set_option linter.unusedVariables false
set_option linter.unusedSimpArgs false
set_option maxRecDepth 100000
namespace Go.Proofs.Ythgnccgablploaa
open Go Go.RowKit Go.Conc
theorem iput_name (F R : List Int) (ib : Nat) (seed : List Int) (s : St) (own : List Nat) (k0 : ByteArray) (v : List Int) (w : World) (hI : IsI F R w ib seed s own) (hv : v.length = 32) :
    Calls Try.prog 48 #[.pointer (some ⟨ib, 1, none⟩), .string k0, .agg (w8 v)] w fun e w' => e = .returned (.tuple #[]) ∧ (∃ own', IsI F R w' ib seed { s with nm := mput k0 v s.nm } own' ∧ Fresh w own own') ∧ Kp own w w' ∧ w'.cell? ⟨ib, 0, none⟩ = w.cell? ⟨ib, 0, none⟩ ∧ ∀ tb, w.cell? ⟨ib, 0, none⟩ = some (.pointer (some ⟨tb, 0, none⟩)) → ∀ i, w'.cell? ⟨tb, i, none⟩ = w.cell? ⟨tb, i, none⟩ := by
  obtain ⟨tb, ch, sA, sc, mn, mb, rfl, h1', h2, h3, h4, h5⟩ := hI.ex
  refine (put_name ib 1 57 (irow tb mn mb) mn k0 v s.nm w h1' rfl h3 hv).mono ?_
  rintro e w' ⟨rfl, r, k1, k2, k3, k4⟩
  have hin := hI.blocks
  have hmap : ∀ x, x = ib ∨ mn = some x → x ∉ tb :: ch.toList ∧ mb ≠ some x := by
    obtain ⟨lA, lc, q, bg, t1, t2, t3, t4⟩ := h2.row
    rintro x (rfl | hx)
    · refine ⟨?_, ?_⟩
      · intro hb
        rcases List.mem_cons.1 hb with rfl | hb
        · exact blk_ne h1' t1 (by decide) rfl
        · cases ch with
          | none => simp at hb
          | some cb =>
            obtain ⟨_, _, _, t5⟩ := t4
            obtain rfl : x = cb := by simpa using hb
            have := h1'.symm.trans t5; cases this
      · rintro rfl
        obtain ⟨_, _, t5, _⟩ := h4
        have := h1'.symm.trans t5; cases this
    · subst hx
      obtain ⟨_, _, t6, _⟩ := h3
      refine ⟨?_, fun e => h5 x rfl e⟩
      intro hb
      rcases List.mem_cons.1 hb with rfl | hb
      · have := t1.symm.trans t6; cases this
      · cases ch with
        | none => simp at hb
        | some cb =>
          obtain ⟨_, _, _, t5⟩ := t4
          obtain rfl : x = cb := by simpa using hb
          have := t6.symm.trans t5; cases this
  have hS : ∀ b ∈ ib :: mn.toList, b = ib ∨ mn = some b := by
    intro b hb
    rcases List.mem_cons.1 hb with rfl | hb
    · exact .inl rfl
    · exact .inr (by simpa using hb)
  have hSb : ∀ b ∈ ib :: mn.toList, Hard w b := fun b hb => (hin b (by rcases hS b hb with rfl | h <;> simp [*])).1
  have hmn : ∀ b, mb = some b → b < w.heap.size := fun b e => (hin b (by simp [e])).2
  refine ⟨rfl, ⟨ib :: (tb :: ch.toList) ++ ([r] ++ mb.toList), ⟨⟨tb, ch, sA, sc, some r, mb, by simp, k2, h2.keep k4 hSb ?_, k1, h4.keep k4 ?_, ?_⟩, ?_, hI.lenb⟩, ?_⟩, k4.mono ?_, ?_, ?_⟩
  · intro b hb hx
    exact (hmap b (hS b hx)).1 hb
  · intro b hb hx
    exact (hmap b (hS b hx)).2 hb
  · rintro x hx hr
    obtain rfl : r = x := Option.some.inj hx
    rcases k3 with k3 | ⟨_, k3⟩
    · exact h5 r k3 hr
    · have := hmn r hr
      omega
  · intro k u hk
    simp only [mget_mput] at hk
    split at hk
    · cases hk; exact hv
    · exact hI.len k u hk
  · intro b hb
    simp only [List.cons_append, List.mem_cons, List.mem_append, List.not_mem_nil, or_false, List.nil_append] at hb
    rcases hb with hb | hb | hb | hb | hb
    · simp [hb]
    · simp [hb]
    · simp [hb]
    · rcases k3 with rfl | ⟨rfl, k3⟩
      · left; simp [hb]
      · exact .inr (hb ▸ k3)
    · left; simp only [List.cons_append, List.mem_cons, List.mem_append]; simp [hb]
  · intro b hb _
    rcases hS b hb with rfl | h <;> simp [*]
  · exact (blk_cell k2 0 rfl).trans (blk_cell h1' 0 rfl).symm
  · intro tb2 hc i
    have hc2 := hc.symm.trans (blk_cell h1' 0 rfl)
    simp only [Option.some.injEq, Value.pointer.injEq, Addr.mk.injEq] at hc2
    obtain ⟨rfl, -, -⟩ := hc2
    have hlt : tb < w.heap.size := h2.inn tb (by simp)
    refine World.cell?_of_block (w := w) (a := ⟨tb, i, none⟩) (k4.block tb hlt ?_)
    intro hx
    exact (hmap tb (hS tb hx)).1 (by simp)
/-- A name, and what the mode is behind it. -/
def inm (F R seed : List Int) (s : St) (k : ByteArray) : List Int × St :=
  match mget k s.nm with
  | some v => (v, s)
  | none => ((tDraw F R seed 32 s.left s.p).1, { s with left := (tDraw F R seed 32 s.left s.p).2.1, p := (tDraw F R seed 32 s.left s.p).2.2, at_ := s.at_ + 32, nm := mput k (tDraw F R seed 32 s.left s.p).1 s.nm })
section
variable {P : Program} {ops : Array Oper} {md : Region.Mode} {Q : Exit → Act → World → Prop} {S : World → Prop} {B ZS : List Nat} {Ke : Act → World → Prop}
/-- One of two operations may come up now. -/
theorem anyB_two (k l : Nat) {o o2 : Oper} {n : Nat} {listed : Array Bool} {a : Act} {w : World} (ho : ops[k]? = some o) (ho2 : ops[l]? = some o2) (hr : decide (Region.ready md ops listed = [k, l]) = true)
    (h : wpList P ops (thn Q fun a' w' => (B.contains k = true → S w') ∧ AnyB P md ops Q S B ZS Ke n (listed.setIfInBounds k true) a' w') [o] a w)
    (h2 : wpList P ops (thn Q fun a' w' => (B.contains l = true → S w') ∧ AnyB P md ops Q S B ZS Ke n (listed.setIfInBounds l true) a' w') [o2] a w) : AnyB P md ops Q S B ZS Ke (n + 1) listed a w := by
  have hr := of_decide_eq_true hr
  refine ⟨fun h1 => (by rw [hr] at h1; cases h1), fun i hi => ?_⟩
  rw [hr] at hi
  simp only [List.mem_cons, List.not_mem_nil, or_false] at hi
  rcases hi with rfl | rfl
  · exact wpOp_thn ho h
  · exact wpOp_thn ho2 h2
end
end Go.Proofs.Ythgnccgablploaa
