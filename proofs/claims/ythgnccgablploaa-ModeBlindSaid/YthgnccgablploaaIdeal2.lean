/- Tapes by their blocks; the ideal mode's size. -/
import Derived.Test.YthgnccgablploaaIdeal
set_option linter.unusedVariables false
set_option linter.unusedSimpArgs false
set_option maxRecDepth 100000
namespace Go.Proofs.Ythgnccgablploaa
open Go Go.RowKit Go.Conc
/-- A tape, and its blocks. -/
def IsTp (F R : List Int) (w : World) (tb : Nat) (seed left : List Int) (p at_ : Nat) (own : List Nat) : Prop := ∃ ch sA sc, own = tb :: ch.toList ∧ IsT F R w tb ch sA sc seed left p at_
theorem IsTp.blocks {F R : List Int} {w : World} {tb : Nat} {seed left : List Int} {p at_ : Nat} {own : List Nat} (h : IsTp F R w tb seed left p at_ own) : ∀ b ∈ own, Hard w b ∧ b < w.heap.size := by
  obtain ⟨ch, sA, sc, rfl, h1⟩ := h
  exact fun b hb => ⟨h1.hard b hb, h1.inn b hb⟩
theorem IsTp.keep {F R : List Int} {S : List Nat} {w w' : World} {tb : Nat} {seed left : List Int} {p at_ : Nat} {own : List Nat} (h : IsTp F R w tb seed left p at_ own) (hk : Kp S w w') (hS : ∀ b ∈ S, Hard w b) (hd : ∀ b ∈ own, b ∉ S) : IsTp F R w' tb seed left p at_ own := by
  obtain ⟨ch, sA, sc, rfl, h1⟩ := h
  exact ⟨ch, sA, sc, rfl, h1.keep hk hS hd⟩
theorem IsTp.below {F R : List Int} {w w' : World} {tb : Nat} {seed left : List Int} {p at_ : Nat} {own : List Nat} (h : IsTp F R w tb seed left p at_ own) (hk : Below w.heap.size w w') : IsTp F R w' tb seed left p at_ own := h.keep (Kp.of_below (S := []) hk) (by simp) (by simp)
/-- What is new of the blocks is new in the world. -/
def Fresh (w : World) (own own' : List Nat) : Prop := ∀ b ∈ own', b ∈ own ∨ w.heap.size ≤ b
theorem new_tp (F R : List Int) (A : Option Addr) (n c : Nat) (xs : List Int) (w : World) (hn : n = xs.length) (hr : Rd w A c xs) (hl : xs.length ≤ 65536) :
    Calls Try.prog 6 #[.slice A n c] w fun e w' => ∃ tb, e = .returned (.pointer (some ⟨tb, 0, none⟩)) ∧ IsTp F R w' tb xs xs 0 0 [tb] ∧ w.heap.size ≤ tb ∧ Below w.heap.size w w' := by
  refine (new_any F R A n c xs w hn hr hl).mono ?_
  rintro e w' ⟨tb, sA, sc, rfl, h1, h2, h3⟩
  exact ⟨tb, rfl, ⟨none, sA, sc, rfl, h2⟩, h1, h3⟩
theorem at_tp (F R : List Int) (tb : Nat) (seed left : List Int) (p at_ : Nat) (own : List Nat) (w : World) (hT : IsTp F R w tb seed left p at_ own) :
    Calls Try.prog 15 #[.pointer (some ⟨tb, 0, none⟩)] w fun e w' => e = .returned (.int .i64 at_) ∧ w = w' := by
  obtain ⟨ch, sA, sc, rfl, h1⟩ := hT
  exact at_any F R tb ch sA sc seed left p at_ w h1
theorem copy_tp (F R : List Int) (tb : Nat) (seed left : List Int) (p at_ : Nat) (own : List Nat) (w : World) (hT : IsTp F R w tb seed left p at_ own) (hl : left.length ≤ 140737488355328) (hp : p ≤ 9007199254740000) :
    Calls Try.prog 16 #[.pointer (some ⟨tb, 0, none⟩)] w fun e w' => ∃ tn cn sA sc own', e = .returned (.pointer (some ⟨tn, 0, none⟩)) ∧ w.heap.size ≤ tn ∧ w.heap.size ≤ cn ∧ IsT F R w' tn (some cn) sA sc seed left p at_ ∧ IsTp F R w' tb seed left p at_ own' ∧ Fresh w own own' ∧ (∀ b ∈ own', b ≠ tn ∧ b ≠ cn) ∧ Kp own w w' := by
  obtain ⟨ch, sA, sc, rfl, h1⟩ := hT
  refine (tcopy_any F R tb ch sA sc seed left p at_ w h1 hl hp).mono ?_
  rintro e w' ⟨tn, cn, cb, rfl, h2, h3, h4, h5, h6, h7⟩
  refine ⟨tn, cn, sA, sc, _, rfl, h2, h3, h4, ⟨some cb, sA, sc, rfl, h5⟩, ?_, ?_, h7.mono (by simp)⟩
  · intro b hb
    simp only [Option.toList_some, List.mem_cons, List.not_mem_nil, or_false] at hb
    rcases hb with rfl | rfl
    · simp
    · rcases h6 with rfl | ⟨rfl, h6, _⟩
      · simp
      · exact .inr h6
  · obtain ⟨_, _, _, _, ht, _⟩ := h1.row
    have ht := blk_lt ht
    obtain ⟨_, _, _, _, hn, _, _, _, s, r, hcn⟩ := h4.row
    obtain ⟨_, _, _, _, ho, _, _, _, s2, r2, hcb⟩ := h5.row
    intro b hb
    simp only [Option.toList_some, List.mem_cons, List.not_mem_nil, or_false] at hb
    rcases hb with hb | hb <;> subst hb
    · have hne := blk_lt hn
      refine ⟨by omega, by omega⟩
    · refine ⟨(by rintro rfl; have := hn.symm.trans hcb; cases this), ?_⟩
      rcases h6 with rfl | ⟨rfl, h6, h8⟩
      · have := h1.inn b (by simp)
        omega
      · exact h8
theorem draw_tp (F R : List Int) (tb : Nat) (seed left : List Int) (p at_ n : Nat) (own : List Nat) (w : World) (hTb : Tabs F R w) (hT : IsTp F R w tb seed left p at_ own) (hl : seed.length ≤ 10000000000000) (hll : left.length ≤ 10000000000000) (h0 : 0 < n) (hn : n ≤ 65536) (hp : p ≤ 9007199254600000) (hat : at_ ≤ 9007199254600000) :
    Calls Try.prog 47 #[.pointer (some ⟨tb, 0, none⟩), .int .i64 n] w fun e w' => ∃ A c own', e = .returned (.slice A n c) ∧ Rd w' A c (tDraw F R seed n left p).1 ∧ (∀ a, A = some a → w.heap.size ≤ a.block) ∧
      IsTp F R w' tb seed (tDraw F R seed n left p).2.1 (tDraw F R seed n left p).2.2 (at_ + n) own' ∧ Fresh w own own' ∧ Kp own w w' := by
  obtain ⟨ch, sA, sc, rfl, h1⟩ := hT
  refine (draw_any F R tb ch sA sc seed left p at_ n w hTb h1 hl hll h0 hn hp hat).mono ?_
  rintro e w' ⟨A, c, cb, rfl, h2, h3, h4, h5⟩
  obtain ⟨A1, c1, e1, h6, h7⟩ := h2.rd
  rw [Value.slice.injEq] at e1
  obtain ⟨rfl, -, rfl⟩ := e1
  refine ⟨A, c, _, rfl, h6, fun a ha => (h7 a ha).1, ⟨some cb, sA, sc, rfl, h3⟩, ?_, h5⟩
  intro b hb
  simp only [Option.toList_some, List.mem_cons, List.not_mem_nil, or_false] at hb
  rcases hb with rfl | rfl
  · simp
  · rcases h4 with rfl | ⟨rfl, h6⟩
    · simp
    · exact .inr h6
theorem len_map (t tk te : TypeId) (ht : Try.prog.underlying t = some (.map tk te)) (r : Nat) (es : Array MapEntry) (cl : Nat) (w : World) (hb : w.heap[r]? = some (.map es cl)) : (Builtin.len_ #[t] 3 #[.map (some r)]).run Try.prog w = .ok (.int .i64 es.size) w := by
  have h0 : (getObj r).run Try.prog w = .ok (.map es cl) w := by simp [getObj, Sem.run, hb]
  simp [Builtin.len_, run_underlying ht, h0, goInt]
theorem isize_any (F R : List Int) (ib : Nat) (seed : List Int) (s : St) (own : List Nat) (w : World) (h : IsI F R w ib seed s own) :
    Calls Try.prog 45 #[.pointer (some ⟨ib, 0, none⟩)] w fun e w' => e = .returned (.int .i64 s.bx.length) ∧ w = w' := by
  obtain ⟨tb, ch, sA, sc, mn, mb, rfl, h1, h2, h3, h4, h5⟩ := h.ex
  have c2 : w.cell? ⟨ib, 2, none⟩ = some (.map mb) := blk_cell h1 2 rfl
  cases mb with
  | none =>
    have hb : s.bx = [] := h4
    rw [hb]
    clear h h1 h2 h3 h4 h5 hb
    go_enter Try.func45, Try.ntmps45
    go_wp2
    go_ret
    exact ⟨rfl, rfl⟩
  | some r =>
    obtain ⟨es, cl, hb, he⟩ := h4
    have hlen : es.size = s.bx.length := by have := congrArg List.length he; simpa using this
    have hl := len_map 53 _ _ Try.underlying53 r es cl w hb
    clear h h1 h2 h3 h5 he
    go_enter Try.func45, Try.ntmps45
    go_wp2
    go_ret
    exact ⟨rfl, rfl⟩
end Go.Proofs.Ythgnccgablploaa
