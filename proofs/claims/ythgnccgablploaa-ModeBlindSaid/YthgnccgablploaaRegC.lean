/- A region at whose end a value is sent over a channel with room; a region that begins with a select of one receive and a default: in a program of one goroutine. -/
import Derived.Test.YthgnccgablploaaRegS
import Derived.Conc.LoneCalls
import Derived.Conc.LoneSelect
namespace Go.Proofs.Ythgnccgablploaa
open Go
section
variable {P : Program} {ops : Array Oper} {md : Region.Mode} {Q : Exit → Act → World → Prop} {S : World → Prop} {B : List Nat} {K : Act → World → Prop} {a : Act} {w : World} {b : Frame}
/-- What is left of a region, in that order, leads to Q: said of the machine. -/
def MReg (P : Program) (b : Frame) (ops : Array Oper) (Q : Exit → Act → World → Prop) (l : List Nat) (a : Act) (w : World) : Prop :=
  ∀ (k : List Item) (cs : List Frame), ∃ e a' w', Q e a' w' ∧ Arrives P (lone (b.at a (.inRegion ops l :: k)) cs w) b k cs e a' w'
theorem mreg_ops {l : List Nat} (h : wpOps P ops Q l a w) : MReg P b ops Q l a w := fun k cs => wp_ops l a w h b k cs
theorem mreg_list : ∀ (l : List Nat) (a : Act) (w : World), l.all (fun i => (ops[i]?).isSome) = true → wpList P ops Q (pick ops l) a w → wpOps P ops Q l a w
  | [], _, _, _, h => h
  | i :: l, a, w, hA, h => by
    simp only [List.all_cons, Bool.and_eq_true] at hA
    obtain ⟨o, ho⟩ := Option.isSome_iff_exists.1 hA.1
    rw [pick, ho] at h
    rw [wpOps_cons]
    have hw : wpOp P ops Q i (wpList P ops Q (pick ops l)) a w := by unfold wpOp; simp only [ho]; exact h
    exact wpOp_mono (fun a' w' h' => mreg_list l a' w' hA.2 h') hw
/-- One operation of the walk's, then the rest. -/
theorem mreg_op {i : Nat} {rest : List Nat} (h : wpOp P ops Q i K a w) (hK : ∀ a w, K a w → MReg P b ops Q rest a w) : MReg P b ops Q (i :: rest) a w := by
  unfold wpOp at h
  cases ho : ops[i]? with
  | none =>
    simp only [ho] at h
    intro k cs
    obtain ⟨e, a', w', hq, harr⟩ := hK _ _ h k cs
    have hs := step_op_skip (P := P) (b := b) (a := a) (k := k) (cs := cs) (w := w) (ops := ops) (i := i) (rest := rest) (by simp [ho])
    simp only [ho, Option.bind_none, Act.put] at hs
    exact ⟨e, a', w', hq, .of_steps (.one hs) harr⟩
  | some o =>
    simp only [ho] at h
    by_cases hw : Region.wanted o (yielded ops a.tmps) = true
    · rw [if_pos hw] at h
      intro k cs
      have hg := stepG_op (P := P) (b := b) (k := k) (cs := cs) (w := w) (rest := rest) ho hw
      rcases h with h | ⟨hasks, a₀, w₀, hq⟩
      · unfold Oper.wp at h
        have hfin : ∀ (a : Act) v, (b.at a (.inRegion ops (i :: rest) :: k)).finish v = b.at (a.put o.dst v) (.inRegion ops rest :: k) := fun a v => by rw [Frame.finish_at, ho]; rfl
        have sub : ∀ a' w' m, K a' w' → Steps P m (lone (b.at a' (.inRegion ops rest :: k)) cs w') → ∃ e a'' w'', Q e a'' w'' ∧ Arrives P m b k cs e a'' w'' := fun a' w' m hk hs => by
          obtain ⟨e, a'', w'', hq, harr⟩ := hK _ _ hk k cs
          exact ⟨e, a'', w'', hq, .of_steps hs harr⟩
        generalize hr : (execOp a.eval o).run P w = r at h
        cases r with
        | ok x w' =>
          cases x with
          | value v => exact sub _ _ _ h (.one (step_lone_go (by rw [hg, ← hfin]; simp [stepG.apply, hr])))
          | skip => exact sub _ _ _ h (.one (step_lone_go (by rw [hg, ← hfin]; simp [stepG.apply, hr])))
          | defer d =>
            refine sub _ _ _ h (.one (step_lone_go ?_))
            rw [hg, ← hfin]
            simp only [stepG.apply, Sem.runT_eq, hr, GStep.bare_after]
            rfl
          | enter f args =>
            obtain ⟨e, w'', fr, hR, hsteps, _, hleave⟩ := h (b.at a (.inRegion ops (i :: rest) :: k) :: cs)
            have henter : step P (lone (b.at a (.inRegion ops (i :: rest) :: k)) cs w) = .next (lone (Frame.enter P f args .normal) (b.at a (.inRegion ops (i :: rest) :: k) :: cs) w') :=
              step_lone_go (by rw [hg]; simp [stepG.apply, hr, Frame.at])
            cases e with
            | returned v => exact sub _ _ _ hR (.head henter (hsteps.trans (.one (by rw [← hfin]; exact step_leave_returned hleave))))
            | panicked chain =>
              refine ⟨.panic chain, a, w'', hR, .inRegion ops (i :: rest) :: k, .head henter (hsteps.trans (.one ?_))⟩
              rw [← Frame.raise_at]; exact step_leave_panicked hleave
            | outgrown =>
              obtain ⟨a₀, w₀, hq⟩ := hR
              exact ⟨.outgrown, a₀, w₀, hq, .inr (Outgrown.of_steps (.one henter) hsteps)⟩
          | row row args =>
            obtain ⟨v, w'', hR, hsteps⟩ := h (b.at a (.inRegion ops (i :: rest) :: k)) cs
            have henter : step P (lone (b.at a (.inRegion ops (i :: rest) :: k)) cs w) = .next (lone (Frame.ofRow P row args .normal) (b.at a (.inRegion ops (i :: rest) :: k) :: cs) w') :=
              step_lone_go (by rw [hg]; simp [stepG.apply, hr, Frame.at])
            exact sub _ _ _ hR (.head henter (by rw [← hfin]; exact hsteps))
          | _ => exact h.elim
        | halt x w' =>
          cases x with
          | panic v =>
            refine ⟨_, a, w', h, .inRegion ops (i :: rest) :: k, .one (step_lone_go ?_)⟩
            rw [hg, ← Frame.raise_at]; simp [stepG.apply, hr]
          | _ => exact h.elim
      · by_cases hk : b.kind = .early
        · exact ⟨.outgrown, a₀, w₀, hq, .inl hk⟩
        · exact ⟨.outgrown, a₀, w₀, hq, .inr (asks_outgrown ho hw hk hasks)⟩
    · rw [if_neg hw] at h
      intro k cs
      obtain ⟨e, a', w', hq, harr⟩ := hK _ _ h k cs
      have hs := step_op_skip (P := P) (b := b) (a := a) (k := k) (cs := cs) (w := w) (ops := ops) (i := i) (rest := rest) (by simp [ho]; simpa using hw)
      simp only [ho, Option.bind_some] at hs
      exact ⟨e, a', w', hq, .of_steps (.one hs) harr⟩
theorem mreg_of_anyB (z : Nat) (hK : ∀ a w, K a w → MReg P b ops Q [z] a w) : ∀ (f t : Nat) (listed : Array Bool) (a : Act) (w : World), AnyB P md ops Q S B [z] K f listed a w →
    MReg P b ops Q (Region.linearise.go md ops (f + 1) t listed []) a w := by
  intro f
  induction f with
  | zero =>
    intro t listed a w h
    obtain ⟨hr, hk⟩ := h
    have e : Region.linearise.go md ops (0 + 1) t listed [] = [z] := by
      change (match (Region.ready md ops listed)[t % (Region.ready md ops listed).length]? with
        | some i => Region.linearise.go md ops 0 (t / (Region.ready md ops listed).length) (listed.setIfInBounds i true) [i]
        | none => [].reverse) = [z]
      rw [hr]
      simp [Nat.mod_one, Region.linearise.go]
    rw [e]
    exact hK _ _ hk
  | succ f ih =>
    intro t listed a w h
    obtain ⟨hne, h1⟩ := h
    change MReg P b ops Q (match (Region.ready md ops listed)[t % (Region.ready md ops listed).length]? with
      | some i => Region.linearise.go md ops (f + 1) (t / (Region.ready md ops listed).length) (listed.setIfInBounds i true) [i]
      | none => [].reverse) a w
    have hlt : t % (Region.ready md ops listed).length < (Region.ready md ops listed).length := Nat.mod_lt _ (List.length_pos_iff.2 hne)
    cases hi : (Region.ready md ops listed)[t % (Region.ready md ops listed).length]? with
    | none => rw [List.getElem?_eq_getElem hlt] at hi; cases hi
    | some i =>
      simp only []
      rw [linearise_go_acc, List.reverse_singleton, List.singleton_append]
      exact mreg_op (h1 i (List.mem_of_getElem? hi)) fun a' w' h' => ih _ _ _ _ h'.2
end
end Go.Proofs.Ythgnccgablploaa
