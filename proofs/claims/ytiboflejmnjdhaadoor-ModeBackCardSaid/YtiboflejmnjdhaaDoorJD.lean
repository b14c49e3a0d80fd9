/- A region at whose end a value is sent over a channel with room; a region that begins with a select of one receive and a default: in a program of one goroutine. -/
import Derived.Test.YtiboflejmnjdhaaDoorJC
import Derived.Conc.LoneCalls
import Derived.Conc.LoneSelect
import Derived.Lib.Hide
import Derived.Deep.RegionHeld3
section
namespace Go.Proofs.YtiboflejmnjdhaaDoor
open Go
section
variable {P : Program} {ops : Array Oper} {md : Region.Mode} {Q : Exit → Act → World → Prop} {S : World → Prop} {B : List Nat} {K : Act → World → Prop} {a : Act} {w : World} {b : Frame}
/-- What is left of a region, in that order, leads to Q: said of the machine. -/
def MReg (P : Program) (b : Frame) (ops : Array Oper) (Q : Exit → Act → World → Prop) (l : List Nat) (a : Act) (w : World) : Prop :=
  ∀ (k : List Item) (cs : List Frame), ∃ e a' w', Q e a' w' ∧ Arrives P (lone (b.at a (.inRegion ops l :: k)) cs w) b k cs e a' w'
theorem mreg_ops {l : List Nat} (h : wpOps P ops Q l a w) : MReg P b ops Q l a w := fun k cs => wp_ops l a w h b k cs
theorem mreg_list : ∀ (l : List Nat) (a : Act) (w : World), l.all (fun i => (ops[i]?).isSome) = true → wpList P ops Q (pick ops l) a w → wpOps P ops Q l a w
  | [], _, _, _, h => h
  | i :: l, a, w, hA, h => by
    simp only [List.all_cons, Bool.and_eq_true] at hA
    obtain ⟨o, ho⟩ := Option.isSome_iff_exists.1 hA.1
    rw [pick, ho] at h
    rw [wpOps_cons]
    have hw : wpOp P ops Q i (wpList P ops Q (pick ops l)) a w := by unfold wpOp; simp only [ho]; exact h
    exact wpOp_mono (fun a' w' h' => mreg_list l a' w' hA.2 h') hw
/-- One operation of the walk's, then the rest. -/
theorem mreg_op {i : Nat} {rest : List Nat} (h : wpOp P ops Q i K a w) (hK : ∀ a w, K a w → MReg P b ops Q rest a w) : MReg P b ops Q (i :: rest) a w := by
  unfold wpOp at h
  cases ho : ops[i]? with
  | none =>
    simp only [ho] at h
    intro k cs
    obtain ⟨e, a', w', hq, harr⟩ := hK _ _ h k cs
    have hs := step_op_skip (P := P) (b := b) (a := a) (k := k) (cs := cs) (w := w) (ops := ops) (i := i) (rest := rest) (by simp [ho])
    simp only [ho, Option.bind_none, Act.put] at hs
    exact ⟨e, a', w', hq, .of_steps (.one hs) harr⟩
  | some o =>
    simp only [ho] at h
    by_cases hw : Region.wanted o (yielded ops a.tmps) = true
    · rw [if_pos hw] at h
      intro k cs
      have hg := stepG_op (P := P) (b := b) (k := k) (cs := cs) (w := w) (rest := rest) ho hw
      rcases h with h | ⟨hasks, a₀, w₀, hq⟩
      · unfold Oper.wp at h
        have hfin : ∀ (a : Act) v, (b.at a (.inRegion ops (i :: rest) :: k)).finish v = b.at (a.put o.dst v) (.inRegion ops rest :: k) := fun a v => by rw [Frame.finish_at, ho]; rfl
        have sub : ∀ a' w' m, K a' w' → Steps P m (lone (b.at a' (.inRegion ops rest :: k)) cs w') → ∃ e a'' w'', Q e a'' w'' ∧ Arrives P m b k cs e a'' w'' := fun a' w' m hk hs => by
          obtain ⟨e, a'', w'', hq, harr⟩ := hK _ _ hk k cs
          exact ⟨e, a'', w'', hq, .of_steps hs harr⟩
        generalize hr : (execOp a.eval o).run P w = r at h
        cases r with
        | ok x w' =>
          cases x with
          | value v => exact sub _ _ _ h (.one (step_lone_go (by rw [hg, ← hfin]; simp [stepG.apply, hr])))
          | skip => exact sub _ _ _ h (.one (step_lone_go (by rw [hg, ← hfin]; simp [stepG.apply, hr])))
          | defer d =>
            refine sub _ _ _ h (.one (step_lone_go ?_))
            rw [hg, ← hfin]
            simp only [stepG.apply, Sem.runT_eq, hr, GStep.bare_after]
            rfl
          | enter f args =>
            obtain ⟨e, w'', fr, hR, hsteps, _, hleave⟩ := h (b.at a (.inRegion ops (i :: rest) :: k) :: cs)
            have henter : step P (lone (b.at a (.inRegion ops (i :: rest) :: k)) cs w) = .next (lone (Frame.enter P f args .normal) (b.at a (.inRegion ops (i :: rest) :: k) :: cs) w') :=
              step_lone_go (by rw [hg]; simp [stepG.apply, hr, Frame.at])
            cases e with
            | returned v => exact sub _ _ _ hR (.head henter (hsteps.trans (.one (by rw [← hfin]; exact step_leave_returned hleave))))
            | panicked chain =>
              refine ⟨.panic chain, a, w'', hR, .inRegion ops (i :: rest) :: k, .head henter (hsteps.trans (.one ?_))⟩
              rw [← Frame.raise_at]; exact step_leave_panicked hleave
            | outgrown =>
              obtain ⟨a₀, w₀, hq⟩ := hR
              exact ⟨.outgrown, a₀, w₀, hq, .inr (Outgrown.of_steps (.one henter) hsteps)⟩
          | row row args =>
            obtain ⟨v, w'', hR, hsteps⟩ := h (b.at a (.inRegion ops (i :: rest) :: k)) cs
            have henter : step P (lone (b.at a (.inRegion ops (i :: rest) :: k)) cs w) = .next (lone (Frame.ofRow P row args .normal) (b.at a (.inRegion ops (i :: rest) :: k) :: cs) w') :=
              step_lone_go (by rw [hg]; simp [stepG.apply, hr, Frame.at])
            exact sub _ _ _ hR (.head henter (by rw [← hfin]; exact hsteps))
          | _ => exact h.elim
        | halt x w' =>
          cases x with
          | panic v =>
            refine ⟨_, a, w', h, .inRegion ops (i :: rest) :: k, .one (step_lone_go ?_)⟩
            rw [hg, ← Frame.raise_at]; simp [stepG.apply, hr]
          | _ => exact h.elim
      · by_cases hk : b.kind = .early
        · exact ⟨.outgrown, a₀, w₀, hq, .inl hk⟩
        · exact ⟨.outgrown, a₀, w₀, hq, .inr (asks_outgrown ho hw hk hasks)⟩
    · rw [if_neg hw] at h
      intro k cs
      obtain ⟨e, a', w', hq, harr⟩ := hK _ _ h k cs
      have hs := step_op_skip (P := P) (b := b) (a := a) (k := k) (cs := cs) (w := w) (ops := ops) (i := i) (rest := rest) (by simp [ho]; simpa using hw)
      simp only [ho, Option.bind_some] at hs
      exact ⟨e, a', w', hq, .of_steps (.one hs) harr⟩
theorem mreg_of_anyB (z : Nat) (hK : ∀ a w, K a w → MReg P b ops Q [z] a w) : ∀ (f t : Nat) (listed : Array Bool) (a : Act) (w : World), AnyB P md ops Q S B [z] K f listed a w →
    MReg P b ops Q (Region.linearise.go md ops (f + 1) t listed []) a w := by
  intro f
  induction f with
  | zero =>
    intro t listed a w h
    obtain ⟨hr, hk⟩ := h
    have e : Region.linearise.go md ops (0 + 1) t listed [] = [z] := by
      change (match (Region.ready md ops listed)[t % (Region.ready md ops listed).length]? with
        | some i => Region.linearise.go md ops 0 (t / (Region.ready md ops listed).length) (listed.setIfInBounds i true) [i]
        | none => [].reverse) = [z]
      rw [hr]
      simp [Nat.mod_one, Region.linearise.go]
    rw [e]
    exact hK _ _ hk
  | succ f ih =>
    intro t listed a w h
    obtain ⟨hne, h1⟩ := h
    change MReg P b ops Q (match (Region.ready md ops listed)[t % (Region.ready md ops listed).length]? with
      | some i => Region.linearise.go md ops (f + 1) (t / (Region.ready md ops listed).length) (listed.setIfInBounds i true) [i]
      | none => [].reverse) a w
    have hlt : t % (Region.ready md ops listed).length < (Region.ready md ops listed).length := Nat.mod_lt _ (List.length_pos_iff.2 hne)
    cases hi : (Region.ready md ops listed)[t % (Region.ready md ops listed).length]? with
    | none => rw [List.getElem?_eq_getElem hlt] at hi; cases hi
    | some i =>
      simp only []
      rw [linearise_go_acc, List.reverse_singleton, List.singleton_append]
      exact mreg_op (h1 i (List.mem_of_getElem? hi)) fun a' w' h' => ih _ _ _ _ h'.2
end
end Go.Proofs.YtiboflejmnjdhaaDoor
end
section
namespace Go.Proofs.YtiboflejmnjdhaaDoor
open Go Go.Conc Go.RowKit
section
variable {P : Program} {b : Frame} {Q : Exit → Act → World → Prop} {a : Act} {w : World}
/-- From this frame the code leads to Q. -/
def WpF (P : Program) (b : Frame) (c : Code) (Q : Exit → Act → World → Prop) (a : Act) (w : World) : Prop :=
  ∀ (k : List Item) (cs : List Frame), ∃ e a' w', Q e a' w' ∧ Arrives P (lone (b.at a (.code c :: k)) cs w) b k cs e a' w'
theorem WpF.of_wp {c : Code} (h : c.wp P Q a w) : WpF P b c Q a w := fun k cs => h b k cs
theorem passes {m : Machine} {x : Item} {k : List Item} {cs : List Frame} {e : Exit} (hx : x.plain = true) (hn : e ≠ .normal) (h : Arrives P m b (x :: k) cs e a w) : Arrives P m b k cs e a w :=
  .pass (x := x) hx (fun _ _ => .inl hn) h
theorem WpF.seq {x y : Code} (h : WpF P b x (Exit.then (WpF P b y Q) Q) a w) : WpF P b (.seq x y) Q a w := by
  intro k cs
  obtain ⟨e, a1, w1, hq, har⟩ := h (.code y :: k) cs
  by_cases hn : e = .normal
  · subst hn
    obtain ⟨e2, a2, w2, hq2, har2⟩ := (hq : WpF P b y Q a1 w1) k cs
    exact ⟨e2, a2, w2, hq2, .of_steps (.head step_seq har) har2⟩
  · refine ⟨e, a1, w1, ?_, .of_steps (.one step_seq) (passes rfl hn har)⟩
    cases e <;> first | exact absurd rfl hn | exact hq
theorem WpF.cond {c : Operand} {x y : Code} (t : Bool) (hc : a.eval c = .bool t) (h : WpF P b (if t then x else y) Q a w) : WpF P b (.cond c x y) Q a w :=
  fun k cs => let ⟨e, a', w', q, r⟩ := h k cs; ⟨e, a', w', q, .of_steps (.one (step_cond hc)) r⟩
theorem WpF.block {id : Nat} {c : Code} (h : WpF P b c (Exit.inBlock id Q) a w) : WpF P b (.block id c) Q a w := by
  intro k cs
  obtain ⟨e, a1, w1, hq, har⟩ := h (.inBlock id :: k) cs
  cases e with
  | normal => exact ⟨.normal, a1, w1, hq, .head step_block (Steps.trans har (.one step_inBlock))⟩
  | exit j =>
    by_cases hj : j = id
    · exact ⟨.normal, a1, w1, by simpa [Exit.inBlock, hj] using hq, .head step_block (har k (by simp [exitTo, hj]))⟩
    · refine ⟨.exit j, a1, w1, by simpa [Exit.inBlock, hj] using hq, fun k' hk => .head step_block (har k' ?_)⟩
      simp [exitTo, show (id == j) = false by simpa using fun h => hj h.symm, hk]
  | goto l => exact ⟨_, a1, w1, hq, fun k' hk => .head step_block (har k' (by simp [gotoIn, hk]))⟩
  | ret => exact ⟨_, a1, w1, hq, .of_steps (.one step_block) har⟩
  | panic ch => exact ⟨_, a1, w1, hq, .of_steps (.one step_block) har⟩
  | outgrown => exact ⟨_, a1, w1, hq, .of_steps (b := b) (k := k) (cs := cs) (e := .outgrown) (.one step_block) har⟩
theorem WpF.loop {c : Code} (I : Act → World → Prop) (μ : Act → World → Nat) (h0 : I a w)
    (round : ∀ a w, I a w → WpF P b c (Exit.then (fun a' w' => I a' w' ∧ μ a' w' < μ a w) Q) a w) : WpF P b (.loop c) Q a w := by
  intro k cs
  have key : ∀ n a w, μ a w ≤ n → I a w → ∃ e a' w', Q e a' w' ∧ Arrives P (lone (b.at a (.code c :: .inLoop c :: k)) cs w) b k cs e a' w' := by
    intro n
    induction n with
    | zero =>
      intro a w hn hI
      obtain ⟨e, a1, w1, hq, har⟩ := round a w hI (.inLoop c :: k) cs
      by_cases he : e = .normal
      · subst he
        have := (hq : I a1 w1 ∧ μ a1 w1 < μ a w).2
        omega
      · refine ⟨e, a1, w1, ?_, passes rfl he har⟩
        cases e <;> first | exact absurd rfl he | exact hq
    | succ n ih =>
      intro a w hn hI
      obtain ⟨e, a1, w1, hq, har⟩ := round a w hI (.inLoop c :: k) cs
      by_cases he : e = .normal
      · subst he
        have hq : I a1 w1 ∧ μ a1 w1 < μ a w := hq
        obtain ⟨e2, a2, w2, hq2, har2⟩ := ih a1 w1 (by omega) hq.1
        exact ⟨e2, a2, w2, hq2, .of_steps (Steps.trans har (.one step_inLoop)) har2⟩
      · refine ⟨e, a1, w1, ?_, passes rfl he har⟩
        cases e <;> first | exact absurd rfl he | exact hq
  obtain ⟨e, a', w', hq, har⟩ := key _ a w (Nat.le_refl _) h0
  exact ⟨e, a', w', hq, .of_steps (.one step_loop) har⟩
theorem WpF.mono {c : Code} {Q' : Exit → Act → World → Prop} (hq : ∀ e a w, Q e a w → Q' e a w) (h : WpF P b c Q a w) : WpF P b c Q' a w := fun k cs => let ⟨e, a', w', q, r⟩ := h k cs; ⟨e, a', w', hq _ _ _ q, r⟩
theorem WpF.seq_k {x y : Code} (h : ∀ K : Act → World → Prop, Hid (∀ a w, WpF P b y Q a w → K a w) → WpF P b x (Exit.then K Q) a w) : WpF P b (.seq x y) Q a w := WpF.seq (h _ (Lib.hid fun _ _ h => h))
theorem WpF.loop_k {c : Code} (I : Act → World → Prop) (μ : Act → World → Nat) (h0 : I a w)
    (round : ∀ a w, I a w → ∀ K : Act → World → Prop, Hid (∀ a' w', I a' w' → μ a' w' < μ a w → K a' w') → WpF P b c (Exit.then K Q) a w) : WpF P b (.loop c) Q a w :=
  WpF.loop I μ h0 fun a w hI => round a w hI _ (Lib.hid fun _ _ h1 h2 => ⟨h1, h2⟩)
theorem calls_of_wpF {f : FuncId} {fn : Func} {c : Code} {args : Array Value} {R : Ending → World → Prop} (hf : P.funcs[f]? = some fn) (hb : fn.body = some c)
    (h : ∀ b : Frame, b.kind ≠ .early → WpF P b c (bodyPost P fn R) { tmps := args ++ Array.replicate (fn.ntmps - args.size) undef, defers := [] } w) : Calls P f args w R := by
  intro cs
  let b : Frame := { (default : Frame) with fn := f, kind := .normal }
  have hen : Frame.enter P f args .normal = b.at { tmps := args ++ Array.replicate (fn.ntmps - args.size) undef, defers := [] } [.code c] := by simp [Frame.enter, Frame.at, hf, hb, b]
  obtain ⟨e, a', w', hq, har⟩ := h b (by simp [b]) [] cs
  rw [← hen] at har
  cases e with
  | normal =>
    obtain ⟨hd, v, hr, hR⟩ := hq
    exact ⟨.returned v, w', _, hR, Steps.trans har (.one step_end), rfl, rfl, hd, rfl, fn, hf, hr⟩
  | ret =>
    obtain ⟨hd, v, hr, hR⟩ := hq
    obtain ⟨todo, hs⟩ := har
    exact ⟨.returned v, w', _, hR, hs, rfl, rfl, hd, rfl, fn, hf, hr⟩
  | panic chain =>
    obtain ⟨hd, hR⟩ := hq
    obtain ⟨todo, hs⟩ := har
    exact ⟨.panicked chain, w', _, hR, hs, rfl, rfl, hd, fn, hf⟩
  | outgrown => exact ⟨.outgrown, w', b, hq, har.resolve_left (by simp [b]), rfl, trivial⟩
  | _ => exact hq.elim
end
section
variable {P : Program} {b : Frame} {ops : Array Oper} {Q : Exit → Act → World → Prop} {S : World → Prop} {B : List Nat} {K : Act → World → Prop} {a : Act} {w : World}
theorem MReg.of_list {l : List Nat} (hA : l.all (fun i => (ops[i]?).isSome) = true) (h : wpList P ops Q (pick ops l) a w) : MReg P b ops Q l a w := fun k cs => mreg_ops (mreg_list l a w hA h) k cs
theorem WpF.of_region {id : Nat} (h : MReg P b ops Q (List.range ops.size) a w) : WpF P b (.region id ops false) Q a w :=
  fun k cs => let ⟨e, a', w', q, r⟩ := h k cs; ⟨e, a', w', q, .of_steps (.one step_region) r⟩
theorem MReg.go {i : Nat} {rest : List Nat} {o : Oper} {v : Value} {w' : World} (ho : ops[i]? = some o) (hK : MReg P b ops Q rest (a.put o.dst v) w')
    (hs : ∀ (k : List Item) (cs : List Frame), step P (lone (b.at a (.inRegion ops (i :: rest) :: k)) cs w) = .next (lone ((b.at a (.inRegion ops (i :: rest) :: k)).finish v) cs w')) : MReg P b ops Q (i :: rest) a w := by
  intro k cs
  obtain ⟨e, a', w'', hq, har⟩ := hK k cs
  refine ⟨e, a', w'', hq, .of_steps (.one (hs k cs)) ?_⟩
  rw [Frame.finish_at, ho]
  exact har
/-- A value is sent; there is room. -/
theorem MReg.send {i : Nat} {rest : List Nat} {o : Oper} (hb : b.kind ≠ .early) (ho : ops[i]? = some o) (ch x : Operand) (hop : o.op = .send ch x) (hg : o.guard = none) (c : Nat) (hch : a.eval ch = .chan (some c)) (v : Value) (hx : a.eval x = v)
    {cap s r : Nat} {buf : Array Value} {tm : Bool} (hc : w.heap[c]? = some (.chan cap buf false s r tm)) (hroom : buf.size < cap) (hK : MReg P b ops Q rest (a.put o.dst undef) (w.setChan c cap (buf.push v) false (s + 1) r tm)) : MReg P b ops Q (i :: rest) a w :=
  MReg.go ho hK fun k cs => step_lone_send_room (z' := .tuple #[]) (stepG_comm (cases := #[scase c v (.tuple #[])]) (blocking := true) (shape := .send) (w' := w) ho (by simp [Region.wanted, hg]) hb (by simp [execOp, hop, scase, hch, hx])) hc hroom
/-- A select of one receive, with a default: what waits is received. -/
theorem MReg.recv {i : Nat} {rest : List Nat} {o : Oper} (hb : b.kind ≠ .early) (ho : ops[i]? = some o) (ch : Operand) (el : TypeId) (hop : o.op = .select #[{ chan := ch, send := none, elem := el }] false) (hg : o.guard = none) (c : Nat) (hch : a.eval ch = .chan (some c)) (z : Value) (hz : (zeroValue el).run P w = .ok z w)
    {cap s r : Nat} {buf : Array Value} {tm cl : Bool} (hc : w.heap[c]? = some (.chan cap buf cl s r tm)) (hsome : 0 < buf.size) (hK : MReg P b ops Q rest (a.put o.dst (.tuple #[goInt 0, .bool true, buf.getD 0 undef])) (w.setChan c cap (buf.extract 1 buf.size) cl s (r + 1) tm)) : MReg P b ops Q (i :: rest) a w :=
  MReg.go ho hK fun k cs => step_lone_select_recv_buf (z := z) (stepG_comm (cases := #[rcase c z]) (blocking := false) (shape := .select) (w' := w) ho (by simp [Region.wanted, hg]) hb (by simp [execOp, hop, rcase, hch, hz])) hc hsome
/-- None waits: the default. -/
theorem MReg.default {i : Nat} {rest : List Nat} {o : Oper} (hb : b.kind ≠ .early) (ho : ops[i]? = some o) (ch : Operand) (el : TypeId) (hop : o.op = .select #[{ chan := ch, send := none, elem := el }] false) (hg : o.guard = none) (c : Nat) (hch : a.eval ch = .chan (some c)) (z : Value) (hz : (zeroValue el).run P w = .ok z w)
    {cap s r : Nat} {tm : Bool} (hc : w.heap[c]? = some (.chan cap #[] false s r tm)) (hK : MReg P b ops Q rest (a.put o.dst (.tuple #[goInt (-1), .bool false, z])) w) : MReg P b ops Q (i :: rest) a w :=
  MReg.go ho hK fun k cs => step_lone_select_default (z := z) (stepG_comm (cases := #[rcase c z]) (blocking := false) (shape := .select) (w' := w) ho (by simp [Region.wanted, hg]) hb (by simp [execOp, hop, rcase, hch, hz])) hc
/-- A region that draws its order, at whose end is what this walk does not know. -/
theorem WpF.of_anyB {id : Nat} (S : World → Prop) (B : List Nat) (z : Nat) (K : Act → World → Prop) (hm : P.follows .mixedOrders = true) (hz : 0 < ops.size) (hK : ∀ a w, K a w → MReg P b ops Q [z] a w)
    (h : AnyB P .any ops Q S B [z] K (ops.size - 1) (Array.replicate ops.size false) a w.drew) : WpF P b (.region id ops true) Q a w := by
  intro k cs
  have hM := mreg_of_anyB z hK (ops.size - 1) (w.tape w.drawn (.order b.fn id)) _ a w.drew h
  rw [show ops.size - 1 + 1 = ops.size by omega] at hM
  obtain ⟨e, a', w', q, r⟩ := hM k cs
  refine ⟨e, a', w', q, .of_steps (.one step_region_draw) ?_⟩
  simp only [Region.schedule, hm, Bool.true_or, if_true]
  exact r
end
end Go.Proofs.YtiboflejmnjdhaaDoor
end
