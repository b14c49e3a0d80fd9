/- A range over a function, all rounds of which go on: the law, over worlds in which some blocks are held by the iterator. A region in a round's frame, out of the plain walk. -/
import Derived.Test.YtiboflejmnjdhaaDoorJC
import Derived.RangeFuncNested
import Derived.Shelf.RegionOpen
import Derived.OrdersIn
import Derived.Test.YtiboflejmnjdhaaDoorJB
import Derived.RangeFuncBound
import Derived.RangeFuncCalls
import Derived.RangeFuncLeaves
import Derived.Shelf.Abstract
import Derived.WalkKit
import Derived.OwnWalkIn
import Derived.TacticsInMore
import Derived.LoopNIn
import Derived.LoopIn
import Derived.Deep.DeepMust
import Derived.Lib.Hide
section
set_option linter.unusedVariables false
set_option linter.unusedSimpArgs false
namespace Go.Proofs.YtiboflejmnjdhaaDoor
open Go Go.RowKit
section transfer
variable {P : Program} {ops : Array Oper} {md : Region.Mode} {Q : Exit → Act → World → Prop} {n l : Nat}
theorem rowsIn_of_rows {row : String} {args : Array Value} {w : World} {R : Value → World → Prop} (h : Rows P row args w R) : RowsIn (Fence.wide.inRound l) n P row args w R :=
  fun c cs _ => let ⟨v, w', r, s⟩ := h c cs; ⟨v, w', r, stepsIn_wide.2 s⟩
theorem oper_in {o : Oper} {a : Act} {w : World} {K : Act → World → Prop} (hd : ∀ c, o.op ≠ .defer c) (h : o.wp P a w K Q) : o.wpIn (Fence.wide.inRound l) n P a w K Q := by
  unfold Oper.wp at h
  unfold Oper.wpIn
  refine ⟨fun _ _ => trivial, ?_⟩
  simp only [Fence.inRound_round, Oper.semAt_some l _ _ hd]
  generalize (execOp a.eval o).run P w = r at h ⊢
  cases r with
  | ok x w' =>
    cases x with
    | value v => exact h
    | skip => exact h
    | «defer» d => exact h
    | enter f args =>
      refine ⟨fun h => (by cases h), ?_⟩
      have h2 : CallsIn (Fence.wide.inRound l) (n - 1) P f args w' _ := (callsIn_wide (n := n - 1)).2 h
      exact h2.mono fun e w'' he => by cases e <;> exact he
    | row row args => exact ⟨fun h => (by cases h), rowsIn_of_rows h⟩
    | _ => exact h.elim
  | halt x w' => cases x <;> exact h
def plainOps (ops : Array Oper) : Bool := ops.all fun o => match o.op with | .defer _ => false | _ => true
theorem plainOps_spec (h : plainOps ops = true) {i : Nat} {o : Oper} (ho : ops[i]? = some o) : ∀ c, o.op ≠ .defer c := by
  intro c hc
  obtain ⟨hi, rfl⟩ := Array.getElem?_eq_some_iff.1 ho
  have h1 := Array.all_eq_true.1 h i hi
  rw [hc] at h1
  cases h1
theorem wpOp_in (hp : plainOps ops = true) (hq : ¬ LetsOut Q) {i : Nat} {a : Act} {w : World} {K : Act → World → Prop} (h : wpOp P ops Q i K a w) : wpOpIn (Fence.wide.inRound l) n P ops Q i K a w := by
  unfold wpOp at h
  unfold wpOpIn
  cases ho : ops[i]? with
  | none => simpa only [ho] using h
  | some o =>
    simp only [ho] at h ⊢
    split
    · rename_i hw
      rw [if_pos hw] at h
      rcases h with h | ⟨_, h⟩
      · exact oper_in (plainOps_spec hp ho) h
      · exact absurd h hq
    · rename_i hw
      rw [if_neg hw] at h
      exact ⟨fun _ _ => trivial, h⟩
theorem wpAny_in (hp : plainOps ops = true) (hq : ¬ LetsOut Q) : ∀ (fuel : Nat) (listed : Array Bool) (a : Act) (w : World), wpAny P md ops Q fuel listed a w → wpAnyIn (Fence.wide.inRound l) n P md ops Q fuel listed a w
  | 0, _, _, _, h => h
  | fuel + 1, _, _, _, h => ⟨h.1, fun i hi => wpOpIn_mono (fun a' w' h' => wpAny_in hp hq fuel _ a' w' h') (wpOp_in hp hq (h.2 i hi))⟩
/-- A region that draws, in a round's frame. -/
theorem seg_begin_in (S : World → Prop) (B : List Nat) {id : Nat} {a : Act} {w : World} (hm : P.follows .mixedOrders = true) (hp : plainOps ops = true) (hq : ¬ LetsOut Q) (h : AnyB P .any ops Q S B [] (Q .normal) ops.size (Array.replicate ops.size false) a w.drew) : (Code.region id ops true).wpIn (Fence.wide.inRound l) n P Q a w :=
  wpIn_region_any hm (wpAny_in hp hq _ _ _ _ (any_of_anyB _ _ _ _ h))
end transfer
/-- Nothing turns but new blocks, and blocks from B on that hold no cells. -/
structure Turn (B : Nat) (w w' : World) : Prop where
  os : w'.os = w.os
  tape : w'.tape = w.tape
  output : w'.output = w.output
  size : w.heap.size ≤ w'.heap.size
  block : ∀ k, k < w.heap.size → w'.heap[k]? = w.heap[k]? ∨ (B ≤ k ∧ ∃ o, w.heap[k]? = some o ∧ o.isCells = false)
theorem Turn.of_below {B : Nat} {w w' : World} (h : Below w.heap.size w w') : Turn B w w' := ⟨h.os, h.tape, h.output, h.size, fun k hk => .inl (h.block k hk)⟩
theorem Turn.refl (B : Nat) (w : World) : Turn B w w := .of_below (Below.refl _ w)
theorem Turn.trans {B : Nat} {a b c : World} (h : Turn B a b) (k : Turn B b c) : Turn B a c :=
  ⟨k.os.trans h.os, k.tape.trans h.tape, k.output.trans h.output, Nat.le_trans h.size k.size, fun i hi => by
    rcases h.block i hi with h1 | h1
    · rcases k.block i (Nat.lt_of_lt_of_le hi h.size) with h2 | ⟨h2, o, ho, hc⟩
      · exact .inl (h2.trans h1)
      · exact .inr ⟨h2, o, h1 ▸ ho, hc⟩
    · exact .inr h1⟩
theorem Turn.mono {B B' : Nat} {w w' : World} (h : Turn B' w w') (hB : B ≤ B') : Turn B w w' :=
  ⟨h.os, h.tape, h.output, h.size, fun k hk => (h.block k hk).imp id fun h1 => ⟨Nat.le_trans hB h1.1, h1.2⟩⟩
theorem Turn.putObj {B : Nat} {w : World} {l : Nat} {o : Obj} (o' : Obj) (hB : B ≤ l) (ho : w.heap[l]? = some o) (hc : o.isCells = false) : Turn B w (w.putObj l o') :=
  ⟨rfl, rfl, rfl, Nat.le_of_eq World.putObj_size.symm, fun k hk => by
    by_cases h : k = l
    · subst h; exact .inr ⟨hB, o, ho, hc⟩
    · exact .inl (World.putObj_heap_other h)⟩
/-- The blocks of X lie as they lay. -/
structure KeepX (X : List Nat) (w w' : World) : Prop where
  size : w.heap.size ≤ w'.heap.size
  block : ∀ k ∈ X, w'.heap[k]? = w.heap[k]?
theorem KeepX.trans {X : List Nat} {a b c : World} (h : KeepX X a b) (k : KeepX X b c) : KeepX X a c := ⟨Nat.le_trans h.size k.size, fun i hi => (k.block i hi).trans (h.block i hi)⟩
theorem KeepX.of_below {X : List Nat} {w w' : World} (h : Below w.heap.size w w') (hX : ∀ k ∈ X, k < w.heap.size) : KeepX X w w' := ⟨h.size, fun k hk => h.block k (hX k hk)⟩
/-- J abides what an iterator does between two rounds: new blocks, the turn of its own loops' records; it may hold further blocks, all new. -/
def Stable {β : Type} (B : Nat) (J : List Nat → β → World → Prop) : Prop :=
  ∀ X X' s A A', J X s A → Turn B A A' → (∀ k ∈ X, k ∈ X') → (∀ k ∈ X', (k ∈ X ∨ A.heap.size ≤ k) ∧ k < A'.heap.size) → J X' s A'
/-- The iterator (function gf on lb) gives the elements xs, if each round goes on and lets lie as it lay what the iterator holds (Pr ahead of all). -/
def Gives {α : Type} (P : Program) (gf : Nat) (lb : Array Value) (encs : α → Array Value) (xs : List α) (Pr : List Nat) (w : World) : Prop :=
  ∀ (l : Nat) (J : List Nat → List α → World → Prop) (W : World) (X0 : List Nat), Below w.heap.size w W → Stable W.heap.size J → (∀ k ∈ Pr, k ∈ X0) → (∀ k ∈ X0, k < W.heap.size) →
    (∀ X i x W1, xs[i]? = some x → (∀ k ∈ X, k < W1.heap.size) → J X (xs.take i) W1 → YieldAt Fence.wide 0 P l (encs x) W1 fun e W' => e = .returned (.bool true) ∧ J X (xs.take (i + 1)) W' ∧ KeepX X W1 W') →
    J X0 [] W → Calls P gf (#[.func (.yield l) #[] #[]] ++ lb) W fun e W' => (∃ v, e = .returned v) ∧ ∃ X, (∀ k ∈ X0, k ∈ X) ∧ (∀ k ∈ X, k < W'.heap.size) ∧ J X xs W'
theorem roundIn_any {P : Program} {l l2 m : Nat} {f : FuncId} {tmps : Array Value} {assign body : Code} {w : World} {R : Ending → World → Prop} (h : RoundIn Fence.wide 0 P l f tmps assign body w R) : RoundIn (Fence.wide.inRound l2) m P l f tmps assign body w R :=
  ⟨trivial, fun c cs _ => h.2 c cs (room_wide _)⟩
theorem roundIn_wide {P : Program} {l m : Nat} {f : FuncId} {tmps : Array Value} {assign body : Code} {w : World} {R : Ending → World → Prop} (h : RoundIn Fence.wide 0 P l f tmps assign body w R) : RoundIn Fence.wide m P l f tmps assign body w R :=
  ⟨trivial, fun c cs _ => h.2 c cs (room_wide _)⟩
/-- How a round is left: it goes on. -/
def goOn (X : List Nat) (W : World) (J : World → Prop) : Exit → Act → World → Prop
  | .normal, _, W' => KeepX X W W' ∧ J W'
  | _, _, _ => False
theorem goOn_letsOut {X : List Nat} {W : World} {J : World → Prop} : ¬ LetsOut (goOn X W J) := fun ⟨_, _, h⟩ => h
theorem range_all {α : Type} {P : Program} {n : Nat} {g : Operand} {ps : Array Tmp} {assign body : Code} {Q : Exit → Act → World → Prop} {a : Act} {w : World}
    {gf : Nat} {lb : Array Value} (hg : a.eval g = .func (.func gf) #[] lb) (eg : ∀ args w, (callFunc gf args).run P w = .ok (.enter gf args) w)
    {encs : α → Array Value} {xs : List α} {Pr : List Nat} {w0 : World} (hseq : Gives P gf lb encs xs Pr w0) (hb0 : Below w0.heap.size w0 w) (hps : ∀ x, (encs x).size = ps.size)
    (I : List Nat → List α → World → Prop) (hI : Stable w.heap.size I) (X0 : List Nat) (hX0 : ∀ k ∈ Pr, k ∈ X0) (hlt0 : ∀ k ∈ X0, k < w.heap.size) (h0 : I X0 [] w)
    (Ax : List Nat → α → Act → World → Prop) (hAx : ∀ X x a' A A', Ax X x a' A → Turn w.heap.size A A' → Ax X x a' A')
    (hassign : ∀ (l : Nat) (X : List Nat) (i : Nat) (x : α) (W : World) (K : Act → World → Prop), xs[i]? = some x → (∀ k ∈ X, k < W.heap.size) → I X (xs.take i) W →
      (∀ a' W', KeepX X W W' → I X (xs.take i) W' → Ax X x a' W' → K a' W') →
      assign.wpIn (Fence.wide.inRound l) 0 P (Exit.then K (fun _ _ _ => False)) { tmps := (ps.zip (encs x)).foldl (fun t (p, v) => t.setIfInBounds p v) a.tmps, defers := [] } W)
    (hbody : ∀ (l : Nat) (X : List Nat) (i : Nat) (x : α) (a' : Act) (W : World), xs[i]? = some x → (∀ k ∈ X, k < W.heap.size) → I X (xs.take i) W → Ax X x a' W →
      body.wpIn (Fence.wide.inRound l) 0 P (goOn X W (I X (xs.take (i + 1)))) a' W)
    (hdone : ∀ (X : List Nat) (W : World), I X xs W → (∀ k ∈ X0, k ∈ X) → w.heap.size ∈ X → W.heap[w.heap.size]? = some (.deferred (some [])) → Q .normal { a with defers := { target := .collected w.heap.size, args := #[] } :: a.defers } W) :
    (Code.rangeFunc g ps assign body).wpIn Fence.wide n P Q a w := by
  refine wpIn_rangeFunc ?_
  intro fn _
  obtain ⟨L, hL⟩ : ∃ L : LoopState → Option Code → Loop, L = fun st pe => { state := st, pending := pe, fn, tmps := a.tmps, params := ps, assign, body, defers := w.heap.size } := ⟨_, rfl⟩
  obtain ⟨W1, hW1⟩ : ∃ W1, W1 = (w.alloc (.deferred (some []))).alloc (.loop (L .ready none)) := ⟨_, rfl⟩
  have hsz : W1.heap.size = w.heap.size + 2 := by rw [hW1]; simp
  have hl1 : W1.heap[w.heap.size + 1]? = some (.loop (L .ready none)) := by
    rw [hW1]; have := World.alloc_heap_new (w.alloc (.deferred (some []))) (.loop (L .ready none)); rwa [World.size_alloc] at this
  have hd1 : W1.heap[w.heap.size]? = some (.deferred (some [])) := by
    rw [hW1]; exact (Below.heap_alloc _ _ _ (by simp)).trans (World.alloc_heap_new w _)
  have hb1 : Below w.heap.size w W1 := by rw [hW1]; exact ((Below.refl _ w).alloc (Nat.le_refl _) _).alloc (by simp) _
  have hI1 : I ((w.heap.size + 1) :: w.heap.size :: X0) [] W1 := hI _ _ _ _ _ h0 (.of_below hb1) (fun k hk => by simp [hk]) (fun k hk => by
    simp only [List.mem_cons] at hk
    rcases hk with rfl | rfl | hk
    · exact ⟨.inr (by omega), by omega⟩
    · exact ⟨.inr (by omega), by omega⟩
    · exact ⟨.inl hk, by have := hlt0 k hk; omega⟩)
  refine ⟨w.heap.size + 1, [{ target := .collected w.heap.size, args := #[] }], W1, { target := .fn (.func gf) lb, args := #[.func (.yield (w.heap.size + 1)) #[] #[]] }, W1, gf,
    #[.func (.yield (w.heap.size + 1)) #[] #[]] ++ lb, W1, ?_, ?_, fun _ _ => trivial, ?_, fun h => (by cases h), ?_⟩
  · rw [hW1, hL]; exact run_enterLoop_outer _ _ _ _ _
  · simp only [resolve, hg]
    simp [go_sem]
  · simp [invoke, go_sem, eg]
  · refine callsIn_wide.2 ((hseq (w.heap.size + 1)
      (fun X s W => I X s W ∧ W.heap[w.heap.size + 1]? = some (.loop (L .ready none)) ∧ W.heap[w.heap.size]? = some (.deferred (some [])) ∧ w.heap.size + 1 ∈ X ∧ w.heap.size ∈ X ∧ (∀ k ∈ X0, k ∈ X))
      W1 ((w.heap.size + 1) :: w.heap.size :: X0) (hb0.trans (hb1.mono hb0.size)) ?_ (fun k hk => by simp [hX0 k hk]) (fun k hk => by
        simp only [List.mem_cons] at hk
        rcases hk with rfl | rfl | hk
        · omega
        · omega
        · have := hlt0 k hk; omega) ?_ ⟨hI1, hl1, hd1, by simp, by simp, fun k hk => by simp [hk]⟩).mono ?_)
    · rintro X X' s A A' ⟨h1, h2, h3, h4, h5, h6⟩ hT hsub hX
      have hnot : ∀ k, k < W1.heap.size → k < A.heap.size → A'.heap[k]? = A.heap[k]? := fun k hk hka => (hT.block k hka).resolve_right fun h => by omega
      exact ⟨hI _ _ _ _ _ h1 (hT.mono (by omega)) hsub hX, (hnot _ (by omega) (Array.getElem?_eq_some_iff.1 h2).1).trans h2, (hnot _ (by omega) (Array.getElem?_eq_some_iff.1 h3).1).trans h3, hsub _ h4, hsub _ h5, fun k hk => hsub _ (h6 k hk)⟩
    · rintro X i x W hx hXlt ⟨h1, h2, h3, h4, h5, h6⟩
      have hy := run_yield (P := P) (args := encs x) h2 (by rw [hL]; exact hps x)
      rw [hL] at hy
      refine ⟨fn, _, assign, body, hy, roundIn_of_wpIn trivial (hassign _ X i x W _ hx hXlt h1 ?_)⟩
      intro a' Wa ka ia ax
      have hla : Wa.heap[w.heap.size + 1]? = some (.loop (L .ready none)) := (ka.block _ h4).trans h2
      have hda : Wa.heap[w.heap.size]? = some (.deferred (some [])) := (ka.block _ h5).trans h3
      have hlta := (Array.getElem?_eq_some_iff.1 hla).1
      have hXa : ∀ k ∈ X, k < Wa.heap.size := fun k hk => Nat.lt_of_lt_of_le (hXlt k hk) ka.size
      refine ⟨_, run_beginRound hla (by rw [hL]), ?_⟩
      have hT2 : Turn w.heap.size Wa (Wa.putObj (w.heap.size + 1) (.loop { L .ready none with state := .busy })) := .putObj _ (by omega) hla rfl
      have hX2 : ∀ k ∈ X, k < (Wa.putObj (w.heap.size + 1) (.loop { L .ready none with state := .busy })).heap.size := fun k hk => by rw [World.putObj_size]; exact hXa k hk
      refine wpIn_mono (hbody _ X i x a' _ hx hX2 (hI _ _ _ _ _ ia hT2 (fun _ h => h) (fun k hk => ⟨.inl hk, hX2 k hk⟩)) (hAx _ _ _ _ _ ax hT2)) ?_
      rintro e a3 W3 hp
      cases e with
      | normal =>
        obtain ⟨k3, i3⟩ := hp
        have hl3 : W3.heap[w.heap.size + 1]? = some (.loop { L .ready none with state := .busy }) := (k3.block _ h4).trans (World.putObj_heap_same hlta)
        have hlt3 := (Array.getElem?_eq_some_iff.1 hl3).1
        have hend := run_endRound (P := P) none hl3
        have hT4 : Turn w.heap.size W3 (W3.putObj (w.heap.size + 1) (.loop (L .ready none))) := .putObj _ (by omega) hl3 rfl
        have hX4 : ∀ k ∈ X, k < (W3.putObj (w.heap.size + 1) (.loop (L .ready none))).heap.size := fun k hk => by
          rw [World.putObj_size]; exact Nat.lt_of_lt_of_le (hX2 k hk) k3.size
        have hother : ∀ k ∈ X, k ≠ w.heap.size + 1 → (W3.putObj (w.heap.size + 1) (.loop (L .ready none))).heap[k]? = W.heap[k]? := fun k hk hne =>
          (World.putObj_heap_other hne).trans ((k3.block k hk).trans ((World.putObj_heap_other hne).trans (ka.block k hk)))
        refine ⟨_, W3.putObj (w.heap.size + 1) (.loop (L .ready none)), ?_, rfl, ⟨hI _ _ _ _ _ i3 hT4 (fun _ h => h) (fun k hk => ⟨.inl hk, hX4 k hk⟩), World.putObj_heap_same hlt3, ?_, h4, h5, h6⟩, ?_, ?_⟩
        · rw [hL] at hend ⊢; exact hend
        · exact (hother _ h5 (by omega)).trans h3
        · rw [World.putObj_size]; have := k3.size; rw [World.putObj_size] at this; exact Nat.le_trans ka.size this
        · intro k hk
          by_cases hkl : k = w.heap.size + 1
          · subst hkl; exact (World.putObj_heap_same hlt3).trans h2.symm
          · exact hother k hk hkl
      | _ => exact hp.elim
    · rintro e W2 ⟨⟨v, rfl⟩, X, hsub, hXlt, h1, h2, h3, h4, h5, h6⟩
      have hend := run_endLoop (P := P) h2 (by rw [hL]; simp)
      rw [hL] at hend
      have hT5 : Turn w.heap.size W2 (W2.putObj (w.heap.size + 1) (.loop { L .ready none with state := .exhausted })) := .putObj _ (by omega) h2 rfl
      rw [hL] at hT5
      refine ⟨none, _, hend, hdone X _ (hI _ _ _ _ _ h1 hT5 (fun _ h => h) (fun k hk => ⟨.inl hk, by rw [World.putObj_size]; exact hXlt k hk⟩)) h6 h5 ((World.putObj_heap_other (by omega)).trans h3)⟩
end Go.Proofs.YtiboflejmnjdhaaDoor
end
section
set_option linter.unusedVariables false
set_option linter.unusedSimpArgs false
set_option maxRecDepth 100000
namespace Go.Proofs.YtiboflejmnjdhaaDoor
open Go Go.RowKit Go.Shelf
attribute [local go_sem] Oper.semAt_some
section transfer
variable {P : Program} {ops : Array Oper} {md : Region.Mode} {Q : Exit → Act → World → Prop} {n : Nat}
theorem rowsIn_of_rows_w {row : String} {args : Array Value} {w : World} {R : Value → World → Prop} (h : Rows P row args w R) : RowsIn Fence.wide n P row args w R :=
  fun c cs _ => let ⟨v, w', r, s⟩ := h c cs; ⟨v, w', r, stepsIn_wide.2 s⟩
theorem oper_w {o : Oper} {a : Act} {w : World} {K : Act → World → Prop} (h : o.wp P a w K Q) : o.wpIn Fence.wide n P a w K Q := by
  unfold Oper.wp at h
  unfold Oper.wpIn
  refine ⟨fun _ _ => trivial, ?_⟩
  show o.uponIn Fence.wide n P a K Q ((execOp a.eval o).run P w)
  generalize (execOp a.eval o).run P w = r at h ⊢
  cases r with
  | ok x w' =>
    cases x with
    | value v => exact h
    | skip => exact h
    | «defer» d => exact h
    | enter f args =>
      refine ⟨fun h => (by cases h), ?_⟩
      have h2 : CallsIn Fence.wide (n - 1) P f args w' _ := (callsIn_wide (n := n - 1)).2 h
      exact h2.mono fun e w'' he => by cases e <;> exact he
    | row row args => exact ⟨fun h => (by cases h), rowsIn_of_rows_w h⟩
    | _ => exact h.elim
  | halt x w' => cases x <;> exact h
theorem wpOp_w (hq : ¬ LetsOut Q) {i : Nat} {a : Act} {w : World} {K : Act → World → Prop} (h : wpOp P ops Q i K a w) : wpOpIn Fence.wide n P ops Q i K a w := by
  unfold wpOp at h
  unfold wpOpIn
  cases ho : ops[i]? with
  | none => simpa only [ho] using h
  | some o =>
    simp only [ho] at h ⊢
    split
    · rename_i hw
      rw [if_pos hw] at h
      rcases h with h | ⟨_, h⟩
      · exact oper_w h
      · exact absurd h hq
    · rename_i hw
      rw [if_neg hw] at h
      exact ⟨fun _ _ => trivial, h⟩
theorem wpAny_w (hq : ¬ LetsOut Q) : ∀ (fuel : Nat) (listed : Array Bool) (a : Act) (w : World), wpAny P md ops Q fuel listed a w → wpAnyIn Fence.wide n P md ops Q fuel listed a w
  | 0, _, _, _, h => h
  | fuel + 1, _, _, _, h => ⟨h.1, fun i hi => wpOpIn_mono (fun a' w' h' => wpAny_w hq fuel _ a' w' h') (wpOp_w hq (h.2 i hi))⟩
def noOut (Q : Exit → Act → World → Prop) : Exit → Act → World → Prop
  | .normal, a, w => Q .normal a w
  | .exit i, a, w => Q (.exit i) a w
  | .goto i, a, w => Q (.goto i) a w
  | .ret, a, w => Q .ret a w
  | .panic c, a, w => Q (.panic c) a w
  | .outgrown, _, _ => False
theorem noOut_not : ¬ LetsOut (noOut Q) := fun ⟨_, _, h⟩ => h
theorem noOut_le {e : Exit} {a : Act} {w : World} (h : noOut Q e a w) : Q e a w := by cases e <;> first | exact h | exact h.elim
/-- A region that draws, in the wide fence. -/
theorem seg_begin_w (S : World → Prop) (B : List Nat) {id : Nat} {a : Act} {w : World} (hm : P.follows .mixedOrders = true) (h : AnyB P .any ops (noOut Q) S B [] (Q .normal) ops.size (Array.replicate ops.size false) a w.drew) : (Code.region id ops true).wpIn Fence.wide n P Q a w :=
  wpIn_mono (Q := noOut Q) (wpIn_region_any hm (wpAny_w noOut_not _ _ _ _ (any_of_anyB _ _ _ _ h))) (fun _ _ _ h => noOut_le h)
end transfer
theorem chunk_any (A : Option Addr) (n c : Nat) (w : World) :
    Calls Tryd.prog 47 #[.slice A n c, .int .i64 16] w fun e w' => e = .returned (.func (.func 72) #[] #[.pointer (some ⟨w.heap.size, 0, none⟩), .pointer (some ⟨w.heap.size + 1, 0, none⟩)]) ∧ w' = (w.alloc (.cells #[.slice A n c] 22)).alloc (.cells #[.int .i64 16] 3) := by
  go_enter Tryd.func47, Tryd.ntmps47
  go_wp2
  go_ret
  exact ⟨rfl, rfl⟩
/-- 'x[l:l+m:l+m]'. -/
theorem cut_lhm (A : Option Addr) (n c l m : Nat) (hm : 0 < m) (hc : l + m ≤ c) (W : World) : (Instr.slice 22 (.slice A n c) (some (.int .i64 (l : Int))) (some (.int .i64 ((l : Int) + (m : Int)))) (some (.int .i64 ((l : Int) + (m : Int))))).run Tryd.prog W = .ok (.slice (A.map (·.add l)) m m) W := by
  have hel : Tryd.prog.elem 22 = 5 := by simp [Program.elem, Tryd.underlying22]
  have hu : Tryd.prog.underlying 22 = some (.slice (Tryd.prog.elem 22)) := by rw [hel]; exact Tryd.underlying22
  have hs : (Tryd.prog.info? 5).map (·.size) = some 1 := by kernel_rfl
  obtain ⟨i, hi, hi1⟩ := Option.map_eq_some_iff.1 hs
  rw [run_slice_lhm W 22 A n c hu .i64 .i64 .i64 (l : Int) ((l : Int) + (m : Int)) ((l : Int) + (m : Int)) (Int.natCast_nonneg _) (by omega) (Int.le_refl _) (by omega), hel]
  have e1 : ((l : Int) + (m : Int)).toNat = l + m := by omega
  have e2 : l + m ≠ l := by omega
  simp [sizeOf, typeInfo, hi, hi1, sliced, Result.andThen, e1, show l + m - l = m by omega, e2]
  omega
/-- A piece of a slice: where, and how long. -/
def piece (A : Option Addr) (n : Nat) (i : Nat) : Option Addr × Nat := (A.map (·.add (16 * i)), min 16 (n - 16 * i))
def pieces (A : Option Addr) (n : Nat) : List (Option Addr × Nat) := (List.range ((n + 15) / 16)).map (piece A n)
theorem chunk_gives (b1 b2 : Nat) (A : Option Addr) (n c : Nat) (hn : n ≤ c) (hc : c ≤ 9223372036854775807) (hn2 : n ≤ 9223372036854775000) (w : World) (h1 : w.cell? ⟨b1, 0, none⟩ = some (.slice A n c)) (h2 : w.cell? ⟨b2, 0, none⟩ = some (.int .i64 16)) :
    Gives Tryd.prog 72 #[.pointer (some ⟨b1, 0, none⟩), .pointer (some ⟨b2, 0, none⟩)] (fun x => #[.slice x.1 x.2 x.2]) (pieces A n) [b1, b2] w := by
  intro l J W X0 hb hJ hPr hX0 hround h0
  refine (callsIn_wide (n := 3)).1 ?_
  have hb1 := (hb.cell (p := ⟨b1, 0, none⟩) (World.block_lt_of_cell? w _ h1)).trans h1
  have hb2 := (hb.cell (p := ⟨b2, 0, none⟩) (World.block_lt_of_cell? w _ h2)).trans h2
  have Hb1 := Lib.hid hb1
  have Hb2 := Lib.hid hb2
  have HPr := Lib.hid hPr
  have HX0 := Lib.hid hX0
  have Hround := Lib.hid hround
  clear hb h1 h2 hb1 hb2 hPr hX0 hround
  refine callsIn_of_wp Tryd.func72 rfl trivial ?_ rfl
  simp only [Tryd.ntmps72, List.size_toArray, List.length_cons, List.length_nil, Nat.reduceAdd, Nat.reduceSub, Array.replicate_succ, Array.replicate_zero, List.push_toArray, List.append_toArray, List.nil_append, List.cons_append]
  gi_wp2
  gi_loopw [4] (fun i wr => ∃ (k : Nat) (X : List Nat), k ≤ (n + 15) / 16 ∧ i = .int .i64 (16 * (k : Int)) ∧ J X ((pieces A n).take k) wr ∧ (∀ x ∈ X0, x ∈ X) ∧ (∀ x ∈ X, x < wr.heap.size) ∧ Hid (wr.cell? ⟨b1, 0, none⟩ = some (.slice A n c)) ∧ Hid (wr.cell? ⟨b2, 0, none⟩ = some (.int .i64 16)))
    (fun i _ => n - (intOf i).toNat)
  case atStart => exact ⟨0, X0, by omega, by simp, h0, fun _ h => h, HX0.out, Hb1, Hb2⟩
  case round =>
    obtain ⟨k, X, hk, rfl, hJ2, hs, hlt, H1, H2⟩ := hrel
    by_cases hlt2 : 16 * k < n
    · have hx : (pieces A n)[k]? = some (piece A n k) := by
        simp only [pieces, List.getElem?_map, List.getElem?_range (show k < (n + 15) / 16 by omega), Option.map_some]
      have hT : Turn W.heap.size wr wr.drew := .of_below (Below.refl _ _).drew
      have hJ3 := hJ X X _ wr wr.drew hJ2 hT (fun _ h => h) (fun x hx => ⟨.inl hx, hlt x hx⟩)
      obtain ⟨fn, tmps, assign, body, hy, hR⟩ := Hround.out X k _ wr.drew hx hlt hJ3
      simp only [piece] at hy
      obtain ⟨A', hcut, _, _⟩ := cut_lo A n c (16 * k) (by omega)
      have hcut := hcut .i64
      rw [show ((16 * k : Nat) : Int) = 16 * (k : Int) by omega] at hcut
      obtain ⟨r, hr⟩ : ∃ r, r = n - 16 * k := ⟨_, rfl⟩
      obtain ⟨m, hm⟩ : ∃ m, m = min 16 r := ⟨_, rfl⟩
      rw [← hr] at hcut hy
      rw [← hm] at hy
      have Hr := Lib.hid hr
      have Hm := Lib.hid hm
      have Hy := Lib.hid hy
      have HR := Lib.hid hR
      have hc1 := H1.out
      have hc2 := H2.out
      clear hr hm hy hR hJ2 hJ3 hT
      gi_wp2
      refine seg_begin_w (fun W => W.cell? ⟨b1, 0, none⟩ = some (.slice A n c) ∧ W.cell? ⟨b2, 0, none⟩ = some (.int .i64 16)) [0, 1] (by kernel_rfl) ?_
      have HS : Hid (wr.drew.cell? ⟨b1, 0, none⟩ = some (.slice A n c) ∧ wr.drew.cell? ⟨b2, 0, none⟩ = some (.int .i64 16)) := Lib.hid ⟨H1.out, H2.out⟩
      have hlt3 : ∀ x ∈ X, x < wr.drew.heap.size := hlt
      clear H1 H2 hc1 hc2 hlt
      generalize wr.drew = wd at *
      (refine seg_take 2 ?_ rfl (by kernel_rfl) (by kernel_rfl) (by kernel_rfl) (by kernel_rfl) (by kernel_rfl) rfl (fun _ _ _ h => h) rfl ?_ ?_; rotate_left; (focus (intro w; go_simp; try with_reducible rfl)); (try simp only [List.getElem_toArray, List.getElem_cons_zero, List.getElem_cons_succ, Act.put, List.setIfInBounds_toArray, List.set_cons_zero, List.set_cons_succ]); refine seg_read 1 ?_ rfl (by kernel_rfl) (by kernel_rfl) (by kernel_rfl) (by kernel_rfl) (by kernel_rfl) (by kernel_rfl) (fun _ _ _ h => h) rfl HS.out ?_ ?_; rotate_left; (focus (intro w hSw; (try dsimp only at hSw); go_split_ands; go_simp; try with_reducible rfl)); (try simp only [List.getElem_toArray, List.getElem_cons_zero, List.getElem_cons_succ, Act.put, List.setIfInBounds_toArray, List.set_cons_zero, List.set_cons_succ]); refine seg_take 3 ?_ rfl (by kernel_rfl) (by kernel_rfl) (by kernel_rfl) (by kernel_rfl) (by kernel_rfl) rfl (fun _ _ _ h => h) rfl ?_ ?_; rotate_left; (focus (intro w; go_simp; try with_reducible rfl)); (try simp only [List.getElem_toArray, List.getElem_cons_zero, List.getElem_cons_succ, Act.put, List.setIfInBounds_toArray, List.set_cons_zero, List.set_cons_succ]); refine seg_take 4 ?_ rfl (by kernel_rfl) (by kernel_rfl) (by kernel_rfl) (by kernel_rfl) (by kernel_rfl) rfl (fun _ _ _ h => h) rfl ?_ ?_; rotate_left; (focus (intro w; go_simp; try with_reducible rfl)); (try simp only [List.getElem_toArray, List.getElem_cons_zero, List.getElem_cons_succ, Act.put, List.setIfInBounds_toArray, List.set_cons_zero, List.set_cons_succ]); refine seg_read 0 ?_ rfl (by kernel_rfl) (by kernel_rfl) (by kernel_rfl) (by kernel_rfl) (by kernel_rfl) (by kernel_rfl) (fun _ _ _ h => h) rfl HS.out ?_ ?_; rotate_left; (focus (intro w hSw; (try dsimp only at hSw); go_split_ands; go_simp; try with_reducible rfl)); (try simp only [List.getElem_toArray, List.getElem_cons_zero, List.getElem_cons_succ, Act.put, List.setIfInBounds_toArray, List.set_cons_zero, List.set_cons_succ]))
      (refine seg_rest [5, 6] _ _ _ (by kernel_rfl) ?_ _ rfl)
      (refine segs_out rfl ?_; (simp only [pick, List.getElem?_toArray, List.getElem_toArray, List.getElem_cons_zero, List.getElem_cons_succ, List.getElem?_cons_zero, List.getElem?_cons_succ, Act.put, List.setIfInBounds_toArray, List.set_cons_zero, List.set_cons_succ]))
      have hmi : (if (r : Int) < 16 then (r : Int) else 16) = (m : Int) := by rw [Hm.out]; split <;> omega
      go_wp2
      dsimp only [noOut]
      have hc1 := HS.out.1
      have hc2 := HS.out.2
      have hcut3 : ∀ W, (Instr.slice 22 (.slice A n c) (some (.int .i64 (16 * (k : Int)))) (some (.int .i64 (16 * (k : Int) + (m : Int)))) (some (.int .i64 (16 * (k : Int) + (m : Int))))).run Tryd.prog W = .ok (.slice (A.map (·.add (16 * k))) m m) W := fun W => cut_lhm A n c (16 * k) m (by rw [Hm.out, Hr.out]; omega) (by rw [Hm.out, Hr.out]; omega) W
      have hy := Hy.out
      have hmc : 16 * (k : Int) + (m : Int) ≤ (c : Int) := by rw [Hm.out, Hr.out]; omega
      clear hcut hmi
      gi_wp2
      refine (roundIn_wide HR.out).mono ?_
      rintro e W3 ⟨rfl, hJ4, hk4⟩
      have hX1 : b1 ∈ X := hs _ (HPr.out _ (by simp))
      have hX2 : b2 ∈ X := hs _ (HPr.out _ (by simp))
      have hc1' : W3.cell? ⟨b1, 0, none⟩ = some (.slice A n c) := (World.cell?_of_block (a := ⟨b1, 0, none⟩) (hk4.block _ hX1)).trans HS.out.1
      have hc2' : W3.cell? ⟨b2, 0, none⟩ = some (.int .i64 16) := (World.cell?_of_block (a := ⟨b2, 0, none⟩) (hk4.block _ hX2)).trans HS.out.2
      have Hk4 := Lib.hid hk4
      have HJ4 := Lib.hid hJ4
      have Hc1 := Lib.hid hc1'
      have Hc2 := Lib.hid hc2'
      clear hk4 hJ4 hy hc1 hc2 hcut3
      gi_wp2
      go_roundw
      case rel => exact ⟨k + 1, X, by omega, by go_num, HJ4.out, hs, fun x hx => Nat.lt_of_lt_of_le (hlt3 x hx) Hk4.out.size, Hc1, Hc2⟩
      case measure => simp [intOf]; omega
    · have hke : k = (n + 15) / 16 := by omega
      have hc1 := H1.out
      have Hke := Lib.hid hke
      clear hke
      gi_wp2
      go_end0
      refine ⟨⟨_, rfl⟩, X, hs, hlt, ?_⟩
      have : (pieces A n).take k = pieces A n := List.take_of_length_le (by simp [pieces, Hke.out])
      rw [this] at hJ2
      exact hJ2
end Go.Proofs.YtiboflejmnjdhaaDoor
end
section
set_option linter.unusedVariables false
set_option linter.unusedSimpArgs false
set_option maxRecDepth 100000
namespace Go.Proofs.YtiboflejmnjdhaaDoor
open Go Go.RowKit
section
variable {P : Program} {ops : Array Oper} {Q : Exit → Act → World → Prop} {n l : Nat}
theorem opIn_out {F : Fence} {o : Oper} {a : Act} {w : World} {K : Act → World → Prop} (h : o.wpIn F n P a w K (noOut Q)) : o.wpIn F n P a w K Q := by
  unfold Oper.wpIn at h ⊢
  refine ⟨h.1, ?_⟩
  have h2 := h.2
  generalize (o.semAt F.round a.eval).run P w = r at h2 ⊢
  cases r with
  | ok x w' =>
    cases x with
    | enter f args =>
      refine ⟨h2.1, h2.2.mono ?_⟩
      intro e w'' he
      cases e with
      | returned v => exact he
      | panicked ch => exact he
      | outgrown => exact absurd he noOut_not
    | round lb f tmps assign body =>
      refine ⟨h2.1, h2.2.mono ?_⟩
      intro e w'' he
      cases e with
      | returned v => exact he
      | panicked ch => exact he
      | outgrown => exact absurd he noOut_not
    | row row args => exact h2
    | value v => exact h2
    | skip => exact h2
    | «defer» d => exact h2
    | _ => exact h2
  | halt x w' => cases x <;> exact h2
theorem list_in : ∀ (rest : List Oper) (a : Act) (w : World), (∀ o ∈ rest, ∀ c, o.op ≠ .defer c) → wpList P ops (noOut Q) rest a w → wpListIn (Fence.wide.inRound l) n P ops Q rest a w
  | [], _, _, _, h => h
  | o :: rest, a, w, hp, h => by
    unfold wpList at h
    unfold wpListIn
    split
    · rename_i hw
      rw [if_pos hw] at h
      rcases h with h | ⟨_, h⟩
      · have h2 := oper_in (l := l) (n := n) (hp o (by simp)) (Oper.wp_mono (fun a' w' h' => list_in rest a' w' (fun o ho => hp o (by simp [ho])) h') h)
        exact opIn_out h2
      · exact absurd h noOut_not
    · rename_i hw
      rw [if_neg hw] at h
      exact ⟨fun _ _ => trivial, list_in rest _ _ (fun o ho => hp o (by simp [ho])) h⟩
theorem reg_in {id : Nat} {ls : List Oper} {a : Act} {w : World} (hp : plainOps ls.toArray = true) (h : wpList P ls.toArray (noOut Q) ls a w) : (Code.region id ls.toArray false).wpIn (Fence.wide.inRound l) n P Q a w :=
  wpIn_region_lit (list_in ls a w (fun o ho => by
    obtain ⟨i, hi, rfl⟩ := List.getElem_of_mem ho
    exact plainOps_spec hp (i := i) (by simp [hi])) h)
theorem list_w : ∀ (rest : List Oper) (a : Act) (w : World), wpList P ops (noOut Q) rest a w → wpListIn Fence.wide n P ops Q rest a w
  | [], _, _, h => h
  | o :: rest, a, w, h => by
    unfold wpList at h
    unfold wpListIn
    split
    · rename_i hw
      rw [if_pos hw] at h
      rcases h with h | ⟨_, h⟩
      · have h2 := oper_w (n := n) (Oper.wp_mono (fun a' w' h' => list_w rest a' w' h') h)
        exact opIn_out h2
      · exact absurd h noOut_not
    · rename_i hw
      rw [if_neg hw] at h
      exact ⟨fun _ _ => trivial, list_w rest _ _ h⟩
theorem reg_w {id : Nat} {ls : List Oper} {a : Act} {w : World} (h : wpList P ls.toArray (noOut Q) ls a w) : (Code.region id ls.toArray false).wpIn Fence.wide n P Q a w :=
  wpIn_region_lit (list_w ls a w h)
/-- A region that draws, in a round. -/
theorem seg_begin_r (S : World → Prop) (B : List Nat) {id : Nat} {a : Act} {w : World} (hm : P.follows .mixedOrders = true) (hp : plainOps ops = true) (h : AnyB P .any ops (noOut Q) S B [] (Q .normal) ops.size (Array.replicate ops.size false) a w.drew) : (Code.region id ops true).wpIn (Fence.wide.inRound l) n P Q a w :=
  wpIn_mono (Q := noOut Q) (seg_begin_in S B hm hp noOut_not h) (fun _ _ _ h => noOut_le h)
/-- An operation whose run is known, in a round. -/
theorem in_run_r {o : Oper} {rest : List Oper} {a : Act} {w w' : World} (hgd : o.guard = none) (hp : ∀ c, o.op ≠ .defer c) (v : Value) (hr : (execOp a.eval o).run P w = .ok (.value v) w') (h : wpListIn (Fence.wide.inRound l) n P ops Q rest (a.put o.dst v) w') : wpListIn (Fence.wide.inRound l) n P ops Q (o :: rest) a w := by
  refine wpListIn_plain hgd fun K hK => opIn_out (oper_in hp ?_)
  unfold Oper.wp
  rw [hr]
  exact hK _ _ h
theorem in_run_w {o : Oper} {rest : List Oper} {a : Act} {w w' : World} (hgd : o.guard = none) (v : Value) (hr : (execOp a.eval o).run P w = .ok (.value v) w') (h : wpListIn Fence.wide n P ops Q rest (a.put o.dst v) w') : wpListIn Fence.wide n P ops Q (o :: rest) a w := by
  refine wpListIn_plain hgd fun K hK => opIn_out (oper_w ?_)
  unfold Oper.wp
  rw [hr]
  exact hK _ _ h
end
end Go.Proofs.YtiboflejmnjdhaaDoor
end
section
set_option linter.unusedVariables false
set_option linter.unusedSimpArgs false
set_option maxRecDepth 100000
namespace Go.Proofs.YtiboflejmnjdhaaDoor
open Go Go.RowKit
attribute [local go_sem] Oper.semAt_some
section
variable {α : Type} {P : Program} {n : Nat} {g : Operand} {p d id ty : Nat} {pos : String} {body : Code} {Q : Exit → Act → World → Prop} {a : Act} {w : World} {gf : Nat} {lb : Array Value}
theorem range_one (hg : a.eval g = .func (.func gf) #[] lb) (eg : ∀ args w, (callFunc gf args).run P w = .ok (.enter gf args) w)
    {enc : α → Value} {xs : List α} {Pr : List Nat} {w0 : World} (hseq : Gives P gf lb (fun x => #[enc x]) xs Pr w0) (hb0 : Below w0.heap.size w0 w) (hp : p < a.tmps.size)
    (I : List Nat → List α → World → Prop) (hI : Stable w.heap.size I) (X0 : List Nat) (hX0 : ∀ k ∈ Pr, k ∈ X0) (hlt0 : ∀ k ∈ X0, k < w.heap.size) (h0 : I X0 [] w)
    (hbody : ∀ (l : Nat) (X : List Nat) (i : Nat) (x : α) (W : World), xs[i]? = some x → (∀ k ∈ X, k < W.heap.size) → I X (xs.take i) W →
      body.wpIn (Fence.wide.inRound l) 0 P (goOn X W (I X (xs.take (i + 1)))) { tmps := (a.tmps.setIfInBounds p (enc x)).setIfInBounds d (enc x), defers := [] } W)
    (hdone : ∀ (X : List Nat) (W : World), I X xs W → (∀ k ∈ X0, k ∈ X) → w.heap.size ∈ X → W.heap[w.heap.size]? = some (.deferred (some [])) → Q .normal { a with defers := { target := .collected w.heap.size, args := #[] } :: a.defers } W) :
    (Code.rangeFunc g #[p] (Code.region id #[⟨some d, .assign (.tmp p), ty, pos, #[], none⟩] false) body).wpIn Fence.wide n P Q a w := by
  refine range_all hg eg hseq hb0 (fun _ => rfl) I hI X0 hX0 hlt0 h0 (fun _ x a' _ => a' = { tmps := (a.tmps.setIfInBounds p (enc x)).setIfInBounds d (enc x), defers := [] }) (fun _ _ _ _ _ h _ => h) ?_ ?_ hdone
  · intro l X i x W K hx hlt hi hK
    refine wpIn_region_lit (in_run_r (P := P) (v := enc x) (w' := W) rfl (by simp) ?_ ?_)
    · unfold execOp
      simp [Act.eval, hp]
    · refine wpListIn_nil (hK _ _ ⟨Nat.le_refl _, fun _ _ => rfl⟩ hi ?_)
      simp [Act.put]
  · rintro l X i x a' W hx hlt hi rfl
    exact hbody l X i x W hx hlt hi
end
section
variable {n : Nat} {g : Operand} {p d id t1 t2 : Nat} {p1 p2 : String} {af : Array Edge} {body : Code} {Q : Exit → Act → World → Prop} {a : Act} {w : World} {gf : Nat} {lb : Array Value}
theorem range_box (hg : a.eval g = .func (.func gf) #[] lb) (eg : ∀ args w, (callFunc gf args).run Tryd.prog w = .ok (.enter gf args) w)
    {xs : List (List Int)} {Pr : List Nat} {w0 : World} (hseq : Gives Tryd.prog gf lb (fun x => #[.agg (w8 x)]) xs Pr w0) (hb0 : Below w0.heap.size w0 w) (hp : p < a.tmps.size) (hd : d < a.tmps.size) (hpd : d ≠ p) (hlen : ∀ x ∈ xs, x.length = 16)
    (I : List Nat → List (List Int) → World → Prop) (hI : Stable w.heap.size I) (X0 : List Nat) (hX0 : ∀ k ∈ Pr, k ∈ X0) (hlt0 : ∀ k ∈ X0, k < w.heap.size) (h0 : I X0 [] w)
    (hbody : ∀ (l : Nat) (X : List Nat) (i : Nat) (x : List Int) (B : Nat) (W : World), xs[i]? = some x → (∀ k ∈ X, k < W.heap.size) → I X (xs.take i) W → W.heap[B]? = some (.cells (w8 x) 50 (0, 0)) → B ∉ X → w.heap.size ≤ B →
      body.wpIn (Fence.wide.inRound l) 0 Tryd.prog (goOn X W (I X (xs.take (i + 1)))) { tmps := (a.tmps.setIfInBounds p (.agg (w8 x))).setIfInBounds d (.pointer (some ⟨B, 0, none⟩)), defers := [] } W)
    (hdone : ∀ (X : List Nat) (W : World), I X xs W → (∀ k ∈ X0, k ∈ X) → w.heap.size ∈ X → W.heap[w.heap.size]? = some (.deferred (some [])) → Q .normal { a with defers := { target := .collected w.heap.size, args := #[] } :: a.defers } W) :
    (Code.rangeFunc g #[p] (Code.region id #[⟨some d, .alloc 50, t1, p1, #[], none⟩, ⟨none, .store 50 (.tmp d) (.tmp p), t2, p2, af, none⟩] false) body).wpIn Fence.wide n Tryd.prog Q a w := by
  refine range_all hg eg hseq hb0 (fun _ => rfl) (fun X s W => I X s W ∧ w.heap.size ≤ W.heap.size) (fun X X' s A A' h hT h1 h2 => ⟨hI X X' s A A' h.1 hT h1 h2, Nat.le_trans h.2 hT.size⟩) X0 hX0 hlt0 ⟨h0, Nat.le_refl _⟩
    (fun X x a' W => ∃ B, W.heap[B]? = some (.cells (w8 x) 50 (0, 0)) ∧ B ∉ X ∧ w.heap.size ≤ B ∧ a' = { tmps := (a.tmps.setIfInBounds p (.agg (w8 x))).setIfInBounds d (.pointer (some ⟨B, 0, none⟩)), defers := [] })
    (fun X x a' A A' h hT => ?_) ?_ ?_ (fun X W h => hdone X W h.1)
  · obtain ⟨B, h1, h2, h3, h4⟩ := h
    rcases hT.block B (blk_lt h1) with h | ⟨_, o, ho, hc⟩
    · exact ⟨B, h.trans h1, h2, h3, h4⟩
    · rw [h1] at ho
      cases ho
      cases hc
  · intro l X i x W K hx hlt hi hK
    have hxl := hlen x (List.mem_of_getElem? hx)
    refine reg_in (by simp [plainOps]) ?_
    have hsz : (Tryd.prog.info? 50).map (·.size) = some (w8 x).size := by rw [w8_size, hxl]; kernel_rfl
    have hB := (Below.refl W.heap.size W).alloc (Nat.le_refl _) (.cells (w8 x) 50)
    refine wpList_plain rfl fun K1 hK1 => ?_
    have halloc : (execOp (Act.eval { tmps := (#[p].zip #[Value.agg (w8 x)]).foldl (fun t (p, v) => t.setIfInBounds p v) a.tmps, defers := [] }) ⟨some d, .alloc 50, t1, p1, #[], none⟩).run Tryd.prog W = .ok (.value (.pointer (some ⟨W.heap.size, 0, none⟩))) (W.alloc (.cells #[.int .u8 0, .int .u8 0, .int .u8 0, .int .u8 0, .int .u8 0, .int .u8 0, .int .u8 0, .int .u8 0, .int .u8 0, .int .u8 0, .int .u8 0, .int .u8 0, .int .u8 0, .int .u8 0, .int .u8 0, .int .u8 0] 50)) := by
      unfold execOp
      go_simp
    unfold Oper.wp
    rw [halloc]
    refine hK1 _ _ ?_
    refine wpList_store_new rfl 50 _ _ rfl (w8 x) ?_ ?_ 50 _ hsz (by rw [w8_size, hxl]; rfl) (w8_one _) ?_
    · simp [Act.eval, Act.put, hd]
    · simp [Act.eval, Act.put, hp, hpd]
    · refine hK _ _ ⟨hB.size, fun k hk => hB.block k (hlt k hk)⟩ ⟨hI _ _ _ _ _ hi.1 (.mono (.of_below hB) hi.2) (fun _ h => h) (fun k hk => ⟨.inl hk, Nat.lt_of_lt_of_le (hlt k hk) hB.size⟩), Nat.le_trans hi.2 hB.size⟩ ?_
      exact ⟨W.heap.size, new_at rfl, fun h => Nat.lt_irrefl _ (hlt _ h), hi.2, by simp [Act.put]⟩
  · rintro l X i x a' W hx hlt hi ⟨B, h1, h2, h3, rfl⟩
    refine wpIn_mono (hbody l X i x B W hx hlt hi.1 h1 h2 h3) ?_
    intro e a3 W3 h
    cases e with
    | normal => exact ⟨h.1, h.2, Nat.le_trans hi.2 h.1.size⟩
    | _ => exact h.elim
end
/-- What a body that returns must achieve, marks and all. -/
def bodyPostR (P : Program) (fn : Func) (R : Ending → World → Prop) : Exit → Act → World → Prop
  | .normal, a, w | .ret, a, w => LeavesInM Fence.wide 0 P fn a.tmps R a.defers .returning w
  | _, _, _ => False
/-- A function's contract from its body, where the body holds a range over a function. -/
theorem calls_of_marks {P : Program} {f : FuncId} {fn : Func} {c : Code} {args : Array Value} {w : World} {R : Ending → World → Prop} (hf : P.funcs[f]? = some fn) (hb : fn.body = some c)
    (h : c.wp P (bodyPostR P fn R) { tmps := args ++ Array.replicate (fn.ntmps - args.size) undef, defers := [] } w) : Calls P f args w R :=
  (callsIn_wide (n := 0)).1 (callsIn_of_wp_marks hf hb trivial (wpIn_wide.2 (wp_mono h (fun e a w h => by cases e <;> first | exact h | exact h.elim))) rfl)
/-- A function's end where marks are left: each block of theirs is shut. -/
theorem leaves_marks {F : Fence} {n : Nat} {P : Program} {fn : Func} {tmps : Array Value} {R : Ending → World → Prop} {v : Value} (hres : ∀ w, (results fn tmps).run P w = .ok v w) : ∀ (dl : List Nat) (w : World), dl.Nodup →
    (∀ D ∈ dl, w.heap[D]? = some (.deferred (some []))) → (∀ w', (∀ B, (∀ D ∈ dl, B ≤ D) → Turn B w w') → w'.heap.size = w.heap.size → R (.returned v) w') → LeavesInM F n P fn tmps R (dl.map fun D => { target := .collected D, args := #[] }) .returning w
  | [], w, _, _, hR => ⟨_, hres w, hR w (fun B _ => Turn.refl B w) rfl⟩
  | D :: dl, w, hn, hd, hR => by
    have h0 := hd D (by simp)
    refine ⟨by simp, .inl ⟨D, _, rfl, run_takeDeferred h0, ?_⟩⟩
    refine leaves_marks hres dl _ (List.nodup_cons.1 hn).2 (fun D' hD' => ?_) (fun w' hT hs => hR w' (fun B hB => ?_) (by rw [hs, World.putObj_size]))
    · have hne : D' ≠ D := fun e => (List.nodup_cons.1 hn).1 (e ▸ hD')
      exact (World.putObj_heap_other hne).trans (hd D' (by simp [hD']))
    · exact (Turn.putObj _ (hB D (by simp)) h0 rfl).trans (hT B fun D' hD' => hB D' (by simp [hD']))
end Go.Proofs.YtiboflejmnjdhaaDoor
end
