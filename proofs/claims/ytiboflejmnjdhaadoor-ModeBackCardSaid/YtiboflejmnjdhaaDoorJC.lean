/- A region that draws its order: operations that need no world taken first, each by hand; then the rest in the one order that is left. -/
import Derived.StillTail
import Derived.OrdersHeld
import Derived.BigQuiet
import Derived.Deep.RegionHeld
import Derived.WalkKit
import Derived.KernelRfl
section
namespace Go.Proofs.YtiboflejmnjdhaaDoor
open Go
section
variable {P : Program} {ops : Array Oper} {md : Region.Mode} {Q : Exit → Act → World → Prop}
theorem held_of_any : ∀ (fuel : Nat) (listed : Array Bool) (a : Act) (w : World), wpAny P md ops Q fuel listed a w → wpAnyH P md ops Q (fun _ => True) fuel listed a w
  | 0, _, _, _, h => h
  | fuel + 1, _, _, _, h => ⟨h.1, fun i hi => wpOp_mono (fun a' w' h' => ⟨trivial, held_of_any fuel _ a' w' h'⟩) (h.2 i hi)⟩
/-- The beginning. -/
theorem region_begin {id : Nat} {a : Act} {w : World} (hm : P.follows .mixedOrders = true) (h : wpAny P .any ops Q ops.size (Array.replicate ops.size false) a w.drew) : (Code.region id ops true).wp P Q a w := wp_region_any hm h
/-- Operation i first: it asks nothing of the world. -/
theorem region_take (i : Nat) {o : Oper} (v : Value) {n : Nat} {listed : Array Bool} {a : Act} {w : World} (hi : ops[i]? = some o) (hs : Region.noSelect ops = true) (hf : Region.free md ops listed i = true) (hr : (Region.ready md ops listed).contains i = true)
    (hQ : ∀ c a w, Q (.panic c) (a.put o.dst v) w → Q (.panic c) a w) (hg : o.guard = none) (hy : ∀ w, (execOp a.eval o).run P w = .ok (.value v) w)
    (h : wpAny P md ops Q n (listed.setIfInBounds i true) (a.put o.dst v) w) : wpAny P md ops Q (n + 1) listed a w :=
  wpAny_of_held _ _ _ _ (wpAnyH_take (S := fun _ => True) hi hs hf hr hQ (.inl ⟨by simp [Region.wanted, hg], fun w _ => hy w⟩) trivial (held_of_any _ _ _ _ h))
theorem yields_slice {o : Oper} {a : Act} {v : Value} {W : World} (t e : TypeId) (ht : P.underlying t = some (.slice e)) (x : Operand) (lo hi mx : Option Operand) (ho : o.op = .slice t x lo hi mx) (A : Option Addr) (n c : Nat) (hx : a.eval x = .slice A n c)
    (h : (Instr.slice t (.slice A n c) (lo.map a.eval) (hi.map a.eval) (mx.map a.eval)).run P W = .ok v W) : (execOp a.eval o).run P W = .ok (.value v) W := by
  unfold execOp
  simp only [ho, hx]
  simp [Instr.sliceAt, run_underlying ht, h]
def orderB (md : Region.Mode) (ops : Array Oper) : List Nat → Array Bool → Bool
  | [], listed => (Region.ready md ops listed).isEmpty
  | k :: l, listed => decide (Region.ready md ops listed = [k]) && orderB md ops l (listed.setIfInBounds k true)
def pick (ops : Array Oper) : List Nat → List Oper
  | [] => []
  | k :: l => match ops[k]? with | some o => o :: pick ops l | none => pick ops l
/-- The rest in its one order. -/
theorem region_order (ord : List Nat) : ∀ (listed : Array Bool) (a : Act) (w : World), orderB md ops ord listed = true → wpList P ops Q (pick ops ord) a w → ∀ n, n = ord.length → wpAny P md ops Q n listed a w := by
  induction ord with
  | nil =>
    intro listed a w hB h n hn
    subst hn
    exact ⟨by simpa [orderB] using hB, h⟩
  | cons k ord ih =>
    intro listed a w hB h n hn
    subst hn
    simp only [orderB, Bool.and_eq_true, decide_eq_true_eq] at hB
    refine ⟨fun h1 => (by rw [hB.1] at h1; cases h1), fun i hi => ?_⟩
    rw [hB.1] at hi
    have hik : i = k := by simpa using hi
    subst hik
    obtain ⟨_, o, ho, _⟩ := mem_ready.1 (by rw [hB.1]; simp : i ∈ Region.ready md ops listed)
    rw [pick, ho] at h
    have hw : wpOp P ops Q i (wpList P ops Q (pick ops ord)) a w := by unfold wpOp; simp only [ho]; exact h
    exact wpOp_mono (fun a' w' h' => ih _ a' w' hB.2 h' _ rfl) hw
end
end Go.Proofs.YtiboflejmnjdhaaDoor
end
section
namespace Go.Proofs.YtiboflejmnjdhaaDoor
open Go
section
variable {P : Program} {ops : Array Oper} {md : Region.Mode} {Q : Exit → Act → World → Prop} {S T : World → Prop} {B ZS : List Nat} {Ke : Act → World → Prop}
/-- ZS: which are left at the end (none, or one that this walk does not know), K: what is asked there. -/
def AnyB (P : Program) (md : Region.Mode) (ops : Array Oper) (Q : Exit → Act → World → Prop) (S : World → Prop) (B ZS : List Nat) (K : Act → World → Prop) : Nat → Array Bool → Act → World → Prop
  | 0, listed, a, w => Region.ready md ops listed = ZS ∧ K a w
  | f + 1, listed, a, w => Region.ready md ops listed ≠ [] ∧ ∀ i ∈ Region.ready md ops listed, wpOp P ops Q i (fun a' w' => (B.contains i = true → S w') ∧ AnyB P md ops Q S B ZS K f (listed.setIfInBounds i true) a' w') a w
theorem any_of_anyB : ∀ (f : Nat) (listed : Array Bool) (a : Act) (w : World), AnyB P md ops Q S B [] (Q .normal) f listed a w → wpAny P md ops Q f listed a w
  | 0, _, _, _, h => h
  | f + 1, _, _, _, h => ⟨fun h0 => absurd h0 h.1, fun i hi => wpOp_mono (fun a' w' h' => any_of_anyB f _ a' w' h'.2) (h.2 i hi)⟩
/-- Which operations wait for operation i, at once or by others. -/
def marks (md : Region.Mode) (ops : Array Oper) (i : Nat) : Nat → Array Bool
  | 0 => #[]
  | k + 1 => (marks md ops i k).push (k == i || (match ops[k]? with | some o => o.after.any (fun e => Region.binds md e && (marks md ops i k).getD e.on false) | none => false))
theorem marks_size (md : Region.Mode) (ops : Array Oper) (i : Nat) : ∀ k, (marks md ops i k).size = k
  | 0 => rfl
  | k + 1 => by rw [marks, Array.size_push, marks_size md ops i k]
theorem marks_spec (i : Nat) : ∀ (k j : Nat), (marks md ops i k).getD j false = true → j = i ∨ ∃ o, ops[j]? = some o ∧ ∃ e ∈ o.after, Region.binds md e = true ∧ e.on < j ∧ (marks md ops i k).getD e.on false = true := by
  intro k
  induction k with
  | zero => intro j h; simp [marks] at h
  | succ k ih =>
    intro j h
    have hsz := marks_size md ops i k
    have hup : ∀ x, (marks md ops i k).getD x false = true → x < k ∧ (marks md ops i (k + 1)).getD x false = true := by
      intro x hx
      have hxk : x < k := by
        rcases Nat.lt_or_ge x k with h' | h'
        · exact h'
        · simp [Array.getElem?_eq_none (show (marks md ops i k).size ≤ x by omega)] at hx
      refine ⟨hxk, ?_⟩
      rw [marks]
      simp only [Array.getD_eq_getD_getElem?, Array.getElem?_push] at hx ⊢
      rw [if_neg (by omega)]
      exact hx
    rcases Nat.lt_trichotomy j k with hj | hj | hj
    · have h' : (marks md ops i k).getD j false = true := by
        rw [marks] at h
        simp only [Array.getD_eq_getD_getElem?, Array.getElem?_push] at h ⊢
        rw [if_neg (by omega)] at h
        exact h
      rcases ih j h' with h1 | ⟨o, ho, e, he, hb, hlt, hm⟩
      · exact .inl h1
      · exact .inr ⟨o, ho, e, he, hb, hlt, (hup _ hm).2⟩
    · subst hj
      rw [marks] at h
      simp only [Array.getD_eq_getD_getElem?, Array.getElem?_push, hsz, if_true, Option.getD_some] at h
      rcases Bool.or_eq_true_iff.1 h with h1 | h1
      · exact .inl (by simpa using h1)
      · cases ho : ops[j]? with
        | none => rw [ho] at h1; cases h1
        | some o =>
          rw [ho] at h1
          obtain ⟨e, he, hb⟩ := Array.any_eq_true'.1 h1
          simp only [Bool.and_eq_true] at hb
          have := hup e.on (by simpa [Array.getD_eq_getD_getElem?] using hb.2)
          exact .inr ⟨o, rfl, e, he, hb.1, this.1, this.2⟩
    · rw [Array.getD_eq_getD_getElem?, Array.getElem?_eq_none (by rw [marks_size]; omega)] at h
      cases h
/-- What was listed was listed behind all that it waits for. -/
def Closed (md : Region.Mode) (ops : Array Oper) (listed : Array Bool) : Prop := ∀ j oj, ops[j]? = some oj → listed.getD j false = true → ∀ e ∈ oj.after, Region.binds md e = true → listed.getD e.on false = true
def closedB (md : Region.Mode) (ops : Array Oper) (listed : Array Bool) : Bool :=
  (List.range ops.size).all fun j => !(listed.getD j false) || (match ops[j]? with | some o => o.after.all (fun e => !(Region.binds md e) || listed.getD e.on false) | none => true)
theorem closed_of {listed : Array Bool} (h : closedB md ops listed = true) : Closed md ops listed := by
  intro j oj hj hl e he hb
  have h1 := List.all_eq_true.1 h j (List.mem_range.2 (Array.getElem?_eq_some_iff.1 hj).1)
  rw [hl, hj] at h1
  simp only [Bool.not_true, Bool.false_or] at h1
  have h2 := Array.all_eq_true'.1 h1 e he
  rw [hb] at h2
  simpa using h2
theorem Closed.set {i : Nat} {listed : Array Bool} (h : Closed md ops listed) (hi : i ∈ Region.ready md ops listed) : Closed md ops (listed.setIfInBounds i true) := by
  obtain ⟨_, oi, hoi, hall⟩ := mem_ready.1 hi
  intro j oj hj hl e he hb
  by_cases hij : i = j
  · subst hij
    obtain rfl : oj = oi := Option.some.inj (hj.symm.trans hoi)
    exact getD_set_true (hall e he hb)
  · rw [getD_set_ne false hij] at hl
    exact getD_set_true (h j oj hj hl e he hb)
theorem marked_unlisted {i n : Nat} {listed : Array Bool} (hc : Closed md ops listed) (hi : listed.getD i false = false) : ∀ j, (marks md ops i n).getD j false = true → listed.getD j false = false := by
  intro j
  induction j using Nat.strongRecOn with
  | _ j ih =>
    intro hm
    rcases marks_spec i n j hm with rfl | ⟨o, ho, e, he, hb, hlt, hm'⟩
    · exact hi
    · have h1 := ih e.on hlt hm'
      cases hl : listed.getD j false with
      | false => rfl
      | true => rw [hc j o ho hl e he hb] at h1; cases h1
theorem marked_waits {i n j : Nat} {listed : Array Bool} (hc : Closed md ops listed) (hi : listed.getD i false = false) (hm : (marks md ops i n).getD j false = true) (hji : j ≠ i) : j ∉ Region.ready md ops listed := by
  intro hr
  rcases marks_spec i n j hm with h | ⟨o, ho, e, he, hb, hlt, hm'⟩
  · exact hji h
  · obtain ⟨_, o', ho', hall⟩ := mem_ready.1 hr
    obtain rfl : o = o' := Option.some.inj (ho.symm.trans ho')
    have h1 := marked_unlisted hc hi e.on hm'
    rw [hall e he hb] at h1
    cases h1
theorem anyB_first {i m : Nat} (hZ : ZS.all (fun z => (marks md ops i ops.size).getD z false && z != i) = true) {oi : Oper} {v : Value} (hi : ops[i]? = some oi) (hsel : ∀ (j : Nat) (o : Oper) cs b, ops[j]? = some o → o.op ≠ .select cs b)
    (hQ : ∀ c a w, Q (.panic c) (a.put oi.dst v) w → Q (.panic c) a w) :
    ∀ (fuel : Nat) (listed : Array Bool) (a : Act) (w : World), Closed md ops listed → (∀ j, j ≠ i → j < ops.size → listed.getD j true = false → (∀ w', (B.contains j = true → S w') → T w') ∨ (marks md ops i m).getD j false = true) →
      (∀ j oj, ops[j]? = some oj → j ≠ i → listed.getD j true = false → (∀ e ∈ oj.after, Region.binds md e = true → e.on ≠ i) → oi.apart ops oj = true) →
      i ∈ Region.ready md ops listed → YieldsIf P ops T oi v a → T w → (B.contains i = true → ∀ w, T w → S w) →
      AnyB P md ops Q S B ZS Ke fuel (listed.setIfInBounds i true) (a.put oi.dst v) w → AnyB P md ops Q S B ZS Ke (fuel + 1) listed a w := by
  intro fuel
  induction fuel with
  | zero =>
    intro listed a w hcl _ _ hr hy hTw hBi H
    refine ⟨fun h => (by rw [h] at hr; cases hr), fun j hj => ?_⟩
    by_cases hji : j = i
    · subst hji; exact hy.wpOp hi hTw ⟨fun hb => hBi hb w hTw, H⟩
    · have h1 := ready_mono hj hji
      rw [H.1] at h1
      have h2 := List.all_eq_true.1 hZ j h1
      simp only [Bool.and_eq_true] at h2
      exact absurd hj (marked_waits hcl (getD_both (mem_ready.1 hr).1) h2.1 hji)
  | succ fuel ih =>
    intro listed a w hcl hT hfree hr hy hTw hBi H
    refine ⟨fun h => (by rw [h] at hr; cases hr), fun j hj => ?_⟩
    by_cases hji : j = i
    · subst hji; exact hy.wpOp hi hTw ⟨fun hb => hBi hb w hTw, H⟩
    · have h1 := H.2 j (ready_mono hj hji)
      obtain ⟨hjun, oj, hoj, hall⟩ := mem_ready.1 hj
      have hiun : listed.getD i false = false := getD_both (mem_ready.1 hr).1
      have hnot : ∀ e ∈ oj.after, Region.binds md e = true → e.on ≠ i := fun e he hb heq => by
        have h1 := hall e he hb
        rw [heq, hiun] at h1
        cases h1
      have h2 := wpOp_putIf hoj (hfree j oj hoj hji hjun hnot) (fun cs b => hsel i oi cs b hi) (fun cs b => hsel j oj cs b hoj) hQ hy h1
      have hfree' : ∀ k ok, ops[k]? = some ok → k ≠ i → (listed.setIfInBounds j true).getD k true = false →
          (∀ e ∈ ok.after, Region.binds md e = true → e.on ≠ i) → oi.apart ops ok = true := fun k ok hk hki hun hno => by
        refine hfree k ok hk hki ?_ hno
        by_cases hjk : j = k
        · subst hjk; exact hjun
        · rw [getD_set_ne true hjk] at hun; exact hun
      have hT' : ∀ k, k ≠ i → k < ops.size → (listed.setIfInBounds j true).getD k true = false → (∀ w', (B.contains k = true → S w') → T w') ∨ (marks md ops i m).getD k false = true := fun k hki hks hun => by
        refine hT k hki hks ?_
        by_cases hjk : j = k
        · subst hjk; exact hjun
        · rw [getD_set_ne true hjk] at hun; exact hun
      refine wpOp_mono (fun a' w' h3 => ⟨h3.2.1, ih (listed.setIfInBounds j true) a' w' (hcl.set hj) hT' hfree' (ready_mono hr (Ne.symm hji)) h3.1 ?_ hBi ?_⟩) h2
      · rcases hT j hji (Array.getElem?_eq_some_iff.1 hoj).1 hjun with h | h
        · exact h w' h3.2.1
        · exact absurd hj (marked_waits hcl hiun h hji)
      · rw [Array.setIfInBounds_comm _ _ hji]
        exact h3.2.2
/-- The beginning: S of the world behind the draw is asked by the takes. -/
theorem seg_begin (S : World → Prop) (B : List Nat) {id : Nat} {a : Act} {w : World} (hm : P.follows .mixedOrders = true) (h : AnyB P .any ops Q S B [] (Q .normal) ops.size (Array.replicate ops.size false) a w.drew) : (Code.region id ops true).wp P Q a w := wp_region_any hm (any_of_anyB _ _ _ _ h)
/-- Operation i first: it asks nothing of the world. -/
theorem seg_take (i : Nat) {o : Oper} (v : Value) {n : Nat} {listed : Array Bool} {a : Act} {w : World} (hi : ops[i]? = some o) (hs : Region.noSelect ops = true) (hf : Region.free md ops listed i = true) (hr : (Region.ready md ops listed).contains i = true) (hc : closedB md ops listed = true) (hZ : ZS.all (fun z => (marks md ops i ops.size).getD z false && z != i) = true) (hb : B.contains i = false)
    (hQ : ∀ c a w, Q (.panic c) (a.put o.dst v) w → Q (.panic c) a w) (hg : o.guard = none) (hy : ∀ w, (execOp a.eval o).run P w = .ok (.value v) w)
    (h : AnyB P md ops Q S B ZS Ke n (listed.setIfInBounds i true) (a.put o.dst v) w) : AnyB P md ops Q S B ZS Ke (n + 1) listed a w :=
  anyB_first (T := fun _ => True) (m := 0) hZ hi (Region.noSelect_spec hs) hQ n listed a w (closed_of hc) (fun _ _ _ _ => .inl fun _ _ => trivial) (Region.free_spec hi hf) (by simpa using hr) (.inl ⟨by simp [Region.wanted, hg], fun w _ => hy w⟩) trivial (fun h => by rw [hb] at h; cases h) h
def dueB (md : Region.Mode) (ops : Array Oper) (B : List Nat) (listed : Array Bool) (i : Nat) : Bool := (List.range ops.size).all fun j => j == i || listed.getD j true || B.contains j || (marks md ops i ops.size).getD j false
def dueOne (md : Region.Mode) (ops : Array Oper) (B : List Nat) (listed : Array Bool) (i j : Nat) : Bool := decide (ops.size ≤ j) || (j == i || listed.getD j true || B.contains j || (marks md ops i ops.size).getD j false)
/-- Operation i first: it reads, the same in every world that meets S. -/
theorem seg_read (i : Nat) {o : Oper} (v : Value) {n : Nat} {listed : Array Bool} {a : Act} {w : World} (hi : ops[i]? = some o) (hs : Region.noSelect ops = true) (hf : Region.free md ops listed i = true) (hr : (Region.ready md ops listed).contains i = true) (hc : closedB md ops listed = true) (hZ : ZS.all (fun z => (marks md ops i ops.size).getD z false && z != i) = true) (hd : dueB md ops B listed i = true)
    (hQ : ∀ c a w, Q (.panic c) (a.put o.dst v) w → Q (.panic c) a w) (hg : o.guard = none) (hS : S w) (hy : ∀ w, S w → (execOp a.eval o).run P w = .ok (.value v) w)
    (h : AnyB P md ops Q S B ZS Ke n (listed.setIfInBounds i true) (a.put o.dst v) w) : AnyB P md ops Q S B ZS Ke (n + 1) listed a w :=
  anyB_first (T := S) (m := ops.size) hZ hi (Region.noSelect_spec hs) hQ n listed a w (closed_of hc) (fun j hji hj hun => by
    have h1 := List.all_eq_true.1 hd j (List.mem_range.2 hj)
    simp only [Bool.or_eq_true] at h1
    rcases h1 with ((h1 | h1) | h1) | h1
    · exact absurd (by simpa using h1) hji
    · rw [hun] at h1; cases h1
    · exact .inl fun w' hw' => hw' h1
    · exact .inr h1) (Region.free_spec hi hf) (by simpa using hr) (.inl ⟨by simp [Region.wanted, hg], hy⟩) hS (fun _ _ h => h) h
/-- The post with another end. -/
def thn (Q : Exit → Act → World → Prop) (K : Act → World → Prop) : Exit → Act → World → Prop
  | .normal, a, w => K a w
  | .exit n, a, w => Q (.exit n) a w
  | .goto n, a, w => Q (.goto n) a w
  | .ret, a, w => Q .ret a w
  | .panic c, a, w => Q (.panic c) a w
  | .outgrown, a, w => Q .outgrown a w
theorem wpOp_thn {i : Nat} {o : Oper} {K : Act → World → Prop} {a : Act} {w : World} (ho : ops[i]? = some o) (h : wpList P ops (thn Q K) [o] a w) : wpOp P ops Q i K a w := by
  unfold wpOp
  simp only [ho]
  unfold wpList at h
  have hu : ∀ r, o.upon P a (wpList P ops (thn Q K) []) (thn Q K) r → o.upon P a K Q r := by
    intro r hr
    cases r with
    | ok x w' => cases x <;> exact hr
    | halt x w' => cases x <;> exact hr
  split
  · rename_i hw
    rw [if_pos hw] at h
    rcases h with h | h
    · exact .inl (hu _ h)
    · exact .inr h
  · rename_i hw
    rw [if_neg hw] at h
    exact h
def segs (ops : Array Oper) (P : Program) (Q : Exit → Act → World → Prop) (S : World → Prop) (B : List Nat) : List Nat → Act → World → Prop
  | [] => Q .normal
  | k :: l => fun a w => if (k :: l).any (fun i => B.contains i) = true then wpList P ops (thn Q fun a' w' => (B.contains k = true → S w') ∧ segs ops P Q S B l a' w') (pick ops [k]) a w else wpList P ops Q (pick ops (k :: l)) a w
theorem anyB_order (ord : List Nat) : ∀ (listed : Array Bool) (a : Act) (w : World), orderB md ops ord listed = true → ord.all (fun i => !B.contains i) = true → wpList P ops Q (pick ops ord) a w → ∀ n, n = ord.length → AnyB P md ops Q S B [] (Q .normal) n listed a w := by
  induction ord with
  | nil =>
    intro listed a w hB _ h n hn
    subst hn
    exact ⟨by simpa [orderB] using hB, h⟩
  | cons k ord ih =>
    intro listed a w hB hA h n hn
    subst hn
    simp only [orderB, Bool.and_eq_true, decide_eq_true_eq] at hB
    simp only [List.all_cons, Bool.and_eq_true] at hA
    refine ⟨fun h1 => (by rw [hB.1] at h1; cases h1), fun i hi => ?_⟩
    rw [hB.1] at hi
    have hik : i = k := by simpa using hi
    subst hik
    obtain ⟨_, o, ho, _⟩ := mem_ready.1 (by rw [hB.1]; simp : i ∈ Region.ready md ops listed)
    rw [pick, ho] at h
    have hw : wpOp P ops Q i (wpList P ops Q (pick ops ord)) a w := by unfold wpOp; simp only [ho]; exact h
    exact wpOp_mono (fun a' w' h' => ⟨fun hb => (by rw [hb] at hA; exact absurd hA.1 (by simp)), ih _ a' w' hB.2 hA.2 h' _ rfl⟩) hw
/-- What is left, in its one order. -/
theorem seg_rest (ord : List Nat) : ∀ (listed : Array Bool) (a : Act) (w : World), orderB md ops ord listed = true → segs ops P Q S B ord a w → ∀ n, n = ord.length → AnyB P md ops Q S B [] (Q .normal) n listed a w := by
  induction ord with
  | nil =>
    intro listed a w hB h n hn
    subst hn
    exact ⟨by simpa [orderB] using hB, h⟩
  | cons k l ih =>
    intro listed a w hB h n hn
    subst hn
    by_cases hk : (k :: l).any (fun i => B.contains i) = true
    · simp only [segs, if_pos hk] at h
      simp only [orderB, Bool.and_eq_true, decide_eq_true_eq] at hB
      refine ⟨fun h1 => (by rw [hB.1] at h1; cases h1), fun i hi => ?_⟩
      rw [hB.1] at hi
      have hik : i = k := by simpa using hi
      subst hik
      obtain ⟨_, o, ho, _⟩ := mem_ready.1 (by rw [hB.1]; simp : i ∈ Region.ready md ops listed)
      rw [pick, ho] at h
      exact wpOp_mono (fun a' w' h' => ⟨h'.1, ih _ a' w' hB.2 h'.2 _ rfl⟩) (wpOp_thn ho h)
    · simp only [segs, if_neg hk] at h
      exact anyB_order (k :: l) listed a w hB (by
        refine List.all_eq_true.2 fun x hx => ?_
        rw [Bool.not_eq_true', ← Bool.not_eq_true]
        exact fun h2 => hk (List.any_eq_true.2 ⟨x, hx, h2⟩)) h _ rfl
/-- The one operation that may come up now; then the rest. -/
theorem anyB_step (k : Nat) {o : Oper} {n : Nat} {listed : Array Bool} {a : Act} {w : World} (ho : ops[k]? = some o) (hr : decide (Region.ready md ops listed = [k]) = true)
    (h : wpList P ops (thn Q fun a' w' => (B.contains k = true → S w') ∧ AnyB P md ops Q S B ZS Ke n (listed.setIfInBounds k true) a' w') [o] a w) : AnyB P md ops Q S B ZS Ke (n + 1) listed a w := by
  have hr := of_decide_eq_true hr
  refine ⟨fun h1 => (by rw [hr] at h1; cases h1), fun i hi => ?_⟩
  rw [hr] at hi
  obtain rfl : i = k := by simpa using hi
  exact wpOp_thn ho h
theorem anyB_done {listed : Array Bool} {a : Act} {w : World} (hr : decide (Region.ready md ops listed = ZS) = true) (h : Ke a w) : AnyB P md ops Q S B ZS Ke 0 listed a w := ⟨of_decide_eq_true hr, h⟩
theorem segs_in {k : Nat} {l : List Nat} {a : Act} {w : World} (hk : (k :: l).any (fun i => B.contains i) = true) (h : wpList P ops (thn Q fun a' w' => (B.contains k = true → S w') ∧ segs ops P Q S B l a' w') (pick ops [k]) a w) : segs ops P Q S B (k :: l) a w := by
  unfold segs; rw [if_pos hk]; exact h
theorem segs_out {l : List Nat} {a : Act} {w : World} (hk : l.any (fun i => B.contains i) = false) (h : wpList P ops Q (pick ops l) a w) : segs ops P Q S B l a w := by
  cases l with
  | nil => exact h
  | cons k l => unfold segs; rw [if_neg (by rw [hk]; simp)]; exact h
end
end Go.Proofs.YtiboflejmnjdhaaDoor
end
