/- A region that draws its order: operations that need no world taken first, each by hand; then the rest in the one order that is left. -/
import Derived.StillTail
import Derived.OrdersHeld
import Derived.BigQuiet
import Derived.Deep.RegionHeld
import Derived.WalkKit
import Derived.KernelRfl
namespace Go.Proofs.Ythgnccgablploaa
open Go
section
variable {P : Program} {ops : Array Oper} {md : Region.Mode} {Q : Exit → Act → World → Prop}
theorem held_of_any : ∀ (fuel : Nat) (listed : Array Bool) (a : Act) (w : World), wpAny P md ops Q fuel listed a w → wpAnyH P md ops Q (fun _ => True) fuel listed a w
  | 0, _, _, _, h => h
  | fuel + 1, _, _, _, h => ⟨h.1, fun i hi => wpOp_mono (fun a' w' h' => ⟨trivial, held_of_any fuel _ a' w' h'⟩) (h.2 i hi)⟩
/-- The beginning. -/
theorem region_begin {id : Nat} {a : Act} {w : World} (hm : P.follows .mixedOrders = true) (h : wpAny P .any ops Q ops.size (Array.replicate ops.size false) a w.drew) : (Code.region id ops true).wp P Q a w := wp_region_any hm h
/-- Operation i first: it asks nothing of the world. -/
theorem region_take (i : Nat) {o : Oper} (v : Value) {n : Nat} {listed : Array Bool} {a : Act} {w : World} (hi : ops[i]? = some o) (hs : Region.noSelect ops = true) (hf : Region.free md ops listed i = true) (hr : (Region.ready md ops listed).contains i = true)
    (hQ : ∀ c a w, Q (.panic c) (a.put o.dst v) w → Q (.panic c) a w) (hg : o.guard = none) (hy : ∀ w, (execOp a.eval o).run P w = .ok (.value v) w)
    (h : wpAny P md ops Q n (listed.setIfInBounds i true) (a.put o.dst v) w) : wpAny P md ops Q (n + 1) listed a w :=
  wpAny_of_held _ _ _ _ (wpAnyH_take (S := fun _ => True) hi hs hf hr hQ (.inl ⟨by simp [Region.wanted, hg], fun w _ => hy w⟩) trivial (held_of_any _ _ _ _ h))
theorem yields_slice {o : Oper} {a : Act} {v : Value} {W : World} (t e : TypeId) (ht : P.underlying t = some (.slice e)) (x : Operand) (lo hi mx : Option Operand) (ho : o.op = .slice t x lo hi mx) (A : Option Addr) (n c : Nat) (hx : a.eval x = .slice A n c)
    (h : (Instr.slice t (.slice A n c) (lo.map a.eval) (hi.map a.eval) (mx.map a.eval)).run P W = .ok v W) : (execOp a.eval o).run P W = .ok (.value v) W := by
  unfold execOp
  simp only [ho, hx]
  simp [Instr.sliceAt, run_underlying ht, h]
def orderB (md : Region.Mode) (ops : Array Oper) : List Nat → Array Bool → Bool
  | [], listed => (Region.ready md ops listed).isEmpty
  | k :: l, listed => decide (Region.ready md ops listed = [k]) && orderB md ops l (listed.setIfInBounds k true)
def pick (ops : Array Oper) : List Nat → List Oper
  | [] => []
  | k :: l => match ops[k]? with | some o => o :: pick ops l | none => pick ops l
/-- The rest in its one order. -/
theorem region_order (ord : List Nat) : ∀ (listed : Array Bool) (a : Act) (w : World), orderB md ops ord listed = true → wpList P ops Q (pick ops ord) a w → ∀ n, n = ord.length → wpAny P md ops Q n listed a w := by
  induction ord with
  | nil =>
    intro listed a w hB h n hn
    subst hn
    exact ⟨by simpa [orderB] using hB, h⟩
  | cons k ord ih =>
    intro listed a w hB h n hn
    subst hn
    simp only [orderB, Bool.and_eq_true, decide_eq_true_eq] at hB
    refine ⟨fun h1 => (by rw [hB.1] at h1; cases h1), fun i hi => ?_⟩
    rw [hB.1] at hi
    have hik : i = k := by simpa using hi
    subst hik
    obtain ⟨_, o, ho, _⟩ := mem_ready.1 (by rw [hB.1]; simp : i ∈ Region.ready md ops listed)
    rw [pick, ho] at h
    have hw : wpOp P ops Q i (wpList P ops Q (pick ops ord)) a w := by unfold wpOp; simp only [ho]; exact h
    exact wpOp_mono (fun a' w' h' => ih _ a' w' hB.2 h' _ rfl) hw
end
end Go.Proofs.Ythgnccgablploaa
