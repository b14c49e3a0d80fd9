/- A region that draws its order: its head only reads (in whatever order), its tail comes in one order behind it: one walk serves every order. Stated for whatever class C of worlds the head stays in. -/
import Derived.StillTail
import Derived.BigQuiet
import Derived.WalkKit
import Derived.KernelRfl
import Derived.Deep.QuietTactic
import Derived.WalkSpells
import Derived.WalkLawsBesides
import Derived.RowKit
import Derived.Test.YtiboflejmnjdhaaDoorProg
import Derived.Lib.Hide
import Derived.Outline
section
namespace Go.Proofs.YtiboflejmnjdhaaDoor
open Go
section
variable {P : Program} {ops : Array Oper} {md : Region.Mode} {C : World → Prop}

/-- The first n operations in whatever order, each quiet in the class; then L. -/
def HeadAny (P : Program) (md : Region.Mode) (ops : Array Oper) (C : World → Prop) (n : Nat) (L : Array Bool → Act → Prop) : Nat → Array Bool → Act → Prop
  | 0, listed, a => L listed a
  | f + 1, listed, a => Region.ready md ops listed ≠ [] ∧ ∀ i ∈ Region.ready md ops listed, i < n ∧ qOp P ops C i (HeadAny P md ops C n L f (listed.setIfInBounds i true)) a

theorem wpAny_of_headAny {n g : Nat} {L : Array Bool → Act → Prop} {Q' : Exit → Act → World → Prop} (hL : ∀ listed a, L listed a → ∀ w, C w → wpAny P md ops Q' g listed a w) :
    ∀ (f : Nat) (listed : Array Bool) (a : Act), HeadAny P md ops C n L f listed a → ∀ w, C w → wpAny P md ops Q' (f + g) listed a w
  | 0, listed, a, h, w, hw => by rw [Nat.zero_add]; exact hL _ _ h w hw
  | f + 1, listed, a, h, w, hw => by
    rw [show f + 1 + g = (f + g) + 1 by omega]
    exact ⟨fun h0 => absurd h0 h.1, fun i hi => wpOp_of_qOp hw (fun a' w' hw' h' => wpAny_of_headAny hL f _ a' h' w' hw') (h.2 i hi).2⟩

theorem headAny_first {n i : Nat} {oi : Oper} {v : Value} {L : Array Bool → Act → Prop} (hi : ops[i]? = some oi) (hsel : ∀ (j : Nat) (o : Oper) cs b, ops[j]? = some o → o.op ≠ .select cs b)
    (hs : Region.sinkB md ops n = true) (hc : Region.chainB md ops n = true) (hn : n < ops.size) (hin : i < n)
    (hdone : ∀ listed a, L listed a → ∀ j ∈ Region.ready md ops listed, n ≤ j) :
    ∀ (f : Nat) (listed : Array Bool) (a : Act), HeadInv md ops n listed →
      (∀ j oj, ops[j]? = some oj → j ≠ i → listed.getD j true = false → (∀ e ∈ oj.after, Region.binds md e = true → e.on ≠ i) → oi.apart ops oj = true) →
      i ∈ Region.ready md ops listed → YieldsIn P ops C oi v a →
      HeadAny P md ops C n L f (listed.setIfInBounds i true) (a.put oi.dst v) → HeadAny P md ops C n L (f + 1) listed a := by
  intro f
  induction f with
  | zero =>
    intro listed a inv _ hr hy H
    have hun := (mem_ready.1 hr).1
    refine ⟨fun h => (by rw [h] at hr; cases hr), fun j hj => ?_⟩
    have hjn : j < n := Decidable.byContradiction fun h => tail_waits hs hc hn inv _ i rfl hin hun j (by omega) hj
    refine ⟨hjn, ?_⟩
    by_cases hji : j = i
    · subst hji; exact hy.qOp hi H
    · have := hdone _ _ H j (ready_mono hj hji)
      omega
  | succ f ih =>
    intro listed a inv hfree hr hy H
    have hun := (mem_ready.1 hr).1
    refine ⟨fun h => (by rw [h] at hr; cases hr), fun j hj => ?_⟩
    have hjn : j < n := Decidable.byContradiction fun h => tail_waits hs hc hn inv _ i rfl hin hun j (by omega) hj
    refine ⟨hjn, ?_⟩
    by_cases hji : j = i
    · subst hji; exact hy.qOp hi H
    · have h1 := (H.2 j (ready_mono hj hji)).2
      obtain ⟨hjun, oj, hoj, hall⟩ := mem_ready.1 hj
      have hnot : ∀ e ∈ oj.after, Region.binds md e = true → e.on ≠ i := fun e he hb heq => by
        have h2 := hall e he hb
        rw [heq, getD_both hun] at h2
        cases h2
      have h2 := qOp_put hoj (hfree j oj hoj hji hjun hnot) (fun cs b => hsel i oi cs b hi) (fun cs b => hsel j oj cs b hoj) hy h1
      have hfree' : ∀ k ok, ops[k]? = some ok → k ≠ i → (listed.setIfInBounds j true).getD k true = false →
          (∀ e ∈ ok.after, Region.binds md e = true → e.on ≠ i) → oi.apart ops ok = true := fun k ok hk hki hun hno => by
        refine hfree k ok hk hki ?_ hno
        by_cases hjk : j = k
        · subst hjk; exact hjun
        · rw [getD_set_ne true hjk] at hun; exact hun
      refine qOp_mono (fun a' h3 => ih (listed.setIfInBounds j true) a' (inv.set hj hjn) hfree' (ready_mono hr (Ne.symm hji)) h3.1 ?_) h2
      rw [Array.setIfInBounds_comm _ _ hji]
      exact h3.2

theorem headAny_lex {n g : Nat} {Lq : Act → Prop} (hsel : Region.noSelect ops = true) (hs : Region.sinkB md ops n = true) (hc : Region.chainB md ops n = true) (hn : n < ops.size) :
    ∀ (l : List Oper) (k : Nat) (listed : Array Bool) (a : Act), (∀ j, j < l.length → l[j]? = ops[k + j]?) → k + l.length = n → HeadInv md ops n listed →
    Region.lexHead md ops g l.length k listed = true → wpQuiet P ops C Lq l a →
    HeadAny P md ops C n (fun listed' a' => Region.seqB md ops g n listed' = true ∧ Lq a') l.length listed a
  | [], k, listed, a, _, hk, _, hB, h => by
    obtain rfl : k = n := by simpa using hk
    exact ⟨by simpa [Region.lexHead] using hB, h⟩
  | o :: l, k, listed, a, hl, hk, inv, hB, h => by
    have h0 : ops[k]? = some o := by simpa using (hl 0 (by simp)).symm
    simp only [List.length_cons, Region.lexHead, Bool.and_eq_true] at hB
    obtain ⟨⟨hr, hf⟩, hB'⟩ := hB
    have hkn : k < n := by simp only [List.length_cons] at hk; omega
    have hr' : k ∈ Region.ready md ops listed := by simpa using hr
    have hst : qOp P ops C k (wpQuiet P ops C Lq l) a := by unfold qOp; simp only [h0]; exact h
    obtain ⟨v, hy, hK⟩ := yieldsIn_of_qOp h0 hst
    exact headAny_first h0 (Region.noSelect_spec hsel) hs hc hn hkn (fun listed' a' hL => seqB_ready hL.1) l.length listed a inv (Region.free_spec h0 hf) hr' hy
      (headAny_lex hsel hs hc hn l (k + 1) _ _ (fun j hj => by have := hl (j + 1) (by simp; omega); simpa [Nat.add_assoc, Nat.add_comm 1 j] using this) (by simp only [List.length_cons] at hk; omega) (inv.set hr' hkn) hB' hK)

/-- A region that draws: the head (n operations) quiet in the class C, walked in the text's order; the tail in its one order, from every world of the class. -/
theorem wp_region_quiet_tail {id : Nat} {Q : Exit → Act → World → Prop} {a : Act} {w : World} {l : List Oper} (n : Nat) (hm : P.follows .mixedOrders = true) (hB : Region.lexTailB .any l.toArray n = true) (hC : C w.drew)
    (h : wpQuiet P l.toArray C (fun a' => ∀ w', C w' → wpList P l.toArray Q (l.drop n) a' w') (l.take n) a) : (Code.region id l.toArray true).wp P Q a w := by
  simp only [Region.lexTailB, Bool.and_eq_true, decide_eq_true_eq] at hB
  obtain ⟨⟨⟨⟨hsel, hn⟩, hs⟩, hc⟩, hlex⟩ := hB
  have hn' : n < l.length := by simpa using hn
  have htl : (l.take n).length = n := by simp; omega
  have hdl : (l.drop n).length = l.toArray.size - n := by simp
  have inv0 : HeadInv .any l.toArray n (Array.replicate l.toArray.size false) :=
    ⟨by simp, fun j oj _ hl => (by rw [getD_replicate_false] at hl; cases hl), fun t _ ht => getD_in (by simpa using ht) (getD_replicate_false _ _)⟩
  have H := headAny_lex (md := .any) (g := l.toArray.size - n) hsel hs hc hn (l.take n) 0 _ a (fun j hj => by
    have hj' : j < n := by rw [htl] at hj; exact hj
    simp [hj']) (by simpa using htl) inv0 (by rw [htl]; exact hlex) h
  refine wp_region_any hm ?_
  have := wpAny_of_headAny (Q' := Q) (g := l.toArray.size - n) (fun listed a' hL w' hw' => by
    have := wpAny_of_seq (md := .any) (Q' := Q) (l.drop n) n listed a' w' (fun j => by simp [List.getElem?_drop]) (by rw [hdl]; exact hL.1) (hL.2 w' hw')
    rwa [hdl] at this) _ _ _ H w.drew hC
  rw [htl, show n + (l.toArray.size - n) = l.toArray.size by omega] at this
  exact this

/-- The same at the class 'w after some draws'. -/
theorem wp_region_quiet_tail_lit {id : Nat} {Q : Exit → Act → World → Prop} {a : Act} {w : World} {l : List Oper} (n : Nat) (hm : P.follows .mixedOrders = true) (hB : Region.lexTailB .any l.toArray n = true)
    (h : wpQuiet P l.toArray (fun w' => ∃ m, w' = w.drewN m) (fun a' => ∀ w', (∃ m, w' = w.drewN m) → wpList P l.toArray Q (l.drop n) a' w') (l.take n) a) : (Code.region id l.toArray true).wp P Q a w :=
  wp_region_quiet_tail (C := fun w' => ∃ m, w' = w.drewN m) n hm hB ⟨1, rfl⟩ h
end
end Go.Proofs.YtiboflejmnjdhaaDoor
end
section
set_option linter.unusedVariables false
set_option linter.unusedSimpArgs false
namespace Go.Proofs.YtiboflejmnjdhaaDoor
open Go Go.RowKit
/-- A block of words. -/
def w32 (l : List Int) : Array Value := (l.map (Value.int .u32)).toArray
/-- A block of bytes. -/
def w8 (l : List Int) : Array Value := (l.map (Value.int .u8)).toArray
def wk (q : IntKind) (l : List Int) : Array Value := (l.map (Value.int q)).toArray
theorem w32_size (l : List Int) : (w32 l).size = l.length := by simp [w32]
theorem w8_size (l : List Int) : (w8 l).size = l.length := by simp [w8]
theorem w32_one (l : List Int) : (w32 l).all (·.oneCell') = true := by simp [w32, Value.oneCell']
theorem w8_one (l : List Int) : (w8 l).all (·.oneCell') = true := by simp [w8, Value.oneCell']
theorem w32_get (l : List Int) (k : Nat) (h : k < l.length) : (w32 l)[k]? = some (.int .u32 (l.getD k 0)) := by simp [w32, h]
theorem w8_get (l : List Int) (k : Nat) (h : k < l.length) : (w8 l)[k]? = some (.int .u8 (l.getD k 0)) := by simp [w8, h]

theorem new_at {W : World} {o : Obj} {n : Nat} (h : n = W.heap.size) : (W.alloc o).heap[n]? = some o := h ▸ heap_alloc_new W o
theorem blk_alloc {w : World} {g : Nat} {o : Obj} (h : w.heap[g]? = some o) (o' : Obj) : (w.alloc o').heap[g]? = some o := (Below.heap_alloc w o' g (Array.getElem?_eq_some_iff.1 h).1).trans h
theorem blk_set {w : World} {g : Nat} {t : TypeId} {cs : Array Value} {fr : Nat × Nat} (h : w.heap[g]? = some (.cells cs t fr)) (i : Nat) (u : Value) : (w.setCell ⟨g, i, none⟩ u).heap[g]? = some (.cells (cs.setIfInBounds i u) t fr) := by
  simp [World.setCell, Array.getElem?_modify, h]
theorem blk_far {w : World} {g : Nat} {o : Obj} (h : w.heap[g]? = some o) {p : Addr} (hp : g ≠ p.block) (u : Value) : (w.setCell p u).heap[g]? = some o := (Below.heap_setCell w p u g hp).trans h
theorem blk_cell {w : World} {g : Nat} {t : TypeId} {cs : Array Value} {fr : Nat × Nat} (h : w.heap[g]? = some (.cells cs t fr)) (i : Nat) {v : Value} (hv : cs[i]? = some v) : w.cell? ⟨g, i, none⟩ = some v := by
  simp only [World.cell?, h, Option.isSome_none]
  exact hv
theorem cell_new {W : World} {cs : Array Value} {t : TypeId} {fr : Nat × Nat} {i n : Nat} {v : Value} (hn : n = W.heap.size) (h : cs[i]? = some v) : (W.alloc (.cells cs t fr)).cell? ⟨n, i, none⟩ = some v := by
  have := new_at (W := W) (o := .cells cs t fr) hn
  simp only [World.cell?, this, Option.isSome_none]
  exact h
theorem cell_w32 {W : World} {B : Nat} {ws : List Int} {t : TypeId} (h : W.heap[B]? = some (.cells (w32 ws) t (0, 0))) (i : Nat) (hi : i < ws.length) : W.cell? ⟨B, i, none⟩ = some (.int .u32 (ws.getD i 0)) := by
  simp [World.cell?, h, w32, hi]
theorem cell_w8 {W : World} {B : Nat} {ws : List Int} {t : TypeId} (h : W.heap[B]? = some (.cells (w8 ws) t (0, 0))) (i : Nat) (hi : i < ws.length) : W.cell? ⟨B, i, none⟩ = some (.int .u8 (ws.getD i 0)) := by
  simp [World.cell?, h, w8, hi]
theorem frozen_row {W : World} {B : Nat} {cs : Array Value} {t : TypeId} (h : W.heap[B]? = some (.cells cs t (0, 0))) (i : Nat) : W.frozen? ⟨B, i, none⟩ = false := by
  simp [World.frozen?, h]
theorem set_w32 {W : World} {B : Nat} {ws : List Int} {t : TypeId} (h : W.heap[B]? = some (.cells (w32 ws) t (0, 0))) (i : Nat) (x : Int) : (W.setCell ⟨B, i, none⟩ (.int .u32 x)).heap[B]? = some (.cells (w32 (ws.set i x)) t (0, 0)) := by
  simp [World.setCell, Array.getElem?_modify, h, w32, List.map_set]
theorem set_w8 {W : World} {B : Nat} {ws : List Int} {t : TypeId} (h : W.heap[B]? = some (.cells (w8 ws) t (0, 0))) (i : Nat) (x : Int) : (W.setCell ⟨B, i, none⟩ (.int .u8 x)).heap[B]? = some (.cells (w8 (ws.set i x)) t (0, 0)) := by
  simp [World.setCell, Array.getElem?_modify, h, w8, List.map_set]
theorem below_drewN {B : Nat} {w W : World} (h : Below B w W) (n : Nat) : Below B w (W.drewN n) := ⟨h.os, h.tape, h.output, h.size, h.block⟩
theorem below_setRow {B : Nat} {w W : World} (h : Below B w W) {g : Nat} (hg : B ≤ g) (cs : Array Value) : Below B w (W.setRow g cs) :=
  h.trans ⟨rfl, rfl, rfl, by simp [World.setRow], fun k hk => by simp only [World.setRow]; rw [Array.getElem?_modify]; simp; omega⟩
theorem run_index_row {P : Program} {t e n : Nat} {q : IntKind} (ht : P.underlying t = some (.array n e)) (he : P.underlying e = some (.int q)) (hs : (P.info? e).map (·.size) = some 1) (cs : Array Value) (k : Nat) (hk : k < n) (v : Value) (hv : cs[k]? = some v) (W : World) :
    (Instr.index t (.agg cs) (.int .i64 k)).run P W = .ok v W := by
  obtain ⟨i, hi, hi1⟩ := Option.map_eq_some_iff.1 hs
  have h1 : (k : Int) < (n : Int) := by omega
  have h2 : cs[k * 1]? = some v := by simpa using hv
  simp [Instr.index, run_underlying ht, run_underlying he, asIntOf, h1, sizeOf, typeInfo, hi, hi1, part, isAgg, hv]
  omega
theorem setRow_alloc (W : World) (old cs : Array Value) (t : TypeId) (fr : Nat × Nat) : (W.alloc (.cells old t fr)).setRow W.heap.size cs = W.alloc (.cells cs t fr) := by
  have h : (W.heap.push (.cells old t fr)).modify W.heap.size (fun | .cells _ t f => .cells cs t f | o => o) = W.heap.push (.cells cs t fr) := by
    apply Array.ext_getElem?
    intro i
    rw [Array.getElem?_modify, Array.getElem?_push, Array.getElem?_push]
    by_cases hi : i = W.heap.size
    · subst hi; simp
    · simp [hi, Ne.symm hi]
  show ({ (W.alloc (.cells old t fr)) with heap := (W.heap.push (.cells old t fr)).modify W.heap.size _ } : World) = { W with heap := W.heap.push (.cells cs t fr) }
  rw [← h]
  rfl
theorem wpList_store_new {P : Program} {ops : Array Oper} {rest : List Oper} {o : Oper} {a : Act} {w : World} {Q : Exit → Act → World → Prop} (hgd : o.guard = none) (ty : TypeId) (x y : Operand) (ho : o.op = .store ty x y)
    (cells : Array Value) (hx : a.eval x = .pointer (some ⟨w.heap.size, 0, none⟩)) (hy : a.eval y = .agg cells)
    (t : TypeId) (old : Array Value) (hi : (P.info? ty).map (·.size) = some cells.size) (hold : old.size = cells.size) (h1 : cells.all (·.oneCell') = true)
    (h : wpList P ops Q rest (a.put o.dst undef) (w.alloc (.cells cells t))) : wpList P ops Q (o :: rest) a (w.alloc (.cells old t)) :=
  wpList_store_row hgd ty x y ho w.heap.size cells hx hy t old (new_at rfl) hi hold h1 (by rw [setRow_alloc]; exact h)
end Go.Proofs.YtiboflejmnjdhaaDoor
end
section
set_option linter.unusedVariables false
namespace Go.Proofs.YtiboflejmnjdhaaDoor
open Go

/-- A word turned right by n. -/
def rot (x n : Int) : Int := bits .or .u32 (x / 2 ^ n.toNat) (x * 2 ^ (32 - n).toNat % 4294967296)
def shaWord (bs : List Int) (k : Nat) : Int :=
  bits BinOp.or IntKind.u32 (bits BinOp.or IntKind.u32 (bits BinOp.or IntKind.u32 (bs.getD (4 * k) 0 % 4294967296 * 16777216 % 4294967296) (bs.getD (4 * k + 1) 0 % 4294967296 * 65536 % 4294967296))
    (bs.getD (4 * k + 2) 0 % 4294967296 * 256 % 4294967296)) (bs.getD (4 * k + 3) 0 % 4294967296)
def shaMix (ws : List Int) (k : Nat) : Int :=
  (bits BinOp.xor IntKind.u32 (bits BinOp.xor IntKind.u32 (rot (ws.getD (k - 2) 0) 17) (rot (ws.getD (k - 2) 0) 19)) (ws.getD (k - 2) 0 / 1024) + ws.getD (k - 7) 0 +
    bits BinOp.xor IntKind.u32 (bits BinOp.xor IntKind.u32 (rot (ws.getD (k - 15) 0) 7) (rot (ws.getD (k - 15) 0) 18)) (ws.getD (k - 15) 0 / 8) + ws.getD (k - 16) 0) % 4294967296
/-- The 64 words, after k of them are made. -/
def shaSched (bs : List Int) : Nat → List Int
  | 0 => List.replicate 64 0
  | k + 1 => if k < 16 then (shaSched bs k).set k (shaWord bs k) else (shaSched bs k).set k (shaMix (shaSched bs k) k)
theorem shaSched_len (bs : List Int) : ∀ k, (shaSched bs k).length = 64
  | 0 => by simp [shaSched]
  | k + 1 => by unfold shaSched; split <;> simp [shaSched_len bs k]
theorem shaSched_lo {bs : List Int} {k : Nat} (h : k < 16) : shaSched bs (k + 1) = (shaSched bs k).set k (shaWord bs k) := by rw [shaSched, if_pos h]
theorem shaSched_hi {bs : List Int} {k : Nat} (h : ¬ k < 16) : shaSched bs (k + 1) = (shaSched bs k).set k (shaMix (shaSched bs k) k) := by rw [shaSched, if_neg h]

/-- The eight words. -/
structure Eight where
  a : Int
  b : Int
  c : Int
  d : Int
  e : Int
  f : Int
  g : Int
  h : Int
def Eight.list (v : Eight) : List Int := [v.a, v.b, v.c, v.d, v.e, v.f, v.g, v.h]
def shaT (v : Eight) (k w : Int) : Int :=
  (v.h + bits BinOp.xor IntKind.u32 (bits BinOp.xor IntKind.u32 (rot v.e 6) (rot v.e 11)) (rot v.e 25) + bits BinOp.xor IntKind.u32 v.g (bits BinOp.and IntKind.u32 v.e (bits BinOp.xor IntKind.u32 v.f v.g)) + k + w) % 4294967296
def shaU (v : Eight) : Int :=
  (bits BinOp.xor IntKind.u32 (bits BinOp.xor IntKind.u32 (rot v.a 2) (rot v.a 13)) (rot v.a 22) + bits BinOp.or IntKind.u32 (bits BinOp.and IntKind.u32 v.a v.b) (bits BinOp.and IntKind.u32 v.c (bits BinOp.or IntKind.u32 v.a v.b))) % 4294967296
def shaRound (v : Eight) (k w : Int) : Eight := { a := (shaT v k w + shaU v) % 4294967296, b := v.a, c := v.b, d := v.c, e := (v.d + shaT v k w) % 4294967296, f := v.e, g := v.f, h := v.g }
def shaRounds (R ws : List Int) (v : Eight) : Nat → Eight
  | 0 => v
  | k + 1 => shaRound (shaRounds R ws v k) (R.getD k 0) (ws.getD k 0)
/-- v, the first k words of which have those of y added. -/
def shaSums (v y : List Int) : Nat → List Int
  | 0 => v
  | k + 1 => (shaSums v y k).set k (((shaSums v y k).getD k 0 + y.getD k 0) % 4294967296)
theorem shaSums_len (v y : List Int) : ∀ k, (shaSums v y k).length = v.length
  | 0 => rfl
  | k + 1 => by simp [shaSums, shaSums_len v y k]
def Eight.of (l : List Int) : Eight := { a := l.getD 0 0, b := l.getD 1 0, c := l.getD 2 0, d := l.getD 3 0, e := l.getD 4 0, f := l.getD 5 0, g := l.getD 6 0, h := l.getD 7 0 }
theorem Eight.of_list (l : List Int) (h : l.length = 8) : (Eight.of l).list = l := by
  match l, h with
  | [_, _, _, _, _, _, _, _], _ => rfl
/-- A block of 64 bytes, summed up. -/
def shaTake (R : List Int) (v : List Int) (bs : List Int) : List Int := shaSums v (shaRounds R (shaSched bs 64) (Eight.of v) 64).list 8
theorem shaTake_len (R v bs : List Int) : (shaTake R v bs).length = v.length := shaSums_len _ _ _
/-- The eight words behind j blocks of all. -/
def shaV (R v all : List Int) : Nat → List Int
  | 0 => v
  | j + 1 => shaTake R (shaV R v all j) (all.drop (64 * j))
theorem shaV_len (R v all : List Int) : ∀ j, (shaV R v all j).length = v.length
  | 0 => rfl
  | j + 1 => by rw [shaV, shaTake_len, shaV_len R v all j]
end Go.Proofs.YtiboflejmnjdhaaDoor
end
section
set_option linter.unusedVariables false
set_option linter.unusedSimpArgs false
namespace Go.Proofs.YtiboflejmnjdhaaDoor
open Go.RowKit
theorem turn_any (x n : Int) (h0 : 0 < n) (h1 : n < 32) (w : World) : Calls Tryd.prog 96 #[.int .u32 x, .int .i64 n] w fun e w' => e = .returned (.int .u32 (rot x n)) ∧ ∃ m, w' = w.drewN m := by
  go_enter Tryd.func96, Tryd.ntmps96
  go_wp2
  go_quiet (fail)
  go_wp2
  go_ret
  exact ⟨rfl, _, rfl⟩
set_option maxRecDepth 100000 in
set_option maxHeartbeats 8000000 in
theorem take_any (R : List Int) (v : Eight) (b off n c : Nat) (h64 : 64 ≤ n) (bs : List Int) (w : World) (hbs : ∀ i, i < 64 → w.cell? ⟨b, off + i, none⟩ = some (.int .u8 (bs.getD i 0)))
   (hbb : b < w.heap.size) (hR : w.heap[2]? = some (.cells (w32 R) 176 (0, 0))) (hRl : R.length = 64) :
  Calls Tryd.prog 83 #[.agg (w32 v.list), .slice (some ⟨b, off, none⟩) n c] w fun e w' => e = .returned (.agg (w32 (shaSums v.list (shaRounds R (shaSched bs 64) v 64).list 8))) ∧ Below w.heap.size w w' := by
  have hgl : 2 < w.heap.size := (Array.getElem?_eq_some_iff.1 hR).1
  go_enter Tryd.func83, Tryd.ntmps83
  go_wp2
  go_loopw [23] (fun i wr => ∃ k : Nat, k ≤ 64 ∧ i = .int .i64 k ∧ wr.heap[w.heap.size + 1 + 1]? = some (.cells (w32 (shaSched bs k)) 176 (0, 0)) ∧ Below (w.heap.size + 2) ((w.alloc (.cells (w32 v.list) 161)).alloc (.cells (w32 [0,0,0,0,0,0,0,0]) 161)) wr)
    (fun i _ => 64 - (intOf i).toNat)
  case atStart => exact ⟨0, by omega, rfl, new_at (by simp), (Below.refl _ _).alloc (by simp) _⟩
  case round =>
    obtain ⟨k, hk, rfl, hblk, hB⟩ := hrel
    have hcw : ∀ i, wr.cell? ⟨b, off + i, none⟩ = w.cell? ⟨b, off + i, none⟩ := fun i => by rw [hB.cell (p := ⟨b, off + i, none⟩) (by simp; omega), (Below.refl _ w |>.alloc (Nat.le_refl _) _ |>.alloc (by simp) _).cell (p := ⟨b, off + i, none⟩) hbb]
    by_cases hlt : k < 64
    · clear hR
      by_cases h16 : k < 16
      ·
        --[
        have b0 := (hcw (4*k)).trans (hbs (4*k) (by omega))
        have b1 := (hcw (4*k+1)).trans (hbs (4*k+1) (by omega))
        have b2 := (hcw (4*k+2)).trans (hbs (4*k+2) (by omega))
        have b3 := (hcw (4*k+3)).trans (hbs (4*k+3) (by omega))
        clear hcw hbs
        have hf := frozen_row hblk k
        have hc := cell_w32 hblk k (by rw [shaSched_len]; omega)
        go_wp2
        refine wp_region_quiet_tail_lit 35 (by kernel_rfl) (by kernel_rfl) ?_
        simp only [List.take_succ_cons, List.take_zero, List.drop_succ_cons, List.drop_zero]
        repeat (go_big_quiet_step (fail))
        refine wpQuiet_nil ?_
        rintro _ ⟨nq, rfl⟩
        go_wp2
        go_roundw
        case rel =>
          have hs := set_w32 (W := wr.drewN nq) hblk k (shaWord bs k)
          rw [← shaSched_lo h16] at hs
          simp only [shaWord, List.getD_eq_getElem?_getD] at hs
          exact ⟨k + 1, by omega, by go_num, hs, (below_drewN hB nq).setCell (by simp) _⟩
        case measure => simp [intOf]; omega
        --]
      ·
        --[
        have c15 := cell_w32 hblk (k - 15) (by rw [shaSched_len]; omega)
        have c2 := cell_w32 hblk (k - 2) (by rw [shaSched_len]; omega)
        clear hcw hbs
        go_wp2
        go_quiet (fail)
        have hblk : (wr.drewN nq).heap[w.heap.size + 1 + 1]? = some (.cells (w32 (shaSched bs k)) 176 (0, 0)) := hblk
        have hB := below_drewN hB nq
        clear c15 c2
        generalize wr.drewN nq = wq at *
        have c7 := cell_w32 hblk (k - 7) (by rw [shaSched_len]; omega)
        have c16 := cell_w32 hblk (k - 16) (by rw [shaSched_len]; omega)
        have hf := frozen_row hblk k
        have hc := cell_w32 hblk k (by rw [shaSched_len]; omega)
        go_wp2
        refine wp_region_quiet_tail_lit 29 (by kernel_rfl) (by kernel_rfl) ?_
        simp only [List.take_succ_cons, List.take_zero, List.drop_succ_cons, List.drop_zero]
        repeat (go_big_quiet_step ((go_at_call 96; exact Calls.quiet_of (turn_any _ _ (by decide) (by decide) _))))
        refine wpQuiet_nil ?_
        rintro _ ⟨nq2, rfl⟩
        go_wp2
        go_roundw
        case rel =>
          have hs := set_w32 (W := wq.drewN nq2) hblk k (shaMix (shaSched bs k) k)
          rw [← shaSched_hi h16] at hs
          simp only [shaMix, List.getD_eq_getElem?_getD] at hs
          exact ⟨k + 1, by omega, by go_num, hs, (below_drewN hB nq2).setCell (by simp) _⟩
        case measure => simp [intOf]; omega
        --]
    · obtain rfl : k = 64 := by omega
      have hgr : wr.heap[2]? = some (.cells (w32 R) 176 (0, 0)) := by
        rw [hB.block _ (by omega), ((Below.refl w.heap.size w).alloc (Nat.le_refl _) _ |>.alloc (by simp) _).block _ hgl]; exact hR
      have hv : wr.heap[w.heap.size]? = some (.cells (w32 v.list) 161 (0, 0)) := by
        rw [hB.block _ (by omega), Below.heap_alloc _ _ _ (by simp)]; exact new_at rfl
      have ho : wr.heap[w.heap.size + 1]? = some (.cells (w32 [0,0,0,0,0,0,0,0]) 161 (0, 0)) := by
        rw [hB.block _ (by omega)]; exact new_at (by simp)
      have hBw : Below w.heap.size w wr := ((Below.refl w.heap.size w).alloc (Nat.le_refl _) _ |>.alloc (by simp) _).trans (hB.mono (by omega))
      clear hB hcw hbs hR
      obtain ⟨wo, rfl⟩ : ∃ wo : World, wo = wr := ⟨_, rfl⟩
      have v0 := cell_w32 hv 0 (by simp [Eight.list])
      have v1 := cell_w32 hv 1 (by simp [Eight.list])
      have v2 := cell_w32 hv 2 (by simp [Eight.list])
      have v3 := cell_w32 hv 3 (by simp [Eight.list])
      have v4 := cell_w32 hv 4 (by simp [Eight.list])
      have v5 := cell_w32 hv 5 (by simp [Eight.list])
      have v6 := cell_w32 hv 6 (by simp [Eight.list])
      have v7 := cell_w32 hv 7 (by simp [Eight.list])
      simp only [Eight.list, List.getD_cons_zero, List.getD_cons_succ] at v0 v1 v2 v3 v4 v5 v6 v7
      go_wp2
      go_quiet (fail)
      have hgr : (wo.drewN nq).heap[2]? = some (.cells (w32 R) 176 (0, 0)) := hgr
      have hblk : (wo.drewN nq).heap[w.heap.size + 1 + 1]? = some (.cells (w32 (shaSched bs 64)) 176 (0, 0)) := hblk
      have hv : (wo.drewN nq).heap[w.heap.size]? = some (.cells (w32 v.list) 161 (0, 0)) := hv
      have ho : (wo.drewN nq).heap[w.heap.size + 1]? = some (.cells (w32 [0,0,0,0,0,0,0,0]) 161 (0, 0)) := ho
      have hBw := below_drewN hBw nq
      clear v0 v1 v2 v3 v4 v5 v6 v7
      generalize wo.drewN nq = wq at *
      have hsz : (Tryd.prog.info? 176).map (·.size) = some (w32 R).size := by rw [w32_size, hRl]; kernel_rfl
      go_wp2_with (with_reducible refine wpList_load_row rfl 176 _ rfl 2 rfl _ _ (0, 0) _ hgr Tryd.underlying176 rfl hsz ?_)
      clear hsz hgr
      go_loopw [9, 10, 11, 12, 13, 14, 15, 16, 118] (fun s9 s10 s11 s12 s13 s14 s15 s16 i wr => ∃ k : Nat, k ≤ 64 ∧ i = .int .i64 k ∧ s9 = .int .u32 (shaRounds R (shaSched bs 64) v k).a ∧ s10 = .int .u32 (shaRounds R (shaSched bs 64) v k).b ∧ s11 = .int .u32 (shaRounds R (shaSched bs 64) v k).c ∧ s12 = .int .u32 (shaRounds R (shaSched bs 64) v k).d ∧
          s13 = .int .u32 (shaRounds R (shaSched bs 64) v k).e ∧ s14 = .int .u32 (shaRounds R (shaSched bs 64) v k).f ∧ s15 = .int .u32 (shaRounds R (shaSched bs 64) v k).g ∧ s16 = .int .u32 (shaRounds R (shaSched bs 64) v k).h ∧ ∃ m, wr = wq.drewN m)
        (fun _ _ _ _ _ _ _ _ i _ => 64 - (intOf i).toNat)
      case atStart => exact ⟨0, by omega, rfl, rfl, rfl, rfl, rfl, rfl, rfl, rfl, rfl, 0, rfl⟩
      case round =>
        clear hk hlt
        obtain ⟨k, hk, rfl, rfl, rfl, rfl, rfl, rfl, rfl, rfl, rfl, m, rfl⟩ := hrel
        by_cases hlt : k < 64
        · obtain ⟨rk, hrk⟩ : ∃ r, r = R.getD k 0 := ⟨_, rfl⟩
          obtain ⟨wsk, hwsk⟩ : ∃ r, r = (shaSched bs 64).getD k 0 := ⟨_, rfl⟩
          have hix := run_index_row (P := Tryd.prog) Tryd.underlying176 Tryd.underlying160 (by kernel_rfl) (w32 R) k hlt _ (w32_get R k (by omega))
          have hc : (wq.drewN m).cell? ⟨w.heap.size + 1 + 1, k, none⟩ = _ := cell_w32 (W := wq) hblk k (by rw [shaSched_len]; omega)
          rw [← hrk] at hix
          rw [← hwsk] at hc
          generalize hst : shaRounds R (shaSched bs 64) v k = st at *
          generalize hwz : wq.drewN m = wz at *
          have Hrk := Lib.hid hrk
          have Hwsk := Lib.hid hwsk
          have Hst := Lib.hid hst
          have Hwz := Lib.hid hwz
          clear hst hrk hwsk hwz
          go_wp2
          go_quiet ((go_at_call 96; exact Calls.quiet_of (turn_any _ _ (by decide) (by decide) _)))
          go_wp2_with (go_at_call 96; refine (turn_any _ _ (by decide) (by decide) _).mono ?_; rintro e w' ⟨rfl, m2, rfl⟩)
          go_roundw
          case rel =>
            have hn : shaRounds R (shaSched bs 64) v (k + 1) = shaRound st rk wsk := by rw [shaRounds, Hst.out, ← Hrk.out, ← Hwsk.out]
            refine ⟨k + 1, by omega, by go_num, ?_⟩
            rw [hn]
            exact ⟨rfl, rfl, rfl, rfl, rfl, rfl, rfl, rfl, _, by rw [← Hwz.out, World.drewN_drewN]⟩
          case measure => simp [intOf]; omega
        · obtain rfl : k = 64 := by omega
          have hv : (wq.drewN m).heap[w.heap.size]? = some (.cells (w32 v.list) 161 (0, 0)) := hv
          have ho : (wq.drewN m).heap[w.heap.size + 1]? = some (.cells (w32 [0,0,0,0,0,0,0,0]) 161 (0, 0)) := ho
          have hBw := below_drewN hBw m
          generalize hst : shaRounds R (shaSched bs 64) v 64 = st at *
          have Hst := Lib.hid hst
          clear hst hblk hRl
          generalize wq.drewN m = wz at *
          go_wp2
          go_loopw [186] (fun i wr => ∃ k : Nat, k ≤ 8 ∧ i = .int .i64 k ∧ wr.heap[w.heap.size]? = some (.cells (w32 (shaSums v.list st.list k)) 161 (0, 0)) ∧ wr.heap[w.heap.size + 1]? = some (.cells (w32 [0,0,0,0,0,0,0,0]) 161 (0, 0)) ∧ Below w.heap.size w wr)
            (fun i _ => 8 - (intOf i).toNat)
          case atStart => exact ⟨0, by omega, rfl, hv, ho, hBw⟩
          case round =>
            obtain ⟨k, hk, rfl, hv', ho', hBr⟩ := hrel
            clear hv ho hBw
            by_cases hlt : k < 8
            · obtain ⟨y, hy⟩ : ∃ y, y = st.list.getD k 0 := ⟨_, rfl⟩
              obtain ⟨x, hx⟩ : ∃ x, x = (shaSums v.list st.list k).getD k 0 := ⟨_, rfl⟩
              have hix : ∀ W, (Instr.index 161 (.agg #[.int .u32 st.a, .int .u32 st.b, .int .u32 st.c, .int .u32 st.d, .int .u32 st.e, .int .u32 st.f, .int .u32 st.g, .int .u32 st.h]) (.int .i64 k)).run Tryd.prog W = .ok (.int .u32 y) W :=
                run_index_row (P := Tryd.prog) Tryd.underlying161 Tryd.underlying160 (by kernel_rfl) _ k hlt _ (by rw [hy]; exact w32_get st.list k (by simpa [Eight.list] using hlt))
              have hc := cell_w32 hv' k (by rw [shaSums_len]; simpa [Eight.list] using hlt)
              have hf := frozen_row hv' k
              rw [← hx] at hc
              have Hx := Lib.hid hx
              have Hy := Lib.hid hy
              clear hx hy
              go_wp2
              go_roundw
              case rel =>
                have hs := set_w32 hv' k ((x + y) % 4294967296)
                have hn : shaSums v.list st.list (k + 1) = (shaSums v.list st.list k).set k ((x + y) % 4294967296) := by rw [shaSums, Hx.out, Hy.out]
                rw [← hn] at hs
                exact ⟨k + 1, by omega, by go_num, hs, (Below.heap_setCell _ _ _ _ (by simp)).trans ho', hBr.setCell (Nat.le_refl _) _⟩
              case measure => simp [intOf]; omega
            · obtain rfl : k = 8 := by omega
              have hsz : (Tryd.prog.info? 161).map (·.size) = some (w32 (shaSums v.list st.list 8)).size := by rw [w32_size, shaSums_len]; kernel_rfl
              have hold : (w32 [0,0,0,0,0,0,0,0]).size = (w32 (shaSums v.list st.list 8)).size := by rw [w32_size, w32_size, shaSums_len]; rfl
              go_wp2_with (first | (with_reducible refine wpList_load_row rfl 161 _ rfl w.heap.size rfl _ _ (0, 0) _ hv' Tryd.underlying161 rfl hsz ?_) | (with_reducible refine wpList_store_row rfl 161 _ _ rfl (w.heap.size + 1) _ rfl rfl _ _ ho' hsz hold (w32_one _) ?_))
              refine bodyPost_ret (results_cell_row Tryd.results83 _ _ (w.heap.size + 1) _ _ (0, 0) _ rfl (setRow_heap _ _ _ _ _ _ ho') Tryd.underlying161 rfl hsz) rfl ⟨?_, ?_⟩
              · rw [← Hst.out]
              · exact below_setRow hBr (by omega) _
theorem take_list (R l : List Int) (hl : l.length = 8) (b off n c : Nat) (h64 : 64 ≤ n) (bs : List Int) (w : World) (hbs : ∀ i, i < 64 → w.cell? ⟨b, off + i, none⟩ = some (.int .u8 (bs.getD i 0)))
   (hR : w.heap[2]? = some (.cells (w32 R) 176 (0, 0))) (hRl : R.length = 64) :
  Calls Tryd.prog 83 #[.agg (w32 l), .slice (some ⟨b, off, none⟩) n c] w fun e w' => e = .returned (.agg (w32 (shaTake R l bs))) ∧ Below w.heap.size w w' := by
  have h := take_any R (Eight.of l) b off n c h64 bs w hbs (World.block_lt_of_cell? w _ (hbs 0 (by omega))) hR hRl
  rw [Eight.of_list l hl] at h
  exact h
end Go.Proofs.YtiboflejmnjdhaaDoor
end
section
set_option linter.unusedVariables false
set_option linter.unusedSimpArgs false
namespace Go.Proofs.YtiboflejmnjdhaaDoor
open Go Go.RowKit
section
variable {P : Program} {ops : Array Oper} {C : World → Prop} {Q : Act → Prop} {a : Act} {o : Oper} {rest : List Oper}
theorem quiet_load_row (ty : TypeId) (x : Operand) (ho : o.op = .load ty x) (hgd : o.guard = none)
    (g : Nat) (hx : a.eval x = .pointer (some ⟨g, 0, none⟩)) (t : TypeId) (cs : Array Value) (fr : Nat × Nat) (d : TypeDesc) (hg : ∀ w, C w → w.heap[g]? = some (.cells cs t fr))
    (hu : P.underlying ty = some d) (hd : (match d with | .struct _ | .array _ _ => true | _ => false) = true) (hi : (P.info? ty).map (·.size) = some cs.size)
    (h : wpQuiet P ops C Q rest (a.put o.dst (.agg cs))) : wpQuiet P ops C Q (o :: rest) a := by
  refine wpQuiet_step fun K hK => ?_
  rw [if_pos (by simp [Region.wanted, hgd])]
  refine ⟨.agg cs, fun w hw => ?_, hK _ h⟩
  unfold Oper.quietAt execOp
  simp only [ho, hx, Instr.loadAt, Instr.sureAddr, Sem.run_bind, Sem.run_pure, Result.andThen_ok, run_loadVar_row w g t ty cs fr d (hg w hw) hu hd hi]
  exact ⟨rfl, rfl⟩
theorem quiet_of_run (hgd : o.guard = none) (v : Value) (hr : ∀ w, C w → (execOp a.eval o).run P w = .ok (.value v) w)
    (h : wpQuiet P ops C Q rest (a.put o.dst v)) : wpQuiet P ops C Q (o :: rest) a := by
  refine wpQuiet_step fun K hK => ?_
  rw [if_pos (by simp [Region.wanted, hgd])]
  refine ⟨v, fun w hw => ?_, hK _ h⟩
  unfold Oper.quietAt
  rw [hr w hw]
  exact ⟨rfl, rfl⟩
theorem quiet_of_skip (hgd : o.guard = none) (hr : ∀ w, C w → (execOp a.eval o).run P w = .ok .skip w)
    (h : wpQuiet P ops C Q rest (a.put o.dst undef)) : wpQuiet P ops C Q (o :: rest) a := by
  refine wpQuiet_step fun K hK => ?_
  rw [if_pos (by simp [Region.wanted, hgd])]
  refine ⟨undef, fun w hw => ?_, hK _ h⟩
  unfold Oper.quietAt
  rw [hr w hw]
  exact ⟨rfl, rfl⟩
theorem quiet_of_call (hgd : o.guard = none) (f : FuncId) (args : Array Value) (v : Value) (hr : ∀ w, (execOp a.eval o).run P w = .ok (.enter f args) w) (hc : ∀ w, C w → Calls P f args w fun e w' => e = .returned v ∧ C w')
    (h : wpQuiet P ops C Q rest (a.put o.dst v)) : wpQuiet P ops C Q (o :: rest) a := by
  refine wpQuiet_step fun K hK => ?_
  rw [if_pos (by simp [Region.wanted, hgd])]
  refine ⟨v, fun w hw => ?_, hK _ h⟩
  unfold Oper.quietAt
  rw [hr w]
  exact ⟨rfl, hc w hw⟩
end
end Go.Proofs.YtiboflejmnjdhaaDoor
end
