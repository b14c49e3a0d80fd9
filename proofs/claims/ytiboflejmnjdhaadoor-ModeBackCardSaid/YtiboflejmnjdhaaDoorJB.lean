/- Slices of bytes: one that is read, one that is owned; what is kept when some blocks are written. -/
import Derived.Test.YtiboflejmnjdhaaDoorProg
import Derived.Test.YtiboflejmnjdhaaDoorJA
import Derived.Maps.AppendAt
import Derived.Laws.AppendOwnNone
import Derived.Lib.Hide
import Derived.Deep.MidRow
import Derived.Laws.Rows
import Derived.Deep.DeepMust
import Derived.Outline
section
set_option linter.unusedVariables false
set_option linter.unusedSimpArgs false
namespace Go.Proofs.YtiboflejmnjdhaaDoor
open Go Go.RowKit

/-! ### what is kept -/
/-- Of what was there all blocks but those of S lie as they lay. -/
structure Kp (S : List Nat) (w w' : World) : Prop where
  os : w'.os = w.os
  tape : w'.tape = w.tape
  output : w'.output = w.output
  size : w.heap.size ≤ w'.heap.size
  block : ∀ k, k < w.heap.size → k ∉ S → w'.heap[k]? = w.heap[k]?
theorem Kp.refl (S : List Nat) (w : World) : Kp S w w := ⟨rfl, rfl, rfl, Nat.le_refl _, fun _ _ _ => rfl⟩
theorem Kp.of_below {S : List Nat} {w w' : World} (h : Below w.heap.size w w') : Kp S w w' := ⟨h.os, h.tape, h.output, h.size, fun k hk _ => h.block k hk⟩
theorem Kp.of_grown {S : List Nat} {row : Option Nat} {w w' : World} (h : w.grownBy w' row) (hr : ∀ k, row = some k → k < w.heap.size → k ∈ S) : Kp S w w' :=
  ⟨h.os, h.tape, h.output, h.size, fun k hk hS => h.block k hk (fun e => hS (hr k e.symm hk))⟩
theorem Kp.trans {S T : List Nat} {a b c : World} (h : Kp S a b) (k : Kp T b c) (hT : ∀ x ∈ T, x < a.heap.size → x ∈ S) : Kp S a c :=
  ⟨k.os.trans h.os, k.tape.trans h.tape, k.output.trans h.output, Nat.le_trans h.size k.size, fun i hi hS => (k.block i (Nat.lt_of_lt_of_le hi h.size) (fun hx => hS (hT i hx hi))).trans (h.block i hi hS)⟩
theorem Kp.then {S : List Nat} {a b c : World} (h : Kp S a b) (k : Kp S b c) : Kp S a c := h.trans k fun _ hx _ => hx
theorem Kp.below {S : List Nat} {w w' : World} (h : Kp S w w') {B : Nat} (hB : B ≤ w.heap.size) (hS : ∀ x ∈ S, B ≤ x) : Below B w w' :=
  ⟨h.os, h.tape, h.output, h.size, fun k hk => h.block k (Nat.lt_of_lt_of_le hk hB) (fun hx => by have := hS k hx; omega)⟩
theorem Kp.nil {w w' : World} (h : Kp [] w w') : Below w.heap.size w w' := h.below (Nat.le_refl _) (by simp)
theorem Kp.mono {S T : List Nat} {w w' : World} (h : Kp S w w') (hS : ∀ x ∈ S, x < w.heap.size → x ∈ T) : Kp T w w' := (Kp.refl T w).trans h hS
theorem Kp.drewN {S : List Nat} {a w : World} (h : Kp S a w) (n : Nat) : Kp S a (w.drewN n) := ⟨h.os, h.tape, h.output, h.size, h.block⟩
theorem Kp.alloc {S : List Nat} {a w : World} (h : Kp S a w) (o : Obj) : Kp S a (w.alloc o) := h.then (Kp.of_below ((Below.refl _ _).alloc (Nat.le_refl _) _))
theorem Kp.setCell {S : List Nat} {a w : World} (h : Kp S a w) {p : Addr} (hp : p.block < a.heap.size → p.block ∈ S) (u : Value) : Kp S a (w.setCell p u) :=
  h.trans (T := [p.block]) ⟨rfl, rfl, rfl, by simp [World.setCell], fun k _ hk => Below.heap_setCell _ _ _ _ (by simpa using hk)⟩ (by simpa using hp)
theorem Kp.setRow {S : List Nat} {a w : World} (h : Kp S a w) {g : Nat} (hg : g < a.heap.size → g ∈ S) (cs : Array Value) : Kp S a (w.setRow g cs) :=
  h.trans (T := [g]) ⟨rfl, rfl, rfl, by simp [World.setRow], fun k _ hk => setRow_other _ _ _ _ (by simpa using hk)⟩ (by simpa using hg)
theorem Kp.at_ {S : List Nat} {w w' : World} (h : Kp S w w') {k : Nat} {o : Obj} (ho : w.heap[k]? = some o) (hS : k ∉ S) : w'.heap[k]? = some o :=
  (h.block k (Array.getElem?_eq_some_iff.1 ho).1 hS).trans ho
theorem Kp.cell {S : List Nat} {w w' : World} (h : Kp S w w') {a : Addr} {v : Value} (hc : w.cell? a = some v) (hS : a.block ∉ S) : w'.cell? a = some v :=
  (World.cell?_of_block (h.block _ (World.block_lt_of_cell? w a hc) hS)).trans hc
theorem blk_ne {w : World} {b b' : Nat} {cs cs' : Array Value} {t t' : TypeId} {f f' : Nat × Nat} (h : w.heap[b]? = some (.cells cs t f)) (h' : w.heap[b']? = some (.cells cs' t' f')) (hne : t ≠ t') : b ≠ b' := by
  intro e; subst e; rw [h] at h'; simp only [Option.some.injEq, Obj.cells.injEq] at h'; exact hne h'.2.1
theorem blk_lt {w : World} {b : Nat} {o : Obj} (h : w.heap[b]? = some o) : b < w.heap.size := (Array.getElem?_eq_some_iff.1 h).1
theorem below_at {B : Nat} {w w' : World} (h : Below B w w') {k : Nat} {o : Obj} (ho : w.heap[k]? = some o) (hk : k < B) : w'.heap[k]? = some o := (h.block k hk).trans ho

/-! ### a slice of bytes that is read -/
structure Rd (w : World) (A : Option Addr) (c : Nat) (xs : List Int) : Prop where
  le : xs.length ≤ c
  big : c ≤ 9223372036854775807
  nil : A = none → c = 0
  cells : 0 < xs.length → ∃ b off, A = some ⟨b, off, none⟩ ∧ ∀ j, j < xs.length → w.cell? ⟨b, off + j, none⟩ = some (.int .u8 (xs.getD j 0))
theorem Rd.none_ (w : World) : Rd w none 0 [] := ⟨Nat.le_refl _, by omega, fun _ => rfl, by simp⟩
theorem Rd.empty (w : World) (a : Addr) (c : Nat) (hc : c ≤ 9223372036854775807) : Rd w (some a) c [] := ⟨Nat.zero_le _, hc, by simp, by simp⟩
theorem Rd.len {w : World} {A : Option Addr} {c : Nat} {xs : List Int} (h : Rd w A c xs) : xs.length ≤ 9223372036854775807 := Nat.le_trans h.le h.big
theorem Rd.keep {w w' : World} {A : Option Addr} {c : Nat} {xs : List Int} (h : Rd w A c xs) (hk : ∀ a, A = some a → a.block < w.heap.size → w'.heap[a.block]? = w.heap[a.block]?) : Rd w' A c xs :=
  ⟨h.le, h.big, h.nil, fun hp => by
    obtain ⟨b, off, e, hc⟩ := h.cells hp
    refine ⟨b, off, e, fun j hj => ?_⟩
    exact (World.cell?_of_block (w := w) (a := ⟨b, off + j, none⟩) (hk ⟨b, off, none⟩ e (World.block_lt_of_cell? w ⟨b, off + j, none⟩ (hc j hj)))).trans (hc j hj)⟩
theorem Rd.below {w w' : World} {A : Option Addr} {c : Nat} {xs : List Int} (h : Rd w A c xs) (hb : Below w.heap.size w w') : Rd w' A c xs := h.keep fun a _ hl => hb.block _ hl
theorem Rd.kp {S : List Nat} {w w' : World} {A : Option Addr} {c : Nat} {xs : List Int} (h : Rd w A c xs) (hb : Kp S w w') (hS : ∀ a, A = some a → a.block ∉ S) : Rd w' A c xs := h.keep fun a e hl => hb.block _ hl (hS a e)
theorem Rd.drewN {w : World} {A : Option Addr} {c : Nat} {xs : List Int} (h : Rd w A c xs) (n : Nat) : Rd (w.drewN n) A c xs := h.keep fun _ _ _ => rfl
theorem Rd.alloc {w : World} {A : Option Addr} {c : Nat} {xs : List Int} (h : Rd w A c xs) (o : Obj) : Rd (w.alloc o) A c xs := h.below ((Below.refl _ _).alloc (Nat.le_refl _) _)
theorem Rd.full {w : World} {A : Option Addr} {c : Nat} {xs : List Int} (h : Rd w A c xs) : Rd w A xs.length xs :=
  ⟨Nat.le_refl _, h.len, fun e => by have := h.nil e; have := h.le; omega, h.cells⟩
theorem Rd.take {w : World} {A : Option Addr} {c : Nat} {xs : List Int} (h : Rd w A c xs) (m : Nat) (hm : m ≤ xs.length) : Rd w A c (xs.take m) := by
  have hl : (xs.take m).length = m := by simp; omega
  refine ⟨by have := h.le; omega, h.big, h.nil, fun hp => ?_⟩
  obtain ⟨b, off, e, hc⟩ := h.cells (by omega)
  refine ⟨b, off, e, fun j hj => ?_⟩
  rw [hc j (by omega)]
  rw [hl] at hj
  simp [List.getD_eq_getElem?_getD, hj]
theorem Rd.drop {w : World} {A : Option Addr} {c : Nat} {xs : List Int} (h : Rd w A c xs) (m : Nat) (hm : m ≤ xs.length) : Rd w (if c = m then A else A.map (·.add m)) (c - m) (xs.drop m) := by
  have hl : (xs.drop m).length = xs.length - m := by simp
  have h1 := h.le
  have h2 := h.big
  refine ⟨by omega, by omega, fun e => ?_, fun hp => ?_⟩
  · by_cases hcm : c = m
    · omega
    · rw [if_neg hcm] at e
      have := h.nil (by simpa using e)
      omega
  · obtain ⟨b, off, rfl, hc⟩ := h.cells (by omega)
    rw [if_neg (by omega)]
    refine ⟨b, off + m, ?_, fun j hj => ?_⟩
    · show some (Addr.add _ _) = _
      unfold Addr.add
      by_cases h0 : m = 0 <;> simp [h0]
    · rw [show off + m + j = off + (m + j) by omega, hc (m + j) (by omega)]
      simp [List.getD_eq_getElem?_getD, List.getElem?_drop]
theorem Rd.cell {w : World} {b off c : Nat} {xs : List Int} (h : Rd w (some ⟨b, off, none⟩) c xs) (j : Nat) (hj : j < xs.length) : w.cell? ⟨b, off + j, none⟩ = some (.int .u8 (xs.getD j 0)) := by
  obtain ⟨b', off', e, hc⟩ := h.cells (by omega)
  cases e
  exact hc j hj
theorem Rd.new (w : World) (xs : List Int) (hm : xs.length ≤ 9223372036854775807) (t : TypeId) (fr : Nat × Nat) : Rd (w.alloc (.cells (w8 xs) t fr)) (some ⟨w.heap.size, 0, none⟩) xs.length xs :=
  ⟨Nat.le_refl _, hm, by simp, fun _ => ⟨_, 0, rfl, fun j hj => by rw [Nat.zero_add]; exact cell_new rfl (w8_get xs j hj)⟩⟩
theorem Rd.new1 (w : World) (x : Int) (t : TypeId) (fr : Nat × Nat) : Rd (w.alloc (.cells #[.int .u8 x] t fr)) (some ⟨w.heap.size, 0, none⟩) 1 [x] := Rd.new w [x] (by simp) t fr
/-- A store at a cell that holds no byte. -/
theorem Rd.setCell {w : World} {A : Option Addr} {c : Nat} {xs : List Int} (h : Rd w A c xs) {b i : Nat} {v : Value} (hv : w.cell? ⟨b, i, none⟩ = some v) (hp : ∀ x, v ≠ .int .u8 x) (u : Value) : Rd (w.setCell ⟨b, i, none⟩ u) A c xs :=
  ⟨h.le, h.big, h.nil, fun h0 => by
    obtain ⟨b', off, e, hc⟩ := h.cells h0
    refine ⟨b', off, e, fun j hj => ?_⟩
    have h1 := hc j hj
    have hne : ¬ (b = b' ∧ i = off + j) := by
      rintro ⟨rfl, rfl⟩
      rw [h1] at hv
      exact hp _ (Option.some.inj hv).symm
    rw [← h1]
    by_cases hb : b = b'
    · subst hb
      have hi : i ≠ off + j := fun e => hne ⟨rfl, e⟩
      simp only [World.cell?, World.setCell, Array.getElem?_modify, if_true]
      cases hh : w.heap[b]? with
      | none => rfl
      | some o => cases o <;> simp [Array.getElem?_setIfInBounds, hi]
    · exact World.cell?_of_block (Below.heap_setCell _ _ _ _ (fun e => hb e.symm))⟩
/-- 'x[m:]': the address is a letter. -/
theorem cut_lo (A : Option Addr) (n c m : Nat) (hm : m ≤ n) : ∃ A' : Option Addr, (∀ (kl : IntKind) (W : World), (Instr.slice 22 (.slice A n c) (some (.int kl (m : Int))) none none).run Tryd.prog W = .ok (.slice A' (n - m) (c - m)) W) ∧
    (∀ (w : World) (xs : List Int), xs.length = n → Rd w A c xs → Rd w A' (c - m) (xs.drop m)) ∧ (∀ a, A' = some a → ∃ a0, A = some a0 ∧ a0.block = a.block) := by
  refine ⟨if c = m then A else A.map (·.add m), fun kl W => ?_, fun w xs hl h => h.drop m (by omega), fun a e => ?_⟩
  · have hel : Tryd.prog.elem 22 = 5 := by simp [Program.elem, Tryd.underlying22]
    have hu : Tryd.prog.underlying 22 = some (.slice (Tryd.prog.elem 22)) := by rw [hel]; exact Tryd.underlying22
    have hs : (Tryd.prog.info? 5).map (·.size) = some 1 := by kernel_rfl
    obtain ⟨i, hi, hi1⟩ := Option.map_eq_some_iff.1 hs
    rw [run_slice_l W 22 A n c hu kl (m : Int) (Int.natCast_nonneg _) (by omega), hel]
    simp [sizeOf, typeInfo, hi, hi1, sliced, Result.andThen]
  · split at e
    · exact ⟨a, e, rfl⟩
    · obtain ⟨a0, h0, rfl⟩ := Option.map_eq_some_iff.1 e
      refine ⟨a0, h0, ?_⟩
      unfold Addr.add
      split <;> rfl
/-- 'x[l:h]'. -/
theorem cut_lh (A : Option Addr) (n c l h : Nat) (hl : l ≤ h) (hh : h ≤ c) : ∃ A' : Option Addr, (∀ (kl kh : IntKind) (W : World), (Instr.slice 22 (.slice A n c) (some (.int kl (l : Int))) (some (.int kh (h : Int))) none).run Tryd.prog W = .ok (.slice A' (h - l) (c - l)) W) ∧
    (∀ (w : World) (xs : List Int), h ≤ xs.length → Rd w A c xs → Rd w A' (c - l) ((xs.take h).drop l)) ∧ (∀ a, A' = some a → ∃ a0, A = some a0 ∧ a0.block = a.block) := by
  refine ⟨if c = l then A else A.map (·.add l), fun kl kh W => ?_, fun w xs hx hr => (hr.take h hx).drop l (by simp; omega), fun a e => ?_⟩
  · have hel : Tryd.prog.elem 22 = 5 := by simp [Program.elem, Tryd.underlying22]
    have hu : Tryd.prog.underlying 22 = some (.slice (Tryd.prog.elem 22)) := by rw [hel]; exact Tryd.underlying22
    have hs : (Tryd.prog.info? 5).map (·.size) = some 1 := by kernel_rfl
    obtain ⟨i, hi, hi1⟩ := Option.map_eq_some_iff.1 hs
    rw [run_slice_lh W 22 A n c hu kl kh (l : Int) (h : Int) (Int.natCast_nonneg _) (by omega) (by omega), hel]
    simp [sizeOf, typeInfo, hi, hi1, sliced, Result.andThen]
  · split at e
    · exact ⟨a, e, rfl⟩
    · obtain ⟨a0, h0, rfl⟩ := Option.map_eq_some_iff.1 e
      refine ⟨a0, h0, ?_⟩
      unfold Addr.add
      split <;> rfl

/-- 'x[:n:n]'. -/
theorem cut_full (A : Option Addr) (n c : Nat) (hn : n ≤ c) (kh km : IntKind) (W : World) : (Instr.slice 22 (.slice A n c) none (some (.int kh (n : Int))) (some (.int km (n : Int)))).run Tryd.prog W = .ok (.slice A n n) W := by
  have hel : Tryd.prog.elem 22 = 5 := by simp [Program.elem, Tryd.underlying22]
  have hu : Tryd.prog.underlying 22 = some (.slice (Tryd.prog.elem 22)) := by rw [hel]; exact Tryd.underlying22
  have hs : (Tryd.prog.info? 5).map (·.size) = some 1 := by kernel_rfl
  obtain ⟨i, hi, hi1⟩ := Option.map_eq_some_iff.1 hs
  have ha : A.map (·.add 0) = A := by cases A <;> simp [Addr.add]
  rw [run_slice_hm W 22 A n c hu kh km (n : Int) (n : Int) (Int.natCast_nonneg _) (Int.le_refl _) (by omega), hel]
  simp [sizeOf, typeInfo, hi, hi1, sliced, Result.andThen, ha]
/-! ### a slice of bytes that is owned -/
def bytes (xs : List Int) : List Value := xs.map (Value.int .u8)
def Own (w : World) (base : Nat) (v : Value) (xs : List Int) : Prop := w.ownsRow base 5 1 v xs.length (bytes xs)
theorem bytes_len (xs : List Int) : (bytes xs).length = xs.length := by simp [bytes]
theorem Own.nil (w : World) (base : Nat) : Own w base (.slice none 0 0) [] := World.ownsRow_nil _ _ _ _
theorem Own.rd {w : World} {base : Nat} {v : Value} {xs : List Int} (h : Own w base v xs) : ∃ A c, v = .slice A xs.length c ∧ Rd w A c xs ∧ (∀ a, A = some a → base ≤ a.block ∧ v.ownBlock = some a.block) := by
  rcases h.2 with ⟨rfl, hn⟩ | ⟨g, cap, cur, rfl, hb, hg, hle, hmx, hs, htk⟩
  · have : xs = [] := List.eq_nil_of_length_eq_zero hn
    subst this
    exact ⟨none, 0, rfl, Rd.none_ _, by simp⟩
  · refine ⟨some ⟨g, 0, none⟩, cap, rfl, ⟨hle, by simpa [maxLen] using hmx, by simp, fun hp => ⟨g, 0, rfl, fun j hj => ?_⟩⟩, fun a e => by cases e; exact ⟨hb, rfl⟩⟩
    have hc := World.ownsRow.cells h (g := g) rfl j (.int .u8 (xs.getD j 0)) (by simp [bytes, hj])
    have ha : (⟨g, 0, none⟩ : Addr).add j = ⟨g, 0 + j, none⟩ := by unfold Addr.add; split <;> simp_all
    rwa [ha] at hc
theorem Own.lower {w : World} {base base' : Nat} {v : Value} {xs : List Int} (h : Own w base v xs) (hb : base' ≤ base) : Own w base' v xs := by
  refine ⟨h.1, ?_⟩
  rcases h.2 with h2 | ⟨g, cap, cur, rfl, h1, r⟩
  · exact .inl h2
  · exact .inr ⟨g, cap, cur, rfl, by omega, r⟩
theorem Own.keep {w w' : World} {base : Nat} {v : Value} {xs : List Int} (h : Own w base v xs) (hk : ∀ g, v.ownBlock = some g → g < w.heap.size → w'.heap[g]? = w.heap[g]?) : Own w' base v xs := by
  refine ⟨h.1, ?_⟩
  rcases h.2 with h2 | ⟨g, cap, cur, rfl, h1, hg, r⟩
  · exact .inl h2
  · exact .inr ⟨g, cap, cur, rfl, h1, (hk g rfl (blk_lt hg)).trans hg, r⟩
theorem Own.below {w w' : World} {base : Nat} {v : Value} {xs : List Int} (h : Own w base v xs) (hb : Below w.heap.size w w') : Own w' base v xs := h.keep fun g _ hl => hb.block g hl
theorem Own.kp {S : List Nat} {w w' : World} {base : Nat} {v : Value} {xs : List Int} (h : Own w base v xs) (hb : Kp S w w') (hS : ∀ g, v.ownBlock = some g → g ∉ S) : Own w' base v xs := h.keep fun g e hl => hb.block g hl (hS g e)
theorem Own.alloc {w : World} {base : Nat} {v : Value} {xs : List Int} (h : Own w base v xs) (o : Obj) : Own (w.alloc o) base v xs := h.below ((Below.refl _ _).alloc (Nat.le_refl _) _)
theorem Own.drewN {w : World} {base : Nat} {v : Value} {xs : List Int} (h : Own w base v xs) (n : Nat) : Own (w.drewN n) base v xs := h.keep fun _ _ _ => rfl
theorem Own.ne {w : World} {base : Nat} {v : Value} {xs : List Int} (h : Own w base v xs) {b : Nat} {cs : Array Value} {t : TypeId} {f : Nat × Nat} (hb : w.heap[b]? = some (.cells cs t f)) (ht : t ≠ 5) : v.ownBlock ≠ some b := by
  rcases h.2 with ⟨rfl, _⟩ | ⟨g, cap, cur, rfl, _, hg, _⟩
  · simp [Value.ownBlock]
  · intro e
    simp only [Value.ownBlock, Option.some.injEq] at e
    exact blk_ne hb hg ht e.symm
theorem Own.lt {w : World} {base : Nat} {v : Value} {xs : List Int} (h : Own w base v xs) : ∀ g, v.ownBlock = some g → base ≤ g ∧ g < w.heap.size := World.ownsRow.lt h
theorem Own.setCell {w : World} {base : Nat} {v : Value} {xs : List Int} (h : Own w base v xs) {p : Addr} (hp : v.ownBlock ≠ some p.block) (u : Value) : Own (w.setCell p u) base v xs :=
  h.keep fun g e _ => Below.heap_setCell _ _ _ _ (fun e' => hp (by rw [e, e']))
/-- A new row, whole. -/
theorem Own.new (w : World) (base : Nat) (xs : List Int) (hb : base ≤ w.heap.size) (hm : xs.length ≤ 9223372036854775807) : Own (w.alloc (.cells (w8 xs) 5)) base (.slice (some ⟨w.heap.size, 0, none⟩) xs.length xs.length) xs :=
  ⟨by simp [bytes], .inr ⟨w.heap.size, xs.length, w8 xs, rfl, hb, heap_alloc_new _ _, Nat.le_refl _, by simpa [maxLen] using hm, by simp [w8], by simpa [w8, bytes] using List.take_of_length_le (by simp)⟩⟩

section
variable {P : Program} {ops : Array Oper} {rest : List Oper} {o : Oper} {a : Act} {Q : Exit → Act → World → Prop}
theorem infoU8 : (Tryd.prog.info? 5).map (fun i => (i.zero, i.size, i.bytes)) = some (some (.int .u8 0), 1, 1) := by kernel_rfl

/-- 'append(v, x...)', v owned, x whatever is read. -/
theorem app_rd {w : World} (hgd : o.guard = none) (s x : Operand) (ho : o.op = .call { callee := .builtin .append, args := #[s, x], argTypes := #[22, 22] })
    (base : Nat) (v : Value) (xs : List Int) (hs : a.eval s = v) (hown : Own w base v xs) (A : Option Addr) (c m : Nat) (ys : List Int) (hx : a.eval x = .slice A m c) (hm : m = ys.length) (hr : Rd w A c ys)
    (nl : Nat) (hnl : nl = xs.length + ys.length) (hl : xs.length + ys.length ≤ 140737488355328) (hbase : base ≤ w.heap.size)
    (h : ∀ (A' : Option Addr) (c' : Nat) (w' : World), Own w' base (.slice A' nl c') (xs ++ ys) → w.grownBy w' v.ownBlock → ((Value.slice A' nl c').ownBlock = v.ownBlock ∨ (Value.slice A' nl c').ownBlock = some w.heap.size) → wpList Tryd.prog ops Q rest (a.put o.dst (.slice A' nl c')) w') :
    wpList Tryd.prog ops Q (o :: rest) a w := by
  obtain ⟨i0, hi, hz0, hz1, hz2⟩ := info_parts infoU8
  subst hm
  subst hnl
  have h : ∀ v' w', Own w' base v' (xs ++ ys) → w.grownBy w' v.ownBlock → (v'.ownBlock = v.ownBlock ∨ v'.ownBlock = some w.heap.size) → wpList Tryd.prog ops Q rest (a.put o.dst v') w' := fun v' w' h1 h2 h3 => by
    obtain ⟨A', c', rfl, _⟩ := h1.rd
    rw [List.length_append] at h1 h3 ⊢
    exact h A' c' w' h1 h2 h3
  cases A with
  | none =>
    have hc := hr.nil rfl
    subst hc
    have hy : ys = [] := List.eq_nil_of_length_eq_zero (by have := hr.le; omega)
    subst hy
    refine wpList_append_own_none hgd s x 22 ho base 5 i0 1 Tryd.underlying22 hi v _ _ hs hown hx ?_
    have := h v w (by simpa using hown) ⟨rfl, rfl, rfl, Nat.le_refl _, fun _ _ _ => rfl⟩ (.inl rfl)
    exact this
  | some ad =>
    refine wpList_append_own_at w hgd s x 22 ho base 5 i0 (.int .u8 0) 1 1 Tryd.underlying22 hi hz0 hz1 hz2 rfl (by decide) v _ _ hs hown ad ys.length c (bytes ys) hx (by simp [bytes]) ?_ (by simp [bytes, Value.oneCell']) (by simp only [maxLen]; omega) (by omega) hbase ?_
    · intro j u hj
      have hjl : j < ys.length := by
        have := (List.getElem?_eq_some_iff.1 hj).1
        simpa [bytes] using this
      obtain ⟨b, off, e, hc⟩ := hr.cells (by omega)
      cases e
      have ha : (⟨b, off, none⟩ : Addr).add j = ⟨b, off + j, none⟩ := by unfold Addr.add; split <;> simp_all
      rw [ha, hc j hjl]
      simp [bytes, hjl] at hj
      simp [hj, hjl]
    · intro v' w' h1 h2 _ h4
      exact h v' w' (by simpa [Own, bytes] using h1) h2 h4

theorem run_append_zero {P : Program} (w : World) (t ty e : TypeId) (i : TypeInfo) (ht : P.underlying t = some (.slice e)) (hi : P.info? e = some i) (A : Option Addr) (n c : Nat) (hn : n ≤ c) (B : Option Addr) (c2 : Nat) :
    (Builtin.append_ #[t, t] ty #[.slice A n c, .slice B 0 c2]).run P w = .ok (.slice A n c) w := by
  cases A <;> cases B <;> simp [Builtin.append_, run_underlying ht, sizeOf, typeInfo, hi, Builtin.lenOf, hn, Builtin.firstCells, loadCells, loadCellsFrom, storeCells]

theorem app_run {P : Program} {w w' : World} {v' : Value} (hgd : o.guard = none) (s x : Operand) (t : TypeId) (ho : o.op = .call { callee := .builtin .append, args := #[s, x], argTypes := #[t, t] }) (vs vx : Value) (hs : a.eval s = vs) (hx : a.eval x = vx)
    (hrun : (Builtin.append_ #[t, t] o.type #[vs, vx]).run P w = .ok v' w') (h : wpList P ops Q rest (a.put o.dst v') w') : wpList P ops Q (o :: rest) a w := by
  refine wpList_plain hgd fun K hK => ?_
  unfold Oper.wp execOp
  simp only [ho, resolve, invoke, builtin, Sem.run_bind, Sem.run_pure, Result.andThen_ok, List.map_toArray, List.map_cons, List.map_nil, hs, hx, hrun]
  exact hK _ _ h
/-- 'append(v[:n:n], x...)': v whatever is read, without room. -/
theorem app_full {w : World} (hgd : o.guard = none) (s x : Operand) (ho : o.op = .call { callee := .builtin .append, args := #[s, x], argTypes := #[22, 22] })
    (A1 : Option Addr) (n : Nat) (xs : List Int) (hs : a.eval s = .slice A1 n n) (hn : n = xs.length) (hr1 : Rd w A1 n xs) (A : Option Addr) (c m : Nat) (ys : List Int) (hx : a.eval x = .slice A m c) (hm : m = ys.length) (hr : Rd w A c ys)
    (nl : Nat) (hnl : nl = xs.length + ys.length) (hl : xs.length + ys.length ≤ 140737488355328)
    (h : ∀ (A' : Option Addr) (c' : Nat) (w' : World), Rd w' A' c' (xs ++ ys) → Below w.heap.size w w' → (A' = A1 ∨ A' = some ⟨w.heap.size, 0, none⟩) → wpList Tryd.prog ops Q rest (a.put o.dst (.slice A' nl c')) w') :
    wpList Tryd.prog ops Q (o :: rest) a w := by
  obtain ⟨i0, hi, hz0, hz1, hz2⟩ := info_parts infoU8
  subst hm
  subst hnl
  subst hn
  by_cases hy : ys.length = 0
  · obtain rfl : ys = [] := List.eq_nil_of_length_eq_zero hy
    exact app_run hgd s x 22 ho _ _ hs hx (run_append_zero w 22 o.type 5 i0 Tryd.underlying22 hi A1 _ _ (Nat.le_refl _) A c) (h A1 xs.length w (by simpa using hr1) (Below.refl _ _) (.inl rfl))
  · obtain ⟨b, off, rfl, hc⟩ := hr.cells (by omega)
    have hnews : ∀ j u, (bytes ys)[j]? = some u → w.cell? ((⟨b, off, none⟩ : Addr).add j) = some u := by
      intro j u hj
      have hjl : j < ys.length := by simpa [bytes] using (List.getElem?_eq_some_iff.1 hj).1
      have ha : (⟨b, off, none⟩ : Addr).add j = ⟨b, off + j, none⟩ := by unfold Addr.add; split <;> simp_all
      rw [ha, hc j hjl]
      simp [bytes, hjl] at hj
      simp [hj, hjl]
    have hread : ∀ (cs : Array Value) (cap : Nat), xs.length + ys.length ≤ cap → cap ≤ 9223372036854775807 → cs.toList.take (xs.length + ys.length) = bytes xs ++ bytes ys → Rd (w.drew.alloc (.cells cs 5)) (some ⟨w.heap.size, 0, none⟩) cap (xs ++ ys) := by
      intro cs cap h1 h2 h3
      refine ⟨by simpa using h1, h2, by simp, fun _ => ⟨_, 0, rfl, fun j hj => ?_⟩⟩
      rw [Nat.zero_add]
      refine cell_new (W := w.drew) rfl ?_
      have h4 : (cs.toList.take (xs.length + ys.length))[j]? = some (.int .u8 ((xs ++ ys).getD j 0)) := by
        rw [h3, show bytes xs ++ bytes ys = (xs ++ ys).map (Value.int .u8) from List.map_append.symm, List.getElem?_map]
        have : (xs ++ ys)[j]? = some ((xs ++ ys).getD j 0) := by simp [List.getD_eq_getElem?_getD, List.getElem?_eq_getElem hj]
        rw [this]; rfl
      rw [List.getElem?_take] at h4
      split at h4
      · simpa using h4
      · cases h4
    have hcap : ∀ old, grownCap w (xs.length + ys.length) old 5 ≤ 9223372036854775807 := fun old => by
      have := grownCap_le_maxLen w (xs.length + ys.length) old 5 (by simp only [maxLen]; omega)
      simpa only [maxLen] using this
    cases A1 with
    | none =>
      have h0 := hr1.nil rfl
      obtain rfl : xs = [] := List.eq_nil_of_length_eq_zero h0
      have hrun := run_append_nil (P := Tryd.prog) w 22 o.type 5 i0 (.int .u8 0) Tryd.underlying22 hi hz0 ⟨b, off, none⟩ ys.length c (bytes ys) (by rw [hz1]; simp [bytes]) hnews (by omega) (by simp at hl; omega) (by rw [hz2]; simp at hl; omega)
      refine app_run hgd s x 22 ho _ _ hs hx hrun ?_
      have hz := hread ((bytes ys).toArray ++ Builtin.zeroCells (Value.int IntKind.u8 0).cells (grownCap w ys.length 0 5 - ys.length)) (grownCap w ys.length 0 5) (by simpa using grownCap_ge w ys.length 0 5) (by simpa using hcap 0) (by
        simp only [List.length_nil, Nat.zero_add, Array.toList_append, bytes, List.map_nil, List.nil_append]
        exact List.take_left' (by simp))
      have := h (some ⟨w.heap.size, 0, none⟩) (grownCap w ys.length 0 5) _ hz (((Below.refl _ w).drew).alloc (Nat.le_refl _) _) (.inr rfl)
      rw [List.length_nil, Nat.zero_add] at this
      exact this
    | some ad =>
      have holds : ∀ j u, (bytes xs)[j]? = some u → w.cell? (ad.add j) = some u := by
        intro j u hj
        have hjl : j < xs.length := by simpa [bytes] using (List.getElem?_eq_some_iff.1 hj).1
        obtain ⟨b1, off1, e, hc1⟩ := hr1.cells (by omega)
        cases e
        have ha : (⟨b1, off1, none⟩ : Addr).add j = ⟨b1, off1 + j, none⟩ := by unfold Addr.add; split <;> simp_all
        rw [ha, hc1 j hjl]
        simp [bytes, hjl] at hj
        simp [hj, hjl]
      have hrun := run_append_grow (P := Tryd.prog) w 22 o.type 5 i0 (.int .u8 0) Tryd.underlying22 hi hz0 ad xs.length xs.length (bytes xs) (by rw [hz1]; simp [bytes]) holds ⟨b, off, none⟩ ys.length c (bytes ys) (by rw [hz1]; simp [bytes]) hnews (by omega) (by omega) (growslice_fits (by omega) (by rw [hz2]; omega))
      refine app_run hgd s x 22 ho _ _ hs hx hrun ?_
      have hz := hread ((bytes xs).toArray ++ (bytes ys).toArray ++ Builtin.zeroCells (Value.int IntKind.u8 0).cells (grownCap w (xs.length + ys.length) xs.length 5 - (xs.length + ys.length))) (grownCap w (xs.length + ys.length) xs.length 5) (grownCap_ge w _ _ _) (hcap _) (by
        simp only [Array.toList_append]
        exact List.take_left' (by simp [bytes]))
      exact h (some ⟨w.heap.size, 0, none⟩) (grownCap w (xs.length + ys.length) xs.length 5) _ hz (((Below.refl _ w).drew).alloc (Nat.le_refl _) _) (.inr rfl)
end
end Go.Proofs.YtiboflejmnjdhaaDoor
end
section
set_option linter.unusedVariables false
set_option linter.unusedSimpArgs false
namespace Go.Proofs.YtiboflejmnjdhaaDoor
open Go Go.RowKit
def setAll (cs : Array Value) : Nat → List Value → Array Value
  | _, [] => cs
  | o, v :: r => setAll (cs.setIfInBounds o v) (o + 1) r
theorem blk_setCells {b : Nat} {t : TypeId} {fr : Nat × Nat} : ∀ (vs : List Value) (o : Nat) (cs : Array Value) (w : World), w.heap[b]? = some (.cells cs t fr) → (w.setCells b o vs).heap[b]? = some (.cells (setAll cs o vs) t fr)
  | [], _, _, _, h => h
  | v :: r, o, cs, w, h => by
    rw [World.setCells, setAll]
    exact blk_setCells r (o + 1) _ _ (blk_set h o v)
theorem setAll_list (Y : List Value) : ∀ (vs xs pre : List Value), xs.length = vs.length → setAll (pre ++ xs ++ Y).toArray pre.length vs = (pre ++ vs ++ Y).toArray
  | [], xs, pre, h => by
    obtain rfl : xs = [] := List.eq_nil_of_length_eq_zero h
    simp [setAll]
  | v :: r, [], pre, h => by simp at h
  | v :: r, x :: xs, pre, h => by
    rw [setAll]
    have h1 := setAll_list Y r xs (pre ++ [v]) (by simpa using h)
    simp only [List.append_assoc, List.cons_append, List.nil_append, List.length_append, List.length_cons, List.length_nil, Nat.zero_add] at h1 ⊢
    rw [← h1]
    congr 1
    simp
theorem setAll_head (xs ys : Array Value) (Y : Array Value) (h : xs.size = ys.size) : setAll (xs ++ Y) 0 ys.toList = ys ++ Y := by
  have := setAll_list Y.toList ys.toList xs.toList [] (by simpa using h)
  have e : xs ++ Y = (xs.toList ++ Y.toList).toArray := by simp
  have e2 : ys ++ Y = (ys.toList ++ Y.toList).toArray := by simp
  rw [e, e2]
  simpa using this
theorem Kp.setCells {S : List Nat} {a : World} {b : Nat} : ∀ (vs : List Value) (o : Nat) {w : World}, Kp S a w → (b < a.heap.size → b ∈ S) → Kp S a (w.setCells b o vs)
  | [], _, _, h, _ => h
  | v :: r, o, w, h, hp => by rw [World.setCells]; exact Kp.setCells r (o + 1) (h.setCell (p := ⟨b, o, none⟩) hp v) hp
theorem there_row {w : World} {b : Nat} {cs : Array Value} {t : TypeId} (h : w.heap[b]? = some (.cells cs t (0, 0))) (o n : Nat) (hn : o + n ≤ cs.size) : w.there b o n := fun j hj => by
  refine ⟨?_, frozen_row h _⟩
  rw [blk_cell h (o + j) (v := cs[o + j]'(by omega)) (by simp)]
  rfl
theorem alloc_drew {w wd : World} {o : Obj} (h : (w.alloc o).drew = wd) : Below w.heap.size w wd ∧ wd.heap[w.heap.size]? = some o := by
  subst h
  exact ⟨((Below.refl w.heap.size w).alloc (Nat.le_refl _) _).drew, new_at (W := w) rfl⟩
/-- Bytes that are read lie in no block of words. -/
theorem Rd.setRow {W : World} {A : Option Addr} {c : Nat} {xs : List Int} (h : Rd W A c xs) {g : Nat} {ws : List Int} {t : TypeId} {fr : Nat × Nat} (hg : W.heap[g]? = some (.cells (w32 ws) t fr)) (cs : Array Value) : Rd (W.setRow g cs) A c xs :=
  ⟨h.le, h.big, h.nil, fun hp => by
    obtain ⟨b, off, e, hc⟩ := h.cells hp
    refine ⟨b, off, e, fun j hj => ?_⟩
    have h1 := hc j hj
    have hne : b ≠ g := by
      rintro rfl
      simp only [World.cell?, hg] at h1
      by_cases hl : off + j < ws.length
      · simp [w32, hl] at h1
      · simp [w32, hl] at h1
    exact (World.cell?_of_block (setRow_other _ _ _ _ hne)).trans h1⟩
section
variable {P : Program} {o : Oper} {a : Act} {W : World}
theorem yields_load_row (ty : TypeId) (x : Operand) (ho : o.op = .load ty x) (g : Nat) (hx : a.eval x = .pointer (some ⟨g, 0, none⟩)) (t : TypeId) (cs : Array Value) (fr : Nat × Nat) (d : TypeDesc) (hg : W.heap[g]? = some (.cells cs t fr))
    (hu : P.underlying ty = some d) (hd : (match d with | .struct _ | .array _ _ => true | _ => false) = true) (hi : (P.info? ty).map (·.size) = some cs.size) : (execOp a.eval o).run P W = .ok (.value (.agg cs)) W := by
  unfold execOp
  simp only [ho, hx, Instr.loadAt, Instr.sureAddr, Sem.run_bind, Sem.run_pure, Result.andThen_ok, run_loadVar_row W g t ty cs fr d hg hu hd hi]
theorem yields_load_mid (ty : TypeId) (x : Operand) (ho : o.op = .load ty x) (b i : Nat) (hx : a.eval x = .pointer (some ⟨b, i, none⟩)) (cs : List Value) (d : TypeDesc) (hc : W.rangeAt b i cs)
    (hu : P.underlying ty = some d) (hd : d.isRow = true) (hi : (P.info? ty).map (·.size) = some cs.length) : (execOp a.eval o).run P W = .ok (.value (.agg cs.toArray)) W := by
  unfold execOp
  simp only [ho, hx, Instr.loadAt, Instr.sureAddr, Sem.run_bind, Sem.run_pure, Result.andThen_ok, run_loadVar_mid W b i ty cs d hc hu hd hi]
end
end Go.Proofs.YtiboflejmnjdhaaDoor
end
section
set_option linter.unusedVariables false
set_option linter.unusedSimpArgs false
namespace Go.Proofs.YtiboflejmnjdhaaDoor
open Go.RowKit

/-- slices.Clone: a row of its own, or nil. -/
theorem clone_any (A : Option Addr) (c : Nat) (xs : List Int) (w : World) (hr : Rd w A c xs) (hl : xs.length ≤ 140737488355328) :
    Calls Tryd.prog 33 #[.slice A xs.length c] w fun e w' => ∃ v, e = .returned v ∧ Own w' w.heap.size v xs ∧ Below w.heap.size w w' := by
  have hB := Below.refl w.heap.size w
  cases A with
  | none =>
    have hc := hr.nil rfl
    subst hc
    obtain rfl : xs = [] := List.eq_nil_of_length_eq_zero (by have := hr.le; omega)
    simp only [List.length_nil]
    have he := fun W => Lib.run_eql_slice_nil (P := Tryd.prog) W 22 5 none 0 0 0 0 Tryd.underlying22
    simp only [Option.isNone_none] at he
    clear hB hr hl
    go_enter Tryd.func33, Tryd.ntmps33
    go_wp2
    go_ret
    exact ⟨_, rfl, Own.nil _ _, Below.refl _ _⟩
  | some ad =>
    have he := fun W => Lib.run_eql_slice_nil (P := Tryd.prog) W 22 5 (some ad) xs.length c 0 0 Tryd.underlying22
    simp only [Option.isNone_some] at he
    have Hr := Lib.hid hr
    clear hr
    go_enter Tryd.func33, Tryd.ntmps33
    go_wp2_with (at_builtin; refine app_rd rfl _ _ rfl w.heap.size (.slice (some ⟨w.heap.size, 0, none⟩) 0 0) [] rfl (Own.new w w.heap.size [] (Nat.le_refl _) (by simp)) _ _ _ xs rfl rfl (Hr.out.alloc _) xs.length (by simp) (by simpa using hl) (by simp) ?_; intro A' c' w1 ho hg hat; have Ho := Lib.hid ho; have Hg := Lib.hid hg; clear ho hg hat)
    go_ret
    refine ⟨_, rfl, by simpa using Ho.out, ?_⟩
    exact (hB.alloc (Nat.le_refl _) _).grown Hg.out (by simp) (by simp [Value.ownBlock])

/-- cmp.Or of two noughts. -/
theorem or_zero (g : Nat) (w : World) (h0 : w.cell? ⟨g, 0, none⟩ = some (.int .i64 0)) (h1 : w.cell? ⟨g, 1, none⟩ = some (.int .i64 0)) :
    Calls Tryd.prog 89 #[.slice (some ⟨g, 0, none⟩) 2 2] w fun e w' => e = .returned (.int .i64 0) ∧ w = w' := by
  go_enter Tryd.func89, Tryd.ntmps89
  go_wp2
  go_loop [8] (fun i => ∃ k : Nat, k ≤ 2 ∧ i = .int .i64 k) (fun i => 2 - (intOf i).toNat)
  case atStart => exact ⟨0, by omega, rfl⟩
  case round =>
    obtain ⟨k, hk, rfl⟩ := hrel
    by_cases hlt : k < 2
    · have hc : w.cell? ⟨g, k, none⟩ = some (.int .i64 0) := by
        rcases (show k = 0 ∨ k = 1 by omega) with rfl | rfl <;> assumption
      clear h0 h1
      go_wp2
      go_round
      case rel => exact ⟨k + 1, by omega, by go_num⟩
      case measure => simp [intOf]; omega
    · go_wp2
      go_ret
      exact ⟨rfl, rfl⟩

/-- A writer that has written bs, and nothing is wrong. -/
structure IsW (w : World) (base wb : Nat) (bs : List Int) : Prop where
  low : base ≤ wb
  row : ∃ sv, w.heap[wb]? = some (.cells #[sv, .int .i64 0] 143 (0, 0)) ∧ Own w base sv bs
theorem IsW.below {w w' : World} {base wb : Nat} {bs : List Int} (h : IsW w base wb bs) (hb : Below w.heap.size w w') : IsW w' base wb bs := by
  obtain ⟨sv, h1, h2⟩ := h.row
  exact ⟨h.low, sv, below_at hb h1 (blk_lt h1), h2.below hb⟩

theorem write_new (w : World) : Calls Tryd.prog 41 #[] w fun e w' => e = .returned (.pointer (some ⟨w.heap.size, 0, none⟩)) ∧ w' = w.alloc (.cells #[.slice none 0 0, .int .i64 0] 143) := by
  go_enter Tryd.func41, Tryd.ntmps41
  go_wp2
  go_ret
  exact ⟨rfl, rfl⟩
theorem IsW.new (w : World) : IsW (w.alloc (.cells #[.slice none 0 0, .int .i64 0] 143)) w.heap.size w.heap.size [] := ⟨Nat.le_refl _, _, new_at rfl, Own.nil _ _⟩

theorem write_new2 (w : World) : Calls Tryd.prog 41 #[] w fun e w' => e = .returned (.pointer (some ⟨w.heap.size, 0, none⟩)) ∧ IsW w' w.heap.size w.heap.size [] ∧ Below w.heap.size w w' :=
  (write_new w).mono fun e w' h => ⟨h.1, by rw [h.2]; exact IsW.new w, by rw [h.2]; exact (Below.refl _ _).alloc (Nat.le_refl _) _⟩

theorem put_ok (base wb : Nat) (bs : List Int) (A : Option Addr) (c m : Nat) (xs : List Int) (w : World) (hw : IsW w base wb bs) (hm : m = xs.length) (hr : Rd w A c xs) (hl : bs.length + xs.length ≤ 140737488355328) :
    Calls Tryd.prog 69 #[.pointer (some ⟨wb, 0, none⟩), .int .i64 0, .slice A m c] w fun e w' => e = .returned (.pointer (some ⟨wb, 0, none⟩)) ∧ IsW w' base wb (bs ++ xs) ∧ Below base w w' := by
  obtain ⟨hlow, sv, hb, ho⟩ := hw
  have c0 : w.cell? ⟨wb, 0, none⟩ = some sv := by simp [World.cell?, hb]
  have c1 : w.cell? ⟨wb, 1, none⟩ = some (.int .i64 0) := by simp [World.cell?, hb]
  have f0 : w.frozen? ⟨wb, 0, none⟩ = false := frozen_row hb 0
  have f1 : w.frozen? ⟨wb, 1, none⟩ = false := frozen_row hb 1
  have hlt := blk_lt hb
  have hne := ho.ne hb (by decide)
  have Hb := Lib.hid hb
  have Ho := Lib.hid ho
  have Hr := Lib.hid hr
  have Hne := Lib.hid hne
  have Hm := Lib.hid hm
  obtain ⟨A0, c0', rfl, hr0, hat⟩ := ho.rd
  clear hb ho hr hne hr0 hat hm
  go_enter Tryd.func69, Tryd.ntmps69
  have Hr1 : Hid (Rd ((w.setCell ⟨wb, 1, none⟩ (.int .i64 0)).alloc (.cells #[.int .i64 0, .int .i64 0] 34)) A c xs) := Lib.hid ((Hr.out.setCell c1 (by simp) _).alloc _)
  have Ho1 : Hid (Own ((w.setCell ⟨wb, 1, none⟩ (.int .i64 0)).alloc (.cells #[.int .i64 0, .int .i64 0] 34)) base (.slice A0 bs.length c0') bs) := Lib.hid ((Ho.out.setCell Hne.out _).alloc _)
  go_wp2_with (first | (go_at_call 89; refine (or_zero _ _ (cell_new rfl rfl) (cell_new rfl rfl)).mono ?_; rintro e w' ⟨rfl, rfl⟩) | (at_builtin; go_must (refine app_rd rfl _ _ rfl base (.slice A0 bs.length c0') bs rfl Ho1.out A c m xs rfl Hm.out Hr1.out (bs.length + m) (by rw [Hm.out]) hl (by simp; omega) ?_; intro A' c' w1 ho hg hat; have hw1 : w1.heap[wb]? = some (.cells #[.slice A0 bs.length c0', .int .i64 0] 143 (0, 0)) := (hg.block wb (by simp; omega) (fun e => Hne.out e.symm)).trans (blk_alloc (blk_set Hb.out 1 _) _); have hc1 : w1.cell? ⟨wb, 0, none⟩ = some (.slice A0 bs.length c0') := blk_cell hw1 0 rfl; have hf1 : w1.frozen? ⟨wb, 0, none⟩ = false := frozen_row hw1 0; have Hw1 := Lib.hid hw1; have Ho2 := Lib.hid ho; have Hg := Lib.hid hg; clear ho hg hat hw1)))
  go_ret
  refine ⟨rfl, ⟨hlow, _, blk_set Hw1.out 0 _, Ho2.out.setCell (Ho2.out.ne Hw1.out (by decide)) _⟩, ?_⟩
  exact (((Below.refl base w).setCell (p := ⟨wb, 1, none⟩) hlow _).alloc (by simp; omega) _ |>.grown Hg.out (by simp; omega) (fun k hk => (Ho.out.lt k hk).1)).setCell (p := ⟨wb, 0, none⟩) hlow _

theorem raw_ok (base wb : Nat) (bs : List Int) (A : Option Addr) (c m : Nat) (xs : List Int) (w : World) (hw : IsW w base wb bs) (hm : m = xs.length) (hr : Rd w A c xs) (hl : bs.length + xs.length ≤ 140737488355328) :
    Calls Tryd.prog 42 #[.pointer (some ⟨wb, 0, none⟩), .slice A m c] w fun e w' => e = .returned (.pointer (some ⟨wb, 0, none⟩)) ∧ IsW w' base wb (bs ++ xs) ∧ Below base w w' := by
  have Hm := Lib.hid hm
  clear hm
  go_enter Tryd.func42, Tryd.ntmps42
  go_wp2_with (go_at_call 69; refine (put_ok base wb bs A c m xs w hw Hm.out hr hl).mono ?_; rintro e w' ⟨rfl, h1, h2⟩)
  go_ret
  exact ⟨rfl, h1, h2⟩

theorem wide_eight (w : World) : Calls Tryd.prog 70 #[.int .i64 8] w fun e w' => e = .returned (.bool true) ∧ w = w' := by
  go_enter Tryd.func70, Tryd.ntmps70
  go_wp2
  go_ret
  exact ⟨rfl, rfl⟩
theorem wide_one (w : World) : Calls Tryd.prog 70 #[.int .i64 1] w fun e w' => e = .returned (.bool true) ∧ w = w' := by
  go_enter Tryd.func70, Tryd.ntmps70
  go_wp2
  go_ret
  exact ⟨rfl, rfl⟩

/-- The first i bytes of n, written in eight. -/
def beTo (n : Int) (i : Nat) : List Int := (List.range i).map fun k => n / 2 ^ (8 * (7 - k)) % 256
theorem beTo_len (n : Int) (i : Nat) : (beTo n i).length = i := by simp [beTo]
theorem beTo_succ (n : Int) (i : Nat) : beTo n (i + 1) = beTo n i ++ [n / 2 ^ (8 * (7 - i)) % 256] := by simp [beTo, List.range_succ]

set_option maxHeartbeats 1000000 in
theorem num_eight (base wb : Nat) (bs : List Int) (n : Int) (w : World) (hw : IsW w base wb bs) (h0 : 0 ≤ n) (h1 : n ≤ 9007199254740991) (hl : bs.length ≤ 140737488355000) :
    Calls Tryd.prog 43 #[.pointer (some ⟨wb, 0, none⟩), .int .i64 8, .int .i64 n] w fun e w' => e = .returned (.pointer (some ⟨wb, 0, none⟩)) ∧ IsW w' base wb (bs ++ beTo n 8) ∧ Below base w w' := by
  have hz : (n / 18446744073709551616 != 0) = false := by rw [bne_eq_false_iff_eq]; omega
  have Hw := Lib.hid hw
  have hb : base ≤ w.heap.size := by obtain ⟨hlow, sv, h, _⟩ := hw; have := blk_lt h; omega
  clear hw
  go_enter Tryd.func43, Tryd.ntmps43
  go_wp2_with (first | (go_at_call 70; refine (wide_eight _).mono ?_; rintro e w' ⟨rfl, rfl⟩))
  go_loopw [7, 28] (fun v i wr => ∃ (k : Nat) (A : Option Addr) (c : Nat), k ≤ 8 ∧ i = .int .i64 k ∧ v = .slice A k c ∧ Hid (Own wr w.heap.size (.slice A k c) (beTo n k)) ∧ Below w.heap.size w wr) (fun _ i _ => 8 - (intOf i).toNat)
  case atStart => exact ⟨0, none, 0, by omega, rfl, rfl, Own.nil _ _, Below.refl _ _⟩
  case round =>
    obtain ⟨k, A, c, hk, rfl, rfl, Ho, hB⟩ := hrel
    by_cases hlt : k < 8
    · clear hz
      go_wp2_with (at_builtin; go_must (refine app_rd rfl _ _ rfl w.heap.size (.slice A k c) (beTo n k) rfl (Ho.out.alloc _) _ _ _ [n / 2 ^ (8 * (7 - k)) % 256] rfl rfl (Rd.new1 wr _ _ _) (k + 1) (by simp [beTo_len]) (by simp [beTo_len]; omega) (by simp; have := hB.size; omega) ?_; intro A' c' w1 ho hg hat; have Ho2 := Lib.hid ho; have Hg := Lib.hid hg; clear ho hg hat))
      go_roundw
      case rel => exact ⟨k + 1, A', c', by omega, by go_num, rfl, by rw [beTo_succ]; exact Ho2, (hB.alloc hB.size _).grown Hg.out (by simp; have := hB.size; omega) (fun j hj => (Ho.out.lt j hj).1)⟩
      case measure => simp [intOf]; omega
    · obtain rfl : k = 8 := by omega
      obtain ⟨_, _, hA, hr, _⟩ := Ho.out.rd
      cases hA
      have Hr := Lib.hid hr
      clear hr hz
      go_wp2_with (go_at_call 69; go_must (refine (put_ok base wb bs A c 8 (beTo n 8) wr (Hw.out.below hB) rfl Hr.out (by rw [beTo_len]; omega)).mono ?_; rintro e w' ⟨rfl, h1, h2⟩))
      go_ret
      exact ⟨rfl, h1, (hB.mono hb).trans h2⟩

set_option maxHeartbeats 1000000 in
theorem num_one (base wb : Nat) (bs : List Int) (n : Int) (w : World) (hw : IsW w base wb bs) (h0 : 0 ≤ n) (h1 : n < 256) (hl : bs.length ≤ 140737488355000) :
    Calls Tryd.prog 43 #[.pointer (some ⟨wb, 0, none⟩), .int .i64 1, .int .i64 n] w fun e w' => e = .returned (.pointer (some ⟨wb, 0, none⟩)) ∧ IsW w' base wb (bs ++ [n]) ∧ Below base w w' := by
  have hz : (n / 256 != 0) = false := by rw [bne_eq_false_iff_eq]; omega
  have Hw := Lib.hid hw
  have hb : base ≤ w.heap.size := by obtain ⟨hlow, sv, h, _⟩ := hw; have := blk_lt h; omega
  clear hw
  go_enter Tryd.func43, Tryd.ntmps43
  go_wp2_with (first | (go_at_call 70; refine (wide_one _).mono ?_; rintro e w' ⟨rfl, rfl⟩))
  go_loopw [7, 28] (fun v i wr => ∃ (k : Nat) (A : Option Addr) (c : Nat), k ≤ 1 ∧ i = .int .i64 k ∧ v = .slice A k c ∧ Hid (Own wr w.heap.size (.slice A k c) (if k = 0 then [] else [n])) ∧ Below w.heap.size w wr) (fun _ i _ => 1 - (intOf i).toNat)
  case atStart => exact ⟨0, none, 0, by omega, rfl, rfl, Own.nil _ _, Below.refl _ _⟩
  case round =>
    obtain ⟨k, A, c, hk, rfl, rfl, Ho, hB⟩ := hrel
    by_cases hlt : k < 1
    · obtain rfl : k = 0 := by omega
      clear hz
      have hn : n / 2 ^ (8 * (0 : Int)).toNat % 256 = n := by simp; omega
      have e1 : n % 256 = n := by omega
      go_wp2_with (at_builtin; go_must (refine app_rd rfl _ _ rfl w.heap.size (.slice A 0 c) [] rfl (Ho.out.alloc _) _ _ _ [n] rfl rfl (Rd.new1 wr _ _ _) 1 rfl (by simp) (by simp; have := hB.size; omega) ?_; intro A' c' w1 ho hg hat; have Ho2 := Lib.hid ho; have Hg := Lib.hid hg; clear ho hg hat))
      go_roundw
      case rel => exact ⟨1, A', c', by omega, by go_num, rfl, Ho2, (hB.alloc hB.size _).grown Hg.out (by simp; have := hB.size; omega) (fun j hj => (Ho.out.lt j hj).1)⟩
      case measure => simp [intOf]
    · obtain rfl : k = 1 := by omega
      obtain ⟨_, _, hA, hr, _⟩ := Ho.out.rd
      cases hA
      have Hr := Lib.hid hr
      clear hr hz
      go_wp2_with (go_at_call 69; go_must (refine (put_ok base wb bs A c 1 [n] wr (Hw.out.below hB) rfl Hr.out (by simp; omega)).mono ?_; rintro e w' ⟨rfl, h1, h2⟩))
      go_ret
      exact ⟨rfl, h1, (hB.mono hb).trans h2⟩

theorem bytes_ok (base wb : Nat) (bs : List Int) (w : World) (hw : IsW w base wb bs) (hl : bs.length ≤ 140737488355328) :
    Calls Tryd.prog 44 #[.pointer (some ⟨wb, 0, none⟩)] w fun e w' => ∃ v, e = .returned (.tuple #[v, .int .i64 0]) ∧ Own w' w.heap.size v bs ∧ Below w.heap.size w w' := by
  obtain ⟨hlow, sv, hb, ho⟩ := hw
  have c1 : w.cell? ⟨wb, 1, none⟩ = some (.int .i64 0) := blk_cell hb 1 rfl
  obtain ⟨A, c, rfl, hr, _⟩ := ho.rd
  have c0 : w.cell? ⟨wb, 0, none⟩ = some (.slice A bs.length c) := blk_cell hb 0 rfl
  have Hr := Lib.hid hr
  clear ho hb hr
  go_enter Tryd.func44, Tryd.ntmps44
  go_wp2_with (go_at_call 33; go_must (refine (clone_any A c bs w Hr.out hl).mono ?_; rintro e w' ⟨v, rfl, h1, h2⟩))
  go_ret2
  exact ⟨v, rfl, h1, h2⟩
end Go.Proofs.YtiboflejmnjdhaaDoor
end
