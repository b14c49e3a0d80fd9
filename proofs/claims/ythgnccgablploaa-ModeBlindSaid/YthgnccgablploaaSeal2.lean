/- Texts and boxes that came in; what a mode's table holds. -/
import Derived.Test.YthgnccgablploaaSeal1
import Derived.BigQuiet
set_option linter.unusedVariables false
set_option linter.unusedSimpArgs false
set_option maxRecDepth 100000
namespace Go.Proofs.Ythgnccgablploaa
open Go Go.RowKit Go.Conc
/-- A text that came in. -/
structure Tx where
  ep : Int
  hA : Option Addr
  hc : Nat
  hd : List Int
  pA : Option Addr
  pc : Nat
  pl : List Int
def Tx.val (t : Tx) : Array Value := tval t.ep t.hA t.hd.length t.hc t.pA t.pl.length t.pc
structure Tx.ok (w : World) (t : Tx) : Prop where
  lo : -9223372036854775808 ≤ t.ep
  hi : t.ep ≤ 9223372036854775807
  hd : Rd w t.hA t.hc t.hd
  pl : Rd w t.pA t.pc t.pl
theorem Tx.ok.below {w w' : World} {t : Tx} (h : t.ok w) (hb : Below w.heap.size w w') : t.ok w' := ⟨h.lo, h.hi, h.hd.below hb, h.pl.below hb⟩
/-- Texts that are read. -/
structure RdT (w : World) (A : Option Addr) (n c : Nat) (ts : List Tx) : Prop where
  len : n = ts.length
  le : n ≤ c
  big : c ≤ 9223372036854775807
  cells : 0 < n → ∃ b off, A = some ⟨b, off, none⟩ ∧ b < w.heap.size ∧ ∀ j (h : j < ts.length), w.rangeAt b (off + j * 3) ts[j].val.toList
  ok : ∀ t ∈ ts, t.ok w
theorem RdT.below {w w' : World} {A : Option Addr} {n c : Nat} {ts : List Tx} (h : RdT w A n c ts) (hb : Below w.heap.size w w') : RdT w' A n c ts := by
  refine ⟨h.len, h.le, h.big, fun h0 => ?_, fun t ht => (h.ok t ht).below hb⟩
  obtain ⟨b, off, e, hlt, hc⟩ := h.cells h0
  refine ⟨b, off, e, Nat.lt_of_lt_of_le hlt hb.size, fun j hj i v hv => ?_⟩
  exact (hb.cell (p := ⟨b, off + j * 3 + i, none⟩) hlt).trans (hc j hj i v hv)
theorem RdT.take {w : World} {A : Option Addr} {n c : Nat} {ts : List Tx} (h : RdT w A n c ts) (m : Nat) (hm : m ≤ n) : RdT w A m c (ts.take m) := by
  have hl := h.len
  refine ⟨by simp; omega, by have := h.le; omega, h.big, fun h0 => ?_, fun t ht => h.ok t (List.mem_of_mem_take ht)⟩
  obtain ⟨b, off, e, hlt, hc⟩ := h.cells (by omega)
  refine ⟨b, off, e, hlt, fun j hj => ?_⟩
  simp only [List.length_take] at hj
  have := hc j (by omega)
  simpa using this
/-- A slice of bytes, as a value. -/
structure Sl where
  A : Option Addr
  c : Nat
  xs : List Int
def Sl.val (s : Sl) : Value := .slice s.A s.xs.length s.c
/-- Slices that are read. -/
structure RdL (w : World) (A : Option Addr) (n c : Nat) (ss : List Sl) : Prop where
  len : n = ss.length
  le : n ≤ c
  big : c ≤ 9223372036854775807
  cells : 0 < n → ∃ b off, A = some ⟨b, off, none⟩ ∧ b < w.heap.size ∧ ∀ j (h : j < ss.length), w.cell? ⟨b, off + j, none⟩ = some ss[j].val
  ok : ∀ s ∈ ss, Rd w s.A s.c s.xs
theorem RdL.below {w w' : World} {A : Option Addr} {n c : Nat} {ss : List Sl} (h : RdL w A n c ss) (hb : Below w.heap.size w w') : RdL w' A n c ss := by
  refine ⟨h.len, h.le, h.big, fun h0 => ?_, fun s hs => (h.ok s hs).below hb⟩
  obtain ⟨b, off, e, hlt, hc⟩ := h.cells h0
  exact ⟨b, off, e, Nat.lt_of_lt_of_le hlt hb.size, fun j hj => (hb.cell (p := ⟨b, off + j, none⟩) hlt).trans (hc j hj)⟩
/-! ### what the table holds -/
def ksOf (t : Tx) (b : Sl) : BK := (t.ep % 256, strOfNums (t.hd.take 100), strOfNums b.xs)
/-- The table behind so many seals. -/
def bxOf (l : List (Tx × Sl)) : List (BK × ByteArray) := l.foldl (fun m x => mput (ksOf x.1 x.2) (strOfNums (x.1.pl.take 100)) m) []
theorem bxOf_snoc (l : List (Tx × Sl)) (x : Tx × Sl) : bxOf (l ++ [x]) = mput (ksOf x.1 x.2) (strOfNums (x.1.pl.take 100)) (bxOf l) := by simp [bxOf]
/-- The last one with that key, of the first j. -/
def lastJ (l : List (Tx × Sl)) (key : BK) : Nat → Int
  | 0 => -1
  | j + 1 => if (l[j]?).map (fun x => ksOf x.1 x.2) = some key then j else lastJ l key j
theorem lastJ_ge (l : List (Tx × Sl)) (key : BK) : ∀ j, -1 ≤ lastJ l key j ∧ lastJ l key j < j
  | 0 => by simp [lastJ]
  | j + 1 => by
    have := lastJ_ge l key j
    rw [lastJ]
    split
    · omega
    · omega
theorem lastJ_append (l r : List (Tx × Sl)) (key : BK) : ∀ j, j ≤ l.length → lastJ (l ++ r) key j = lastJ l key j
  | 0, _ => rfl
  | j + 1, h => by
    rw [lastJ, lastJ, lastJ_append l r key j (by omega), List.getElem?_append_left (by omega)]
theorem mget_bxOf (key : BK) (l : List (Tx × Sl)) : mget key (bxOf l) = if lastJ l key l.length < 0 then none else (l[(lastJ l key l.length).toNat]?).map (fun x => strOfNums (x.1.pl.take 100)) := by
  have hl : ∀ (n : Nat) (l : List (Tx × Sl)), l.length = n → mget key (bxOf l) = if lastJ l key l.length < 0 then none else (l[(lastJ l key l.length).toNat]?).map (fun x => strOfNums (x.1.pl.take 100)) := by
    intro n
    induction n with
    | zero =>
      intro l h
      obtain rfl : l = [] := List.eq_nil_of_length_eq_zero h
      rfl
    | succ n ih =>
      intro l h
      obtain ⟨r, x, rfl⟩ : ∃ r x, l = r ++ [x] := ⟨l.dropLast, l.getLast (by intro e; rw [e] at h; simp at h), (List.dropLast_concat_getLast _).symm⟩
      have hr : r.length = n := by simpa using h
      have hx : (r ++ [x])[r.length]? = some x := by simp
      have hg := lastJ_ge r key r.length
      rw [bxOf_snoc, mget_mput, List.length_append, List.length_singleton]
      by_cases hk : key = ksOf x.1 x.2
      · have hL : lastJ (r ++ [x]) key (r.length + 1) = r.length := by
          rw [lastJ, hx, Option.map_some, if_pos (by rw [hk])]
        rw [if_pos hk, hL, if_neg (by omega), Int.toNat_natCast, hx]
        rfl
      · have hL : lastJ (r ++ [x]) key (r.length + 1) = lastJ r key r.length := by
          rw [lastJ, hx, Option.map_some, if_neg (fun e => hk (Option.some.inj e).symm), lastJ_append r [x] key _ (Nat.le_refl _)]
        rw [if_neg hk, ih r hr, hL]
        by_cases h0 : lastJ r key r.length < 0
        · rw [if_pos h0, if_pos h0]
        · rw [if_neg h0, if_neg h0, List.getElem?_append_left (by omega)]
  exact hl _ l rfl
theorem strOf_len {xs ys : List Int} (h : strOfNums xs = strOfNums ys) : xs.length = ys.length := by
  have := congrArg ByteArray.size h
  rwa [strOfNums_size, strOfNums_size] at this
/-- A box that is too short was never sealed. -/
theorem lastJ_short (l : List (Tx × Sl)) (key : BK) (bs : List Int) (hk : key.2.2 = strOfNums bs) (hs : bs.length < 28) (hl : ∀ x ∈ l, 28 ≤ x.2.xs.length) : ∀ j, lastJ l key j = -1
  | 0 => rfl
  | j + 1 => by
    rw [lastJ, lastJ_short l key bs hk hs hl j, if_neg]
    intro h
    cases hx : l[j]? with
    | none => rw [hx] at h; cases h
    | some x =>
      rw [hx] at h
      simp only [Option.map_some, Option.some.injEq] at h
      have h2 : strOfNums x.2.xs = strOfNums bs := by rw [← hk, ← h]; rfl
      have := strOf_len h2
      have := hl x (List.mem_of_getElem? hx)
      omega
end Go.Proofs.Ythgnccgablploaa
