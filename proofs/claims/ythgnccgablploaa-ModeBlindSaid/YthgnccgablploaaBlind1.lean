/- ModeBlind: turned bytes, names that are the same, two modes side by side. -/
import Derived.Test.YthgnccgablploaaOpen1
import Derived.Laws.BitsLemmas
set_option linter.unusedVariables false
set_option linter.unusedSimpArgs false
set_option maxRecDepth 100000
namespace Go.Proofs.Ythgnccgablploaa
open Go Go.RowKit Go.Conc
theorem xor_eq (x t : Nat) (hx : x < 256) (ht : t < 256) : bits .xor .u8 (x : Int) (t : Int) = ((x ^^^ t : Nat) : Int) := by
  have h8 : IntKind.u8.bits = 8 := rfl
  have hlt : x ^^^ t < 256 := Nat.xor_lt_two_pow (n := 8) (by omega) (by omega)
  simp only [bits, BitVec.ofInt_natCast, BitVec.toNat_xor, BitVec.toNat_ofNat, h8]
  rw [Nat.mod_eq_of_lt (by omega), Nat.mod_eq_of_lt (by omega), IntKind.wrap_u8]
  omega
theorem turn_byt (t : Int) (ht : 0 ≤ t ∧ t < 256) (xs : List Int) (h : Byt xs) : Byt (turnL t xs) := by
  intro z hz
  simp only [turnL, List.mem_map] at hz
  obtain ⟨x, hx, rfl⟩ := hz
  obtain ⟨n, rfl⟩ : ∃ n : Nat, x = n := ⟨x.toNat, by have := h x hx; omega⟩
  obtain ⟨k, rfl⟩ : ∃ k : Nat, t = k := ⟨t.toNat, by omega⟩
  have h2 := h _ hx
  rw [xor_eq n k (by omega) (by omega)]
  have hlt : n ^^^ k < 256 := Nat.xor_lt_two_pow (n := 8) (by omega) (by omega)
  omega
theorem turn_turn (t : Int) (ht : 0 ≤ t ∧ t < 256) : ∀ (xs : List Int), Byt xs → turnL t (turnL t xs) = xs
  | [], _ => rfl
  | x :: xs, h => by
    have ih := turn_turn t ht xs (fun z hz => h z (by simp [hz]))
    have hx := h x (by simp)
    obtain ⟨n, rfl⟩ : ∃ n : Nat, x = n := ⟨x.toNat, by omega⟩
    obtain ⟨k, rfl⟩ : ∃ k : Nat, t = k := ⟨t.toNat, by omega⟩
    have hlt : n ^^^ k < 256 := Nat.xor_lt_two_pow (n := 8) (by omega) (by omega)
    show bits .xor .u8 (bits .xor .u8 (n : Int) k) k :: turnL k (turnL k xs) = _
    rw [ih, xor_eq n k (by omega) (by omega), xor_eq _ k hlt (by omega), Nat.xor_assoc, Nat.xor_self, Nat.xor_zero]
theorem strOf_inj : ∀ (xs ys : List Int), Byt xs → Byt ys → strOfNums xs = strOfNums ys → xs = ys := by
  intro xs ys hx hy h
  have h1 : (strOfNums xs).data.toList = (strOfNums ys).data.toList := by rw [h]
  rw [strOfNums_data, strOfNums_data] at h1
  clear h
  induction xs generalizing ys with
  | nil => cases ys with
    | nil => rfl
    | cons y ys => simp at h1
  | cons x xs ih => cases ys with
    | nil => simp at h1
    | cons y ys =>
      simp only [List.map_cons, List.cons.injEq] at h1
      have h2 := hx x (by simp)
      have h3 := hy y (by simp)
      have h4 := congrArg UInt8.toNat h1.1
      simp only [UInt8.toNat_ofNat'] at h4
      rw [ih ys (fun z hz => hx z (by simp [hz])) (fun z hz => hy z (by simp [hz])) h1.2]
      congr 1
      omega
theorem turn_str (t : Int) (ht : 0 ≤ t ∧ t < 256) (xs ys : List Int) (hx : Byt xs) (hy : Byt ys) : strOfNums (turnL t xs) = strOfNums (turnL t ys) ↔ strOfNums xs = strOfNums ys := by
  constructor
  · intro h
    have h1 := strOf_inj _ _ (turn_byt t ht xs hx) (turn_byt t ht ys hy) h
    have h2 := congrArg (turnL t) h1
    rw [turn_turn t ht xs hx, turn_turn t ht ys hy] at h2
    rw [h2]
  · intro h
    rw [strOf_inj _ _ hx hy h]
/-- Two modes of one tape, the names of one those of the other's turned keys. -/
structure Rel (t : Int) (sA sB : St) : Prop where
  left : sA.left = sB.left
  p : sA.p = sB.p
  at_ : sA.at_ = sB.at_
  nm : ∀ xs, Byt xs → mget (strOfNums xs) sA.nm = mget (strOfNums (turnL t xs)) sB.nm
theorem Rel.name {F R seed : List Int} {t : Int} {sA sB : St} (ht : 0 ≤ t ∧ t < 256) (h : Rel t sA sB) (k : List Int) (hk : Byt k) :
    (inm F R seed sA (strOfNums k)).1 = (inm F R seed sB (strOfNums (turnL t k))).1 ∧ Rel t (inm F R seed sA (strOfNums k)).2 (inm F R seed sB (strOfNums (turnL t k))).2 := by
  have hn := h.nm k hk
  unfold inm
  cases hA : mget (strOfNums k) sA.nm with
  | some v =>
    rw [hA] at hn
    rw [← hn]
    exact ⟨rfl, h⟩
  | none =>
    rw [hA] at hn
    rw [← hn, ← h.left, ← h.p, ← h.at_]
    refine ⟨rfl, ⟨rfl, rfl, rfl, fun xs hx => ?_⟩⟩
    simp only [mget_mput]
    by_cases he : strOfNums xs = strOfNums k
    · rw [if_pos he, if_pos ((turn_str t ht xs k hx hk).2 he)]
    · rw [if_neg he, if_neg (fun e => he ((turn_str t ht xs k hx hk).1 e)), h.nm xs hx]
theorem equalIn_same (d : Nat) (v : List Int) (w : World) (hv : v.length = 32) : (Op.equalIn (d + 2) 43 (.agg (w8 v)) (.agg (w8 v))).run Try.prog w = .ok true w := by
  have hsz : ∀ w, (sizeOf 5).run Try.prog w = .ok 1 w := by
    obtain ⟨i0, hi0, hz0, hz1, hz2⟩ := info_parts infoU8
    intro w
    simp [sizeOf, typeInfo, hi0, hz1]
  rw [Op.equalIn]
  simp only [Sem.run_bind, run_underlying Try.underlying43, Result.andThen_ok, hsz, Std.Legacy.Range.forIn_eq_forIn_range', Std.Legacy.Range.size, Nat.sub_zero, Nat.add_sub_cancel, Nat.div_one]
  have hl : ∀ i ∈ List.range' 0 32 1, i < 32 := fun i hi => by simpa using (List.mem_range'_1.1 hi).2
  generalize List.range' 0 32 1 = l at hl ⊢
  induction l with
  | nil => simp
  | cons i l ih =>
    have hi : i < 32 := hl i (by simp)
    have px : (part 5 (w8 v) (i * 1)).run Try.prog w = .ok (.int .u8 (v.getD i 0)) w := by
      have hg : (w8 v)[i]? = some (.int .u8 (v.getD i 0)) := w8_get v i (by omega)
      simp [part, isAgg, run_underlying Try.underlying5, hg]
    have pe : (Op.equalIn (d + 1) 5 (.int .u8 (v.getD i 0)) (.int .u8 (v.getD i 0))).run Try.prog w = .ok true w := by
      rw [run_equalIn_int w d 5 .u8 .u8 _ _ Try.underlying5]
      simp
    simp only [List.forIn_cons, Sem.run_bind, px, pe, Result.andThen_ok, Bool.not_true, Bool.false_eq_true, if_false, Sem.run_pure]
    exact ih fun j hj => hl j (by simp [hj])
theorem neq_same (v : List Int) (w : World) (hv : v.length = 32) : (binOp .neq 43 (.agg (w8 v)) (.agg (w8 v))).run Try.prog w = .ok (.bool false) w := by
  rw [run_neq_struct, equalIn_same 9998 v w hv]
  rfl
end Go.Proofs.Ythgnccgablploaa
