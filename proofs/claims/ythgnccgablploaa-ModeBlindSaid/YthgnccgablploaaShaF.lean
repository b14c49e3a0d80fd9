/- The digest in plain Lean, as the program's own arithmetic spells it: numbers and lists alone. -/
import Derived.RowKit
set_option linter.unusedVariables false
namespace Go.Proofs.Ythgnccgablploaa
open Go

/-- A word turned right by n. -/
def rot (x n : Int) : Int := bits .or .u32 (x / 2 ^ n.toNat) (x * 2 ^ (32 - n).toNat % 4294967296)
def shaWord (bs : List Int) (k : Nat) : Int :=
  bits BinOp.or IntKind.u32 (bits BinOp.or IntKind.u32 (bits BinOp.or IntKind.u32 (bs.getD (4 * k) 0 % 4294967296 * 16777216 % 4294967296) (bs.getD (4 * k + 1) 0 % 4294967296 * 65536 % 4294967296))
    (bs.getD (4 * k + 2) 0 % 4294967296 * 256 % 4294967296)) (bs.getD (4 * k + 3) 0 % 4294967296)
def shaMix (ws : List Int) (k : Nat) : Int :=
  (bits BinOp.xor IntKind.u32 (bits BinOp.xor IntKind.u32 (rot (ws.getD (k - 2) 0) 17) (rot (ws.getD (k - 2) 0) 19)) (ws.getD (k - 2) 0 / 1024) + ws.getD (k - 7) 0 +
    bits BinOp.xor IntKind.u32 (bits BinOp.xor IntKind.u32 (rot (ws.getD (k - 15) 0) 7) (rot (ws.getD (k - 15) 0) 18)) (ws.getD (k - 15) 0 / 8) + ws.getD (k - 16) 0) % 4294967296
/-- The 64 words, after k of them are made. -/
def shaSched (bs : List Int) : Nat → List Int
  | 0 => List.replicate 64 0
  | k + 1 => if k < 16 then (shaSched bs k).set k (shaWord bs k) else (shaSched bs k).set k (shaMix (shaSched bs k) k)
theorem shaSched_len (bs : List Int) : ∀ k, (shaSched bs k).length = 64
  | 0 => by simp [shaSched]
  | k + 1 => by unfold shaSched; split <;> simp [shaSched_len bs k]
theorem shaSched_lo {bs : List Int} {k : Nat} (h : k < 16) : shaSched bs (k + 1) = (shaSched bs k).set k (shaWord bs k) := by rw [shaSched, if_pos h]
theorem shaSched_hi {bs : List Int} {k : Nat} (h : ¬ k < 16) : shaSched bs (k + 1) = (shaSched bs k).set k (shaMix (shaSched bs k) k) := by rw [shaSched, if_neg h]

/-- The eight words. -/
structure Eight where
  a : Int
  b : Int
  c : Int
  d : Int
  e : Int
  f : Int
  g : Int
  h : Int
def Eight.list (v : Eight) : List Int := [v.a, v.b, v.c, v.d, v.e, v.f, v.g, v.h]
def shaT (v : Eight) (k w : Int) : Int :=
  (v.h + bits BinOp.xor IntKind.u32 (bits BinOp.xor IntKind.u32 (rot v.e 6) (rot v.e 11)) (rot v.e 25) + bits BinOp.xor IntKind.u32 v.g (bits BinOp.and IntKind.u32 v.e (bits BinOp.xor IntKind.u32 v.f v.g)) + k + w) % 4294967296
def shaU (v : Eight) : Int :=
  (bits BinOp.xor IntKind.u32 (bits BinOp.xor IntKind.u32 (rot v.a 2) (rot v.a 13)) (rot v.a 22) + bits BinOp.or IntKind.u32 (bits BinOp.and IntKind.u32 v.a v.b) (bits BinOp.and IntKind.u32 v.c (bits BinOp.or IntKind.u32 v.a v.b))) % 4294967296
def shaRound (v : Eight) (k w : Int) : Eight := { a := (shaT v k w + shaU v) % 4294967296, b := v.a, c := v.b, d := v.c, e := (v.d + shaT v k w) % 4294967296, f := v.e, g := v.f, h := v.g }
def shaRounds (R ws : List Int) (v : Eight) : Nat → Eight
  | 0 => v
  | k + 1 => shaRound (shaRounds R ws v k) (R.getD k 0) (ws.getD k 0)
/-- v, the first k words of which have those of y added. -/
def shaSums (v y : List Int) : Nat → List Int
  | 0 => v
  | k + 1 => (shaSums v y k).set k (((shaSums v y k).getD k 0 + y.getD k 0) % 4294967296)
theorem shaSums_len (v y : List Int) : ∀ k, (shaSums v y k).length = v.length
  | 0 => rfl
  | k + 1 => by simp [shaSums, shaSums_len v y k]
def Eight.of (l : List Int) : Eight := { a := l.getD 0 0, b := l.getD 1 0, c := l.getD 2 0, d := l.getD 3 0, e := l.getD 4 0, f := l.getD 5 0, g := l.getD 6 0, h := l.getD 7 0 }
theorem Eight.of_list (l : List Int) (h : l.length = 8) : (Eight.of l).list = l := by
  match l, h with
  | [_, _, _, _, _, _, _, _], _ => rfl
/-- A block of 64 bytes, summed up. -/
def shaTake (R : List Int) (v : List Int) (bs : List Int) : List Int := shaSums v (shaRounds R (shaSched bs 64) (Eight.of v) 64).list 8
theorem shaTake_len (R v bs : List Int) : (shaTake R v bs).length = v.length := shaSums_len _ _ _
/-- The eight words behind j blocks of all. -/
def shaV (R v all : List Int) : Nat → List Int
  | 0 => v
  | j + 1 => shaTake R (shaV R v all j) (all.drop (64 * j))
theorem shaV_len (R v all : List Int) : ∀ j, (shaV R v all j).length = v.length
  | 0 => rfl
  | j + 1 => by rw [shaV, shaTake_len, shaV_len R v all j]
end Go.Proofs.Ythgnccgablploaa
