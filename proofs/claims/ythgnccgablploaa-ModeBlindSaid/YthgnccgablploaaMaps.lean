/- Maps by strings, and by a struct of a number and two strings: as lists of pairs. -/
import Derived.Test.YthgnccgablploaaMem
import Derived.Test.YthgnccgablploaaCells
import Derived.Laws.BytesArg
import Derived.MapKept
import Derived.Laws.StructEq
import Derived.KernelRfl
set_option linter.unusedVariables false
set_option linter.unusedSimpArgs false
namespace Go.Proofs.Ythgnccgablploaa
open Go Go.RowKit
/-- 'string(b)'. -/
theorem conv_str {w : World} {A : Option Addr} {c : Nat} {xs : List Int} (h : Rd w A c xs) (n : Nat) (hn : n = xs.length) : (convert 22 9 (.slice A n c)).run Try.prog w = .ok (.string (strOfNums xs)) w := by
  subst hn
  by_cases h0 : xs.length = 0
  · obtain rfl : xs = [] := List.eq_nil_of_length_eq_zero h0
    cases A with
    | none => rw [run_convert_bytes_nil w 22 5 Try.underlying22 Try.underlying5 _ _ 9 Try.underlying9]; rfl
    | some a =>
      obtain ⟨b, i, f⟩ := a
      rw [run_convert_bytes_string w 22 9 5 _ _ _ Try.underlying22 Try.underlying5 Try.underlying9]
      rw [List.length_nil, run_bytesToString w ⟨b, i, f⟩ 0 c [] (by simp [loadCells, loadCellsFrom])]
      rfl
  · obtain ⟨b, off, rfl, hc⟩ := h.cells (by omega)
    exact run_convert_bytes_arg w 22 5 Try.underlying22 Try.underlying5 b off _ c xs rfl hc 9 Try.underlying9
section
variable {K V : Type} [DecidableEq K]
def mget (k : K) : List (K × V) → Option V
  | [] => none
  | e :: m => if k = e.1 then some e.2 else mget k m
def mput (k : K) (v : V) : List (K × V) → List (K × V)
  | [] => [(k, v)]
  | e :: m => if k = e.1 then (e.1, v) :: m else e :: mput k v m
theorem mget_mput (k k' : K) (v : V) : ∀ m : List (K × V), mget k' (mput k v m) = if k' = k then some v else mget k' m
  | [] => by simp [mput, mget]
  | e :: m => by
    rw [mput]
    by_cases h : k = e.1
    · rw [if_pos h, mget, mget]
      by_cases h' : k' = e.1
      · rw [if_pos h', if_pos (h'.trans h.symm)]
      · rw [if_neg h', if_neg h', if_neg (fun e' => h' (e'.trans h))]
    · rw [if_neg h, mget, mget, mget_mput k k' v m]
      by_cases h' : k' = e.1
      · rw [if_pos h', if_pos h', if_neg (fun e' => h (e'.symm.trans h'))]
      · rw [if_neg h', if_neg h']
/-- Where the key stands. -/
def mfind (k : K) : List (K × V) → Nat → Option (Nat × V)
  | [], _ => none
  | e :: m, i => if k = e.1 then some (i, e.2) else mfind k m (i + 1)
theorem mfind_get (k : K) : ∀ (m : List (K × V)) (i : Nat), (mfind k m i).map (·.2) = mget k m
  | [], _ => rfl
  | e :: m, i => by
    rw [mfind, mget]
    split
    · rfl
    · exact mfind_get k m (i + 1)
/-- The map's block holds these pairs. -/
def IsM (w : World) (r : Nat) (kv : K → Value) (vv : V → Value) (m : List (K × V)) : Prop := ∃ es clock, w.heap[r]? = some (.map es clock) ∧ es.toList.map (fun e => (e.key, e.val)) = m.map fun e => (kv e.1, vv e.2)
end
theorem ba_beq (a b : ByteArray) : (a == b) = decide (a = b) := by
  by_cases h : a = b
  · subst h; rw [decide_eq_true rfl]; exact (by show (a.data == a.data) = true; simp)
  · rw [decide_eq_false h]; show (a.data == b.data) = false; rw [beq_eq_false_iff_ne]; exact fun e => h (ByteArray.ext e)
theorem findNow_str (k : ByteArray) {V : Type} (vv : V → Value) : ∀ (m : List (ByteArray × V)) (es : List MapEntry) (i : Nat), es.map (fun e => (e.key, e.val)) = m.map (fun e => (Value.string e.1, vv e.2)) →
    Instr.findNow .string (.string k) es i = some ((mfind k m i).map fun x => (x.1, vv x.2))
  | [], [], _, _ => rfl
  | [], _ :: _, _, h => by simp at h
  | _ :: _, [], _, h => by simp at h
  | e :: m, x :: es, i, h => by
    simp only [List.map_cons, List.cons.injEq, Prod.mk.injEq] at h
    obtain ⟨⟨h1, h2⟩, h3⟩ := h
    rw [Instr.findNow, h1, mfind]
    simp only [Instr.sameNow]
    by_cases hk : k = e.1
    · have : (k == e.1) = true := by rw [ba_beq, decide_eq_true hk]
      rw [this, if_pos hk, h2]; rfl
    · have : (k == e.1) = false := by rw [ba_beq, decide_eq_false hk]
      rw [this, if_neg hk]
      exact findNow_str k vv m es (i + 1) h3
theorem check_str (b : Bool) (n : Nat) (k : ByteArray) (w : World) : (Instr.checkKey b (n + 1) 9 (.string k)).run Try.prog w = .ok () w := by
  simp [Instr.checkKey, run_underlying Try.underlying9]
theorem find_str {V : Type} (vv : V → Value) (k : ByteArray) (m : List (ByteArray × V)) (es : List MapEntry) (h : es.map (fun e => (e.key, e.val)) = m.map (fun e => (Value.string e.1, vv e.2))) (w : World) :
    (Instr.findKey 9 (.string k) es).run Try.prog w = .ok ((mfind k m 0).map fun x => (x.1, vv x.2)) w := by
  simp [Instr.findKey, run_underlying Try.underlying9, findNow_str k vv m es 0 h]
/-- What a lookup yields. -/
def found {K V : Type} [DecidableEq K] (k : K) (m : List (K × V)) (vv : V → Value) (z : Value) : Value :=
  .tuple #[match mget k m with | some v => vv v | none => z, .bool (mget k m).isSome]
theorem found_find {K V : Type} [DecidableEq K] (k : K) (m : List (K × V)) (vv : V → Value) (z : Value) : found k m vv z = (match (mfind k m 0).map fun x => (x.1, vv x.2) with | some (_, v) => .tuple #[v, .bool true] | none => .tuple #[z, .bool false]) := by
  unfold found
  rw [← mfind_get k m 0]
  cases mfind k m 0 <;> rfl
theorem look_str {V : Type} (t te : TypeId) (ht : Try.prog.underlying t = some (.map 9 te)) (vv : V → Value) (z : Value) (k : ByteArray) (m : List (ByteArray × V)) (r : Nat) (w : World) (hm : IsM w r Value.string vv m) (hz : (zeroValue te).run Try.prog w = .ok z w) :
    (Instr.lookup t (.map (some r)) (.string k) true).run Try.prog w = .ok (found k m vv z) w := by
  obtain ⟨es, clock, hb, he⟩ := hm
  have h1 : (Instr.checkKey es.isEmpty 10000 9 (.string k)).run Try.prog w = .ok () w := check_str es.isEmpty 9999 k w
  have h0 : (getObj r).run Try.prog w = .ok (.map es clock) w := by simp [getObj, Sem.run, hb]
  have h2 := find_str vv k m es.toList he w
  rw [found_find]
  simp only [Instr.lookup, Sem.run_bind, run_underlying ht, Result.andThen_ok, h0, Sem.run_pure, h1, h2]
  cases (mfind k m 0).map fun x => (x.1, vv x.2) with
  | none => simp [hz]
  | some x => simp
theorem look_nil {V : Type} (t te : TypeId) (ht : Try.prog.underlying t = some (.map 9 te)) (z : Value) (k : ByteArray) (w : World) (hz : (zeroValue te).run Try.prog w = .ok z w) :
    (Instr.lookup t (.map none) (.string k) true).run Try.prog w = .ok (.tuple #[z, .bool false]) w := by
  have h1 : (Instr.checkKey true 10000 9 (.string k)).run Try.prog w = .ok () w := check_str true 9999 k w
  have h2 := find_str (V := Unit) (fun _ => undef) k [] [] rfl w
  simp only [mfind, Option.map_none] at h2
  simp only [Instr.lookup, Sem.run_bind, run_underlying ht, Result.andThen_ok, Sem.run_pure]
  simp [h1, h2, hz]
/-- What an update leaves of the pairs, by where the key stands. -/
theorem mput_find {K V : Type} [DecidableEq K] (k : K) (v : V) : ∀ (m : List (K × V)) (i : Nat), match mfind k m i with
    | some (j, _) => ∃ p, j = i + p ∧ p < m.length ∧ (∀ e, m[p]? = some e → e.1 = k ∧ mput k v m = m.set p (e.1, v))
    | none => mput k v m = m ++ [(k, v)]
  | [], i => rfl
  | e :: m, i => by
    rw [mfind]
    by_cases h : k = e.1
    · rw [if_pos h]
      refine ⟨0, rfl, by simp, fun x hx => ?_⟩
      simp at hx
      subst hx
      exact ⟨h.symm, by rw [mput, if_pos h]; rfl⟩
    · rw [if_neg h]
      have ih := mput_find k v m (i + 1)
      cases hf : mfind k m (i + 1) with
      | none =>
        rw [hf] at ih
        show mput k v (e :: m) = _
        rw [mput, if_neg h, ih]; rfl
      | some x =>
        rw [hf] at ih
        obtain ⟨j, x2⟩ := x
        obtain ⟨p, h1, h2, h3⟩ := ih
        refine ⟨p + 1, by omega, by simp; omega, fun y hy => ?_⟩
        have := h3 y (by simpa using hy)
        exact ⟨this.1, by rw [mput, if_neg h, this.2]; rfl⟩
def setMap (w : World) (r : Nat) (es : Array MapEntry) (clock : Nat) : World := { w with heap := w.heap.setIfInBounds r (.map es clock) }
theorem keyStays_str (k : ByteArray) (w : World) : (Instr.keyThatStays (.string k) (.string k)).run Try.prog w = .ok (.string k) w := by
  have : Instr.sameBits 10000 (.string k) (.string k) = true := by simp [Instr.sameBits, ba_beq]
  simp [Instr.keyThatStays, this]
theorem run_setMap {w : World} {r : Nat} {es : Array MapEntry} {c : Nat} (h : w.heap[r]? = some (.map es c)) (es' : Array MapEntry) (c' : Nat) : (setObj r (.map es' c')).run Try.prog w = .ok () (setMap w r es' c') := by
  simp [setObj, Sem.run, h, setMap]
theorem upd_str {V : Type} (t te : TypeId) (ht : Try.prog.underlying t = some (.map 9 te)) (vv : V → Value) (k : ByteArray) (v : V) (m : List (ByteArray × V)) (r : Nat) (w : World) (hm : IsM w r Value.string vv m) :
    ∃ es clock, (Instr.mapUpdate t (.map (some r)) (.string k) (vv v)).run Try.prog w = .ok () (setMap w r es clock) ∧ es.toList.map (fun e => (e.key, e.val)) = (mput k v m).map fun e => (Value.string e.1, vv e.2) := by
  obtain ⟨es, clock, hb, he⟩ := hm
  have h1 : (Instr.checkKey false 10000 9 (.string k)).run Try.prog w = .ok () w := check_str false 9999 k w
  have h0 : (getObj r).run Try.prog w = .ok (.map es clock) w := by simp [getObj, Sem.run, hb]
  have h2 := find_str vv k m es.toList he w
  have h3 := mput_find k v m 0
  cases hf : mfind k m 0 with
  | none =>
    rw [hf] at h2 h3
    refine ⟨es.push { key := .string k, val := vv v, born := clock }, clock + 1, ?_, ?_⟩
    · simp only [Instr.mapUpdate, Sem.run_bind, run_underlying ht, Result.andThen_ok, h0, h1, h2, Option.map_none, run_setMap hb]
    · rw [Array.toList_push, List.map_append, he, h3]; simp
  | some x =>
    obtain ⟨j, x2⟩ := x
    rw [hf] at h2 h3
    obtain ⟨p, hj, hp, hq⟩ := h3
    obtain rfl : j = p := by omega
    have hlen : es.toList.length = m.length := by have := congrArg List.length he; simpa using this
    have hes : j < es.size := by simpa using (show j < es.toList.length by omega)
    have hk : (es[j]).key = .string k := by
      have h5 : (es.toList.map (fun e => (e.key, e.val)))[j]? = (m.map fun e => (Value.string e.1, vv e.2))[j]? := by rw [he]
      have h6 := (hq m[j] (by simp [hp])).1
      simp [hes, hp] at h5
      rw [h5.1, h6]
    refine ⟨es.modify j fun e => { e with key := .string k, val := vv v }, clock, ?_, ?_⟩
    · simp only [Instr.mapUpdate, Sem.run_bind, run_underlying ht, Result.andThen_ok, h0, h1, h2, Option.map_some]
      simp [hes, hk, keyStays_str, run_setMap hb]
    · rw [(hq m[j] (by simp [hp])).2]
      have h6 := (hq m[j] (by simp [hp])).1
      apply List.ext_getElem?
      intro i
      have h5 : (es.toList.map (fun e => (e.key, e.val)))[i]? = (m.map fun e => (Value.string e.1, vv e.2))[i]? := by rw [he]
      simp only [List.getElem?_map, Array.getElem?_toList, Array.getElem?_modify, List.getElem?_set] at h5 ⊢
      by_cases hij : j = i
      · subst hij
        simp [hes, hp, h6]
      · simp only [if_neg hij]
        exact h5
/-- A box's key. -/
def kvb (k : Int × ByteArray × ByteArray) : Value := .agg #[.int .i64 k.1, .string k.2.1, .string k.2.2]
theorem eq_box (k k' : Int × ByteArray × ByteArray) (w : World) : (Op.equal 96 (kvb k) (kvb k')).run Try.prog w = .ok (decide (k = k')) w := by
  have hp : Try.prog.stoodInHeld 96 = false := by kernel_rfl
  have hu : Try.prog.underlying 96 = some (.struct (Try.prog.fieldsOf 96)) := by simp [Program.fieldsOf, Try.underlying96]
  have e : Op.equal 96 (kvb k) (kvb k') = Op.equalIn (9998 + 1 + 1) 96 (kvb k) (kvb k') := rfl
  obtain ⟨e1, h1, b1⟩ := k
  obtain ⟨e2, h2, b2⟩ := k'
  rw [e, kvb, kvb, run_equalIn_struct w _ _ _ _ hu hp]
  have p1 : ∀ (a : Int) (b c : ByteArray), (part 3 #[.int .i64 a, .string b, .string c] 0).run Try.prog w = .ok (.int .i64 a) w := fun a b c => by simp [part, isAgg, run_underlying Try.underlying3]
  have p2 : ∀ (a : Int) (b c : ByteArray), (part 9 #[.int .i64 a, .string b, .string c] 1).run Try.prog w = .ok (.string b) w := fun a b c => by simp [part, isAgg, run_underlying Try.underlying9]
  have p3 : ∀ (a : Int) (b c : ByteArray), (part 9 #[.int .i64 a, .string b, .string c] 2).run Try.prog w = .ok (.string c) w := fun a b c => by simp [part, isAgg, run_underlying Try.underlying9]
  have q1 : (Op.equalIn 9999 3 (.int .i64 e1) (.int .i64 e2)).run Try.prog w = .ok (e1 == e2) w := run_equalIn_int w 9998 _ _ _ _ _ Try.underlying3
  have q2 : ∀ a b : ByteArray, (Op.equalIn 9999 9 (.string a) (.string b)).run Try.prog w = .ok (decide (a = b)) w := fun a b => by
    have := run_equalIn_string w 9998 9 a b Try.underlying9
    rw [← beq_toListBytes, ba_beq] at this
    exact this
  simp [Program.fieldsOf, Try.underlying96, Op.eqFields, p1, p2, p3, q1, q2]
  by_cases h1' : e1 = e2 <;> by_cases h2' : h1 = h2 <;> by_cases h3' : b1 = b2 <;> simp [h1', h2', h3']
theorem ask_box {V : Type} (vv : V → Value) (k : Int × ByteArray × ByteArray) (w : World) : ∀ (m : List ((Int × ByteArray × ByteArray) × V)) (es : List MapEntry) (i : Nat), es.map (fun e => (e.key, e.val)) = m.map (fun e => (kvb e.1, vv e.2)) →
    (Instr.findAsking 96 (kvb k) es i).run Try.prog w = .ok ((mfind k m i).map fun x => (x.1, vv x.2)) w
  | [], [], _, _ => rfl
  | [], _ :: _, _, h => by simp at h
  | _ :: _, [], _, h => by simp at h
  | e :: m, x :: es, i, h => by
    simp only [List.map_cons, List.cons.injEq, Prod.mk.injEq] at h
    obtain ⟨⟨h1, h2⟩, h3⟩ := h
    rw [Instr.findAsking, h1, mfind]
    simp only [Sem.run_bind, eq_box, Result.andThen_ok]
    by_cases hk : k = e.1
    · rw [if_pos hk, h2]; simp [hk]
    · rw [if_neg hk]
      simp only [decide_eq_false hk, Bool.false_eq_true, if_false]
      exact ask_box vv k w m es (i + 1) h3
theorem find_box {V : Type} (vv : V → Value) (k : Int × ByteArray × ByteArray) (m : List ((Int × ByteArray × ByteArray) × V)) (es : List MapEntry) (h : es.map (fun e => (e.key, e.val)) = m.map (fun e => (kvb e.1, vv e.2))) (w : World) :
    (Instr.findKey 96 (kvb k) es).run Try.prog w = .ok ((mfind k m 0).map fun x => (x.1, vv x.2)) w := by
  have hn : es = [] ∨ Instr.findNow (.struct (Try.prog.fieldsOf 96)) (kvb k) es 0 = none := by
    cases es with
    | nil => exact .inl rfl
    | cons e es => right; cases m with
      | nil => simp at h
      | cons x m =>
        simp only [List.map_cons, List.cons.injEq, Prod.mk.injEq] at h
        rw [Instr.findNow, h.1.1]
        rfl
  have hu : Try.prog.underlying 96 = some (.struct (Try.prog.fieldsOf 96)) := by simp [Program.fieldsOf, Try.underlying96]
  rcases hn with rfl | hn
  · cases m with
    | nil => simp [Instr.findKey, run_underlying hu, Instr.findNow, mfind]
    | cons x m => simp at h
  · simp only [Instr.findKey, Sem.run_bind, run_underlying hu, Result.andThen_ok, hn]
    exact ask_box vv k w m es 0 h
theorem check_int (b : Bool) (n : Nat) (e : Int) (w : World) : (Instr.checkKey b (n + 1) 3 (.int .i64 e)).run Try.prog w = .ok () w := by
  simp [Instr.checkKey, run_underlying Try.underlying3]
theorem check_box (b : Bool) (k : Int × ByteArray × ByteArray) (w : World) : (Instr.checkKey b 10000 96 (kvb k)).run Try.prog w = .ok () w := by
  obtain ⟨e1, h1, b1⟩ := k
  show (Instr.checkKey b (9998 + 1 + 1) 96 (kvb (e1, h1, b1))).run Try.prog w = .ok () w
  have p1 : (part 3 #[.int .i64 e1, .string h1, .string b1] 0).run Try.prog w = .ok (.int .i64 e1) w := by simp [part, isAgg, run_underlying Try.underlying3]
  have p2 : (part 9 #[.int .i64 e1, .string h1, .string b1] 1).run Try.prog w = .ok (.string h1) w := by simp [part, isAgg, run_underlying Try.underlying9]
  have p3 : (part 9 #[.int .i64 e1, .string h1, .string b1] 2).run Try.prog w = .ok (.string b1) w := by simp [part, isAgg, run_underlying Try.underlying9]
  have c1 : (Instr.checkKey b (9998 + 1) 3 (.int .i64 e1)).run Try.prog w = .ok () w := check_int b 9998 e1 w
  have c2 := fun k => check_str b 9998 k w
  rw [Instr.checkKey, kvb]
  simp [run_underlying Try.underlying96, p1, p2, p3, c1, c2]
theorem look_box {V : Type} (t te : TypeId) (ht : Try.prog.underlying t = some (.map 96 te)) (vv : V → Value) (z : Value) (k : Int × ByteArray × ByteArray) (m : List ((Int × ByteArray × ByteArray) × V)) (r : Nat) (w : World) (hm : IsM w r kvb vv m) (hz : (zeroValue te).run Try.prog w = .ok z w) :
    (Instr.lookup t (.map (some r)) (kvb k) true).run Try.prog w = .ok (found k m vv z) w := by
  obtain ⟨es, clock, hb, he⟩ := hm
  have h1 : (Instr.checkKey es.isEmpty 10000 96 (kvb k)).run Try.prog w = .ok () w := check_box es.isEmpty k w
  have h0 : (getObj r).run Try.prog w = .ok (.map es clock) w := by simp [getObj, Sem.run, hb]
  have h2 := find_box vv k m es.toList he w
  rw [found_find]
  simp only [Instr.lookup, Sem.run_bind, run_underlying ht, Result.andThen_ok, h0, Sem.run_pure, h1, h2]
  cases (mfind k m 0).map fun x => (x.1, vv x.2) with
  | none => simp [hz]
  | some x => simp
theorem look_boxnil {V : Type} (t te : TypeId) (ht : Try.prog.underlying t = some (.map 96 te)) (z : Value) (k : Int × ByteArray × ByteArray) (w : World) (hz : (zeroValue te).run Try.prog w = .ok z w) :
    (Instr.lookup t (.map none) (kvb k) true).run Try.prog w = .ok (.tuple #[z, .bool false]) w := by
  have h1 : (Instr.checkKey true 10000 96 (kvb k)).run Try.prog w = .ok () w := check_box true k w
  have h2 := find_box (V := Unit) (fun _ => undef) k [] [] rfl w
  simp only [mfind, Option.map_none] at h2
  simp only [Instr.lookup, Sem.run_bind, run_underlying ht, Result.andThen_ok, Sem.run_pure]
  simp [h1, h2, hz]
theorem keyStays_box (k : Int × ByteArray × ByteArray) (w : World) : (Instr.keyThatStays (kvb k) (kvb k)).run Try.prog w = .ok (kvb k) w := by
  have : Instr.sameBits (9999 + 1) (kvb k) (kvb k) = true := by simp [kvb, Instr.sameBits, ba_beq]
  have : Instr.sameBits 10000 (kvb k) (kvb k) = true := this
  simp [Instr.keyThatStays, this]
theorem upd_box {V : Type} (t te : TypeId) (ht : Try.prog.underlying t = some (.map 96 te)) (vv : V → Value) (k : Int × ByteArray × ByteArray) (v : V) (m : List ((Int × ByteArray × ByteArray) × V)) (r : Nat) (w : World) (hm : IsM w r kvb vv m) :
    ∃ es clock, (Instr.mapUpdate t (.map (some r)) (kvb k) (vv v)).run Try.prog w = .ok () (setMap w r es clock) ∧ es.toList.map (fun e => (e.key, e.val)) = (mput k v m).map fun e => (kvb e.1, vv e.2) := by
  obtain ⟨es, clock, hb, he⟩ := hm
  have h1 : (Instr.checkKey false 10000 96 (kvb k)).run Try.prog w = .ok () w := check_box false k w
  have h0 : (getObj r).run Try.prog w = .ok (.map es clock) w := by simp [getObj, Sem.run, hb]
  have h2 := find_box vv k m es.toList he w
  have h3 := mput_find k v m 0
  cases hf : mfind k m 0 with
  | none =>
    rw [hf] at h2 h3
    refine ⟨es.push { key := kvb k, val := vv v, born := clock }, clock + 1, ?_, ?_⟩
    · simp only [Instr.mapUpdate, Sem.run_bind, run_underlying ht, Result.andThen_ok, h0, h1, h2, Option.map_none, run_setMap hb]
    · rw [Array.toList_push, List.map_append, he, h3]; simp
  | some x =>
    obtain ⟨j, x2⟩ := x
    rw [hf] at h2 h3
    obtain ⟨p, hj, hp, hq⟩ := h3
    obtain rfl : j = p := by omega
    have hlen : es.toList.length = m.length := by have := congrArg List.length he; simpa using this
    have hes : j < es.size := by simpa using (show j < es.toList.length by omega)
    have hk : (es[j]).key = kvb k := by
      have h5 : (es.toList.map (fun e => (e.key, e.val)))[j]? = (m.map fun e => (kvb e.1, vv e.2))[j]? := by rw [he]
      have h6 := (hq m[j] (by simp [hp])).1
      simp [hes, hp] at h5
      rw [h5.1, h6]
    refine ⟨es.modify j fun e => { e with key := kvb k, val := vv v }, clock, ?_, ?_⟩
    · simp only [Instr.mapUpdate, Sem.run_bind, run_underlying ht, Result.andThen_ok, h0, h1, h2, Option.map_some]
      simp [hes, hk, keyStays_box, run_setMap hb]
    · rw [(hq m[j] (by simp [hp])).2]
      have h6 := (hq m[j] (by simp [hp])).1
      apply List.ext_getElem?
      intro i
      have h5 : (es.toList.map (fun e => (e.key, e.val)))[i]? = (m.map fun e => (kvb e.1, vv e.2))[i]? := by rw [he]
      simp only [List.getElem?_map, Array.getElem?_toList, Array.getElem?_modify, List.getElem?_set] at h5 ⊢
      by_cases hij : j = i
      · subst hij
        simp [hes, hp, h6]
      · simp only [if_neg hij]
        exact h5
end Go.Proofs.Ythgnccgablploaa
