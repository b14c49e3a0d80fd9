/- Maps by strings, and by a struct of a number and two strings: as lists of pairs. -/
import Derived.Test.YtiboflejmnjdhaaDoorJB
import Derived.Laws.BytesArg
import Derived.MapKept
import Derived.Laws.StructEq
import Derived.KernelRfl
import Derived.Test.YtiboflejmnjdhaaDoorJG
section
set_option linter.unusedVariables false
set_option linter.unusedSimpArgs false
namespace Go.Proofs.YtiboflejmnjdhaaDoor
open Go Go.RowKit
/-- 'string(b)'. -/
theorem conv_str {w : World} {A : Option Addr} {c : Nat} {xs : List Int} (h : Rd w A c xs) (n : Nat) (hn : n = xs.length) : (convert 22 9 (.slice A n c)).run Tryd.prog w = .ok (.string (strOfNums xs)) w := by
  subst hn
  by_cases h0 : xs.length = 0
  · obtain rfl : xs = [] := List.eq_nil_of_length_eq_zero h0
    cases A with
    | none => rw [run_convert_bytes_nil w 22 5 Tryd.underlying22 Tryd.underlying5 _ _ 9 Tryd.underlying9]; rfl
    | some a =>
      obtain ⟨b, i, f⟩ := a
      rw [run_convert_bytes_string w 22 9 5 _ _ _ Tryd.underlying22 Tryd.underlying5 Tryd.underlying9]
      rw [List.length_nil, run_bytesToString w ⟨b, i, f⟩ 0 c [] (by simp [loadCells, loadCellsFrom])]
      rfl
  · obtain ⟨b, off, rfl, hc⟩ := h.cells (by omega)
    exact run_convert_bytes_arg w 22 5 Tryd.underlying22 Tryd.underlying5 b off _ c xs rfl hc 9 Tryd.underlying9
section
variable {K V : Type} [DecidableEq K]
def mget (k : K) : List (K × V) → Option V
  | [] => none
  | e :: m => if k = e.1 then some e.2 else mget k m
def mput (k : K) (v : V) : List (K × V) → List (K × V)
  | [] => [(k, v)]
  | e :: m => if k = e.1 then (e.1, v) :: m else e :: mput k v m
theorem mget_mput (k k' : K) (v : V) : ∀ m : List (K × V), mget k' (mput k v m) = if k' = k then some v else mget k' m
  | [] => by simp [mput, mget]
  | e :: m => by
    rw [mput]
    by_cases h : k = e.1
    · rw [if_pos h, mget, mget]
      by_cases h' : k' = e.1
      · rw [if_pos h', if_pos (h'.trans h.symm)]
      · rw [if_neg h', if_neg h', if_neg (fun e' => h' (e'.trans h))]
    · rw [if_neg h, mget, mget, mget_mput k k' v m]
      by_cases h' : k' = e.1
      · rw [if_pos h', if_pos h', if_neg (fun e' => h (e'.symm.trans h'))]
      · rw [if_neg h', if_neg h']
/-- Where the key stands. -/
def mfind (k : K) : List (K × V) → Nat → Option (Nat × V)
  | [], _ => none
  | e :: m, i => if k = e.1 then some (i, e.2) else mfind k m (i + 1)
theorem mfind_get (k : K) : ∀ (m : List (K × V)) (i : Nat), (mfind k m i).map (·.2) = mget k m
  | [], _ => rfl
  | e :: m, i => by
    rw [mfind, mget]
    split
    · rfl
    · exact mfind_get k m (i + 1)
/-- The map's block holds these pairs. -/
def IsM (w : World) (r : Nat) (kv : K → Value) (vv : V → Value) (m : List (K × V)) : Prop := ∃ es clock, w.heap[r]? = some (.map es clock) ∧ es.toList.map (fun e => (e.key, e.val)) = m.map fun e => (kv e.1, vv e.2)
end
theorem ba_beq (a b : ByteArray) : (a == b) = decide (a = b) := by
  by_cases h : a = b
  · subst h; rw [decide_eq_true rfl]; exact (by show (a.data == a.data) = true; simp)
  · rw [decide_eq_false h]; show (a.data == b.data) = false; rw [beq_eq_false_iff_ne]; exact fun e => h (ByteArray.ext e)
theorem findNow_str (k : ByteArray) {V : Type} (vv : V → Value) : ∀ (m : List (ByteArray × V)) (es : List MapEntry) (i : Nat), es.map (fun e => (e.key, e.val)) = m.map (fun e => (Value.string e.1, vv e.2)) →
    Instr.findNow .string (.string k) es i = some ((mfind k m i).map fun x => (x.1, vv x.2))
  | [], [], _, _ => rfl
  | [], _ :: _, _, h => by simp at h
  | _ :: _, [], _, h => by simp at h
  | e :: m, x :: es, i, h => by
    simp only [List.map_cons, List.cons.injEq, Prod.mk.injEq] at h
    obtain ⟨⟨h1, h2⟩, h3⟩ := h
    rw [Instr.findNow, h1, mfind]
    simp only [Instr.sameNow]
    by_cases hk : k = e.1
    · have : (k == e.1) = true := by rw [ba_beq, decide_eq_true hk]
      rw [this, if_pos hk, h2]; rfl
    · have : (k == e.1) = false := by rw [ba_beq, decide_eq_false hk]
      rw [this, if_neg hk]
      exact findNow_str k vv m es (i + 1) h3
theorem check_str (b : Bool) (n : Nat) (k : ByteArray) (w : World) : (Instr.checkKey b (n + 1) 9 (.string k)).run Tryd.prog w = .ok () w := by
  simp [Instr.checkKey, run_underlying Tryd.underlying9]
theorem find_str {V : Type} (vv : V → Value) (k : ByteArray) (m : List (ByteArray × V)) (es : List MapEntry) (h : es.map (fun e => (e.key, e.val)) = m.map (fun e => (Value.string e.1, vv e.2))) (w : World) :
    (Instr.findKey 9 (.string k) es).run Tryd.prog w = .ok ((mfind k m 0).map fun x => (x.1, vv x.2)) w := by
  simp [Instr.findKey, run_underlying Tryd.underlying9, findNow_str k vv m es 0 h]
/-- What a lookup yields. -/
def found {K V : Type} [DecidableEq K] (k : K) (m : List (K × V)) (vv : V → Value) (z : Value) : Value :=
  .tuple #[match mget k m with | some v => vv v | none => z, .bool (mget k m).isSome]
theorem found_find {K V : Type} [DecidableEq K] (k : K) (m : List (K × V)) (vv : V → Value) (z : Value) : found k m vv z = (match (mfind k m 0).map fun x => (x.1, vv x.2) with | some (_, v) => .tuple #[v, .bool true] | none => .tuple #[z, .bool false]) := by
  unfold found
  rw [← mfind_get k m 0]
  cases mfind k m 0 <;> rfl
theorem look_str {V : Type} (t te : TypeId) (ht : Tryd.prog.underlying t = some (.map 9 te)) (vv : V → Value) (z : Value) (k : ByteArray) (m : List (ByteArray × V)) (r : Nat) (w : World) (hm : IsM w r Value.string vv m) (hz : (zeroValue te).run Tryd.prog w = .ok z w) :
    (Instr.lookup t (.map (some r)) (.string k) true).run Tryd.prog w = .ok (found k m vv z) w := by
  obtain ⟨es, clock, hb, he⟩ := hm
  have h1 : (Instr.checkKey es.isEmpty 10000 9 (.string k)).run Tryd.prog w = .ok () w := check_str es.isEmpty 9999 k w
  have h0 : (getObj r).run Tryd.prog w = .ok (.map es clock) w := by simp [getObj, Sem.run, hb]
  have h2 := find_str vv k m es.toList he w
  rw [found_find]
  simp only [Instr.lookup, Sem.run_bind, run_underlying ht, Result.andThen_ok, h0, Sem.run_pure, h1, h2]
  cases (mfind k m 0).map fun x => (x.1, vv x.2) with
  | none => simp [hz]
  | some x => simp
theorem look_nil {V : Type} (t te : TypeId) (ht : Tryd.prog.underlying t = some (.map 9 te)) (z : Value) (k : ByteArray) (w : World) (hz : (zeroValue te).run Tryd.prog w = .ok z w) :
    (Instr.lookup t (.map none) (.string k) true).run Tryd.prog w = .ok (.tuple #[z, .bool false]) w := by
  have h1 : (Instr.checkKey true 10000 9 (.string k)).run Tryd.prog w = .ok () w := check_str true 9999 k w
  have h2 := find_str (V := Unit) (fun _ => undef) k [] [] rfl w
  simp only [mfind, Option.map_none] at h2
  simp only [Instr.lookup, Sem.run_bind, run_underlying ht, Result.andThen_ok, Sem.run_pure]
  simp [h1, h2, hz]
/-- What an update leaves of the pairs, by where the key stands. -/
theorem mput_find {K V : Type} [DecidableEq K] (k : K) (v : V) : ∀ (m : List (K × V)) (i : Nat), match mfind k m i with
    | some (j, _) => ∃ p, j = i + p ∧ p < m.length ∧ (∀ e, m[p]? = some e → e.1 = k ∧ mput k v m = m.set p (e.1, v))
    | none => mput k v m = m ++ [(k, v)]
  | [], i => rfl
  | e :: m, i => by
    rw [mfind]
    by_cases h : k = e.1
    · rw [if_pos h]
      refine ⟨0, rfl, by simp, fun x hx => ?_⟩
      simp at hx
      subst hx
      exact ⟨h.symm, by rw [mput, if_pos h]; rfl⟩
    · rw [if_neg h]
      have ih := mput_find k v m (i + 1)
      cases hf : mfind k m (i + 1) with
      | none =>
        rw [hf] at ih
        show mput k v (e :: m) = _
        rw [mput, if_neg h, ih]; rfl
      | some x =>
        rw [hf] at ih
        obtain ⟨j, x2⟩ := x
        obtain ⟨p, h1, h2, h3⟩ := ih
        refine ⟨p + 1, by omega, by simp; omega, fun y hy => ?_⟩
        have := h3 y (by simpa using hy)
        exact ⟨this.1, by rw [mput, if_neg h, this.2]; rfl⟩
def setMap (w : World) (r : Nat) (es : Array MapEntry) (clock : Nat) : World := { w with heap := w.heap.setIfInBounds r (.map es clock) }
theorem keyStays_str (k : ByteArray) (w : World) : (Instr.keyThatStays (.string k) (.string k)).run Tryd.prog w = .ok (.string k) w := by
  have : Instr.sameBits 10000 (.string k) (.string k) = true := by simp [Instr.sameBits, ba_beq]
  simp [Instr.keyThatStays, this]
theorem run_setMap {w : World} {r : Nat} {es : Array MapEntry} {c : Nat} (h : w.heap[r]? = some (.map es c)) (es' : Array MapEntry) (c' : Nat) : (setObj r (.map es' c')).run Tryd.prog w = .ok () (setMap w r es' c') := by
  simp [setObj, Sem.run, h, setMap]
theorem upd_str {V : Type} (t te : TypeId) (ht : Tryd.prog.underlying t = some (.map 9 te)) (vv : V → Value) (k : ByteArray) (v : V) (m : List (ByteArray × V)) (r : Nat) (w : World) (hm : IsM w r Value.string vv m) :
    ∃ es clock, (Instr.mapUpdate t (.map (some r)) (.string k) (vv v)).run Tryd.prog w = .ok () (setMap w r es clock) ∧ es.toList.map (fun e => (e.key, e.val)) = (mput k v m).map fun e => (Value.string e.1, vv e.2) := by
  obtain ⟨es, clock, hb, he⟩ := hm
  have h1 : (Instr.checkKey false 10000 9 (.string k)).run Tryd.prog w = .ok () w := check_str false 9999 k w
  have h0 : (getObj r).run Tryd.prog w = .ok (.map es clock) w := by simp [getObj, Sem.run, hb]
  have h2 := find_str vv k m es.toList he w
  have h3 := mput_find k v m 0
  cases hf : mfind k m 0 with
  | none =>
    rw [hf] at h2 h3
    refine ⟨es.push { key := .string k, val := vv v, born := clock }, clock + 1, ?_, ?_⟩
    · simp only [Instr.mapUpdate, Sem.run_bind, run_underlying ht, Result.andThen_ok, h0, h1, h2, Option.map_none, run_setMap hb]
    · rw [Array.toList_push, List.map_append, he, h3]; simp
  | some x =>
    obtain ⟨j, x2⟩ := x
    rw [hf] at h2 h3
    obtain ⟨p, hj, hp, hq⟩ := h3
    obtain rfl : j = p := by omega
    have hlen : es.toList.length = m.length := by have := congrArg List.length he; simpa using this
    have hes : j < es.size := by simpa using (show j < es.toList.length by omega)
    have hk : (es[j]).key = .string k := by
      have h5 : (es.toList.map (fun e => (e.key, e.val)))[j]? = (m.map fun e => (Value.string e.1, vv e.2))[j]? := by rw [he]
      have h6 := (hq m[j] (by simp [hp])).1
      simp [hes, hp] at h5
      rw [h5.1, h6]
    refine ⟨es.modify j fun e => { e with key := .string k, val := vv v }, clock, ?_, ?_⟩
    · simp only [Instr.mapUpdate, Sem.run_bind, run_underlying ht, Result.andThen_ok, h0, h1, h2, Option.map_some]
      simp [hes, hk, keyStays_str, run_setMap hb]
    · rw [(hq m[j] (by simp [hp])).2]
      have h6 := (hq m[j] (by simp [hp])).1
      apply List.ext_getElem?
      intro i
      have h5 : (es.toList.map (fun e => (e.key, e.val)))[i]? = (m.map fun e => (Value.string e.1, vv e.2))[i]? := by rw [he]
      simp only [List.getElem?_map, Array.getElem?_toList, Array.getElem?_modify, List.getElem?_set] at h5 ⊢
      by_cases hij : j = i
      · subst hij
        simp [hes, hp, h6]
      · simp only [if_neg hij]
        exact h5
/-- A box's key. -/
def kvb (k : Int × ByteArray × ByteArray) : Value := .agg #[.int .i64 k.1, .string k.2.1, .string k.2.2]
theorem eq_box (k k' : Int × ByteArray × ByteArray) (w : World) : (Op.equal 201 (kvb k) (kvb k')).run Tryd.prog w = .ok (decide (k = k')) w := by
  have hp : Tryd.prog.stoodInHeld 201 = false := by kernel_rfl
  have hu : Tryd.prog.underlying 201 = some (.struct (Tryd.prog.fieldsOf 201)) := by simp [Program.fieldsOf, Tryd.underlying201]
  have e : Op.equal 201 (kvb k) (kvb k') = Op.equalIn (9998 + 1 + 1) 201 (kvb k) (kvb k') := rfl
  obtain ⟨e1, h1, b1⟩ := k
  obtain ⟨e2, h2, b2⟩ := k'
  rw [e, kvb, kvb, run_equalIn_struct w _ _ _ _ hu hp]
  have p1 : ∀ (a : Int) (b c : ByteArray), (part 3 #[.int .i64 a, .string b, .string c] 0).run Tryd.prog w = .ok (.int .i64 a) w := fun a b c => by simp [part, isAgg, run_underlying Tryd.underlying3]
  have p2 : ∀ (a : Int) (b c : ByteArray), (part 9 #[.int .i64 a, .string b, .string c] 1).run Tryd.prog w = .ok (.string b) w := fun a b c => by simp [part, isAgg, run_underlying Tryd.underlying9]
  have p3 : ∀ (a : Int) (b c : ByteArray), (part 9 #[.int .i64 a, .string b, .string c] 2).run Tryd.prog w = .ok (.string c) w := fun a b c => by simp [part, isAgg, run_underlying Tryd.underlying9]
  have q1 : (Op.equalIn 9999 3 (.int .i64 e1) (.int .i64 e2)).run Tryd.prog w = .ok (e1 == e2) w := run_equalIn_int w 9998 _ _ _ _ _ Tryd.underlying3
  have q2 : ∀ a b : ByteArray, (Op.equalIn 9999 9 (.string a) (.string b)).run Tryd.prog w = .ok (decide (a = b)) w := fun a b => by
    have := run_equalIn_string w 9998 9 a b Tryd.underlying9
    rw [← beq_toListBytes, ba_beq] at this
    exact this
  simp [Program.fieldsOf, Tryd.underlying201, Op.eqFields, p1, p2, p3, q1, q2]
  by_cases h1' : e1 = e2 <;> by_cases h2' : h1 = h2 <;> by_cases h3' : b1 = b2 <;> simp [h1', h2', h3']
theorem ask_box {V : Type} (vv : V → Value) (k : Int × ByteArray × ByteArray) (w : World) : ∀ (m : List ((Int × ByteArray × ByteArray) × V)) (es : List MapEntry) (i : Nat), es.map (fun e => (e.key, e.val)) = m.map (fun e => (kvb e.1, vv e.2)) →
    (Instr.findAsking 201 (kvb k) es i).run Tryd.prog w = .ok ((mfind k m i).map fun x => (x.1, vv x.2)) w
  | [], [], _, _ => rfl
  | [], _ :: _, _, h => by simp at h
  | _ :: _, [], _, h => by simp at h
  | e :: m, x :: es, i, h => by
    simp only [List.map_cons, List.cons.injEq, Prod.mk.injEq] at h
    obtain ⟨⟨h1, h2⟩, h3⟩ := h
    rw [Instr.findAsking, h1, mfind]
    simp only [Sem.run_bind, eq_box, Result.andThen_ok]
    by_cases hk : k = e.1
    · rw [if_pos hk, h2]; simp [hk]
    · rw [if_neg hk]
      simp only [decide_eq_false hk, Bool.false_eq_true, if_false]
      exact ask_box vv k w m es (i + 1) h3
theorem find_box {V : Type} (vv : V → Value) (k : Int × ByteArray × ByteArray) (m : List ((Int × ByteArray × ByteArray) × V)) (es : List MapEntry) (h : es.map (fun e => (e.key, e.val)) = m.map (fun e => (kvb e.1, vv e.2))) (w : World) :
    (Instr.findKey 201 (kvb k) es).run Tryd.prog w = .ok ((mfind k m 0).map fun x => (x.1, vv x.2)) w := by
  have hn : es = [] ∨ Instr.findNow (.struct (Tryd.prog.fieldsOf 201)) (kvb k) es 0 = none := by
    cases es with
    | nil => exact .inl rfl
    | cons e es => right; cases m with
      | nil => simp at h
      | cons x m =>
        simp only [List.map_cons, List.cons.injEq, Prod.mk.injEq] at h
        rw [Instr.findNow, h.1.1]
        rfl
  have hu : Tryd.prog.underlying 201 = some (.struct (Tryd.prog.fieldsOf 201)) := by simp [Program.fieldsOf, Tryd.underlying201]
  rcases hn with rfl | hn
  · cases m with
    | nil => simp [Instr.findKey, run_underlying hu, Instr.findNow, mfind]
    | cons x m => simp at h
  · simp only [Instr.findKey, Sem.run_bind, run_underlying hu, Result.andThen_ok, hn]
    exact ask_box vv k w m es 0 h
theorem check_int (b : Bool) (n : Nat) (e : Int) (w : World) : (Instr.checkKey b (n + 1) 3 (.int .i64 e)).run Tryd.prog w = .ok () w := by
  simp [Instr.checkKey, run_underlying Tryd.underlying3]
theorem check_box (b : Bool) (k : Int × ByteArray × ByteArray) (w : World) : (Instr.checkKey b 10000 201 (kvb k)).run Tryd.prog w = .ok () w := by
  obtain ⟨e1, h1, b1⟩ := k
  show (Instr.checkKey b (9998 + 1 + 1) 201 (kvb (e1, h1, b1))).run Tryd.prog w = .ok () w
  have p1 : (part 3 #[.int .i64 e1, .string h1, .string b1] 0).run Tryd.prog w = .ok (.int .i64 e1) w := by simp [part, isAgg, run_underlying Tryd.underlying3]
  have p2 : (part 9 #[.int .i64 e1, .string h1, .string b1] 1).run Tryd.prog w = .ok (.string h1) w := by simp [part, isAgg, run_underlying Tryd.underlying9]
  have p3 : (part 9 #[.int .i64 e1, .string h1, .string b1] 2).run Tryd.prog w = .ok (.string b1) w := by simp [part, isAgg, run_underlying Tryd.underlying9]
  have c1 : (Instr.checkKey b (9998 + 1) 3 (.int .i64 e1)).run Tryd.prog w = .ok () w := check_int b 9998 e1 w
  have c2 := fun k => check_str b 9998 k w
  rw [Instr.checkKey, kvb]
  simp [run_underlying Tryd.underlying201, p1, p2, p3, c1, c2]
theorem look_box {V : Type} (t te : TypeId) (ht : Tryd.prog.underlying t = some (.map 201 te)) (vv : V → Value) (z : Value) (k : Int × ByteArray × ByteArray) (m : List ((Int × ByteArray × ByteArray) × V)) (r : Nat) (w : World) (hm : IsM w r kvb vv m) (hz : (zeroValue te).run Tryd.prog w = .ok z w) :
    (Instr.lookup t (.map (some r)) (kvb k) true).run Tryd.prog w = .ok (found k m vv z) w := by
  obtain ⟨es, clock, hb, he⟩ := hm
  have h1 : (Instr.checkKey es.isEmpty 10000 201 (kvb k)).run Tryd.prog w = .ok () w := check_box es.isEmpty k w
  have h0 : (getObj r).run Tryd.prog w = .ok (.map es clock) w := by simp [getObj, Sem.run, hb]
  have h2 := find_box vv k m es.toList he w
  rw [found_find]
  simp only [Instr.lookup, Sem.run_bind, run_underlying ht, Result.andThen_ok, h0, Sem.run_pure, h1, h2]
  cases (mfind k m 0).map fun x => (x.1, vv x.2) with
  | none => simp [hz]
  | some x => simp
theorem look_boxnil {V : Type} (t te : TypeId) (ht : Tryd.prog.underlying t = some (.map 201 te)) (z : Value) (k : Int × ByteArray × ByteArray) (w : World) (hz : (zeroValue te).run Tryd.prog w = .ok z w) :
    (Instr.lookup t (.map none) (kvb k) true).run Tryd.prog w = .ok (.tuple #[z, .bool false]) w := by
  have h1 : (Instr.checkKey true 10000 201 (kvb k)).run Tryd.prog w = .ok () w := check_box true k w
  have h2 := find_box (V := Unit) (fun _ => undef) k [] [] rfl w
  simp only [mfind, Option.map_none] at h2
  simp only [Instr.lookup, Sem.run_bind, run_underlying ht, Result.andThen_ok, Sem.run_pure]
  simp [h1, h2, hz]
theorem keyStays_box (k : Int × ByteArray × ByteArray) (w : World) : (Instr.keyThatStays (kvb k) (kvb k)).run Tryd.prog w = .ok (kvb k) w := by
  have : Instr.sameBits (9999 + 1) (kvb k) (kvb k) = true := by simp [kvb, Instr.sameBits, ba_beq]
  have : Instr.sameBits 10000 (kvb k) (kvb k) = true := this
  simp [Instr.keyThatStays, this]
theorem upd_box {V : Type} (t te : TypeId) (ht : Tryd.prog.underlying t = some (.map 201 te)) (vv : V → Value) (k : Int × ByteArray × ByteArray) (v : V) (m : List ((Int × ByteArray × ByteArray) × V)) (r : Nat) (w : World) (hm : IsM w r kvb vv m) :
    ∃ es clock, (Instr.mapUpdate t (.map (some r)) (kvb k) (vv v)).run Tryd.prog w = .ok () (setMap w r es clock) ∧ es.toList.map (fun e => (e.key, e.val)) = (mput k v m).map fun e => (kvb e.1, vv e.2) := by
  obtain ⟨es, clock, hb, he⟩ := hm
  have h1 : (Instr.checkKey false 10000 201 (kvb k)).run Tryd.prog w = .ok () w := check_box false k w
  have h0 : (getObj r).run Tryd.prog w = .ok (.map es clock) w := by simp [getObj, Sem.run, hb]
  have h2 := find_box vv k m es.toList he w
  have h3 := mput_find k v m 0
  cases hf : mfind k m 0 with
  | none =>
    rw [hf] at h2 h3
    refine ⟨es.push { key := kvb k, val := vv v, born := clock }, clock + 1, ?_, ?_⟩
    · simp only [Instr.mapUpdate, Sem.run_bind, run_underlying ht, Result.andThen_ok, h0, h1, h2, Option.map_none, run_setMap hb]
    · rw [Array.toList_push, List.map_append, he, h3]; simp
  | some x =>
    obtain ⟨j, x2⟩ := x
    rw [hf] at h2 h3
    obtain ⟨p, hj, hp, hq⟩ := h3
    obtain rfl : j = p := by omega
    have hlen : es.toList.length = m.length := by have := congrArg List.length he; simpa using this
    have hes : j < es.size := by simpa using (show j < es.toList.length by omega)
    have hk : (es[j]).key = kvb k := by
      have h5 : (es.toList.map (fun e => (e.key, e.val)))[j]? = (m.map fun e => (kvb e.1, vv e.2))[j]? := by rw [he]
      have h6 := (hq m[j] (by simp [hp])).1
      simp [hes, hp] at h5
      rw [h5.1, h6]
    refine ⟨es.modify j fun e => { e with key := kvb k, val := vv v }, clock, ?_, ?_⟩
    · simp only [Instr.mapUpdate, Sem.run_bind, run_underlying ht, Result.andThen_ok, h0, h1, h2, Option.map_some]
      simp [hes, hk, keyStays_box, run_setMap hb]
    · rw [(hq m[j] (by simp [hp])).2]
      have h6 := (hq m[j] (by simp [hp])).1
      apply List.ext_getElem?
      intro i
      have h5 : (es.toList.map (fun e => (e.key, e.val)))[i]? = (m.map fun e => (kvb e.1, vv e.2))[i]? := by rw [he]
      simp only [List.getElem?_map, Array.getElem?_toList, Array.getElem?_modify, List.getElem?_set] at h5 ⊢
      by_cases hij : j = i
      · subst hij
        simp [hes, hp, h6]
      · simp only [if_neg hij]
        exact h5
end Go.Proofs.YtiboflejmnjdhaaDoor
end
section
set_option linter.unusedVariables false
set_option linter.unusedSimpArgs false
set_option maxRecDepth 100000
namespace Go.Proofs.YtiboflejmnjdhaaDoor
open Go Go.RowKit
/-- A table: no map yet, or one. -/
def IsTb {K V : Type} (w : World) (mr : Option Nat) (kv : K → Value) (vv : V → Value) (m : List (K × V)) : Prop :=
  match mr with
  | none => m = []
  | some r => IsM w r kv vv m
abbrev BK := Int × ByteArray × ByteArray
theorem zero_str (w : World) : (zeroValue 9).run Tryd.prog w = .ok (.string ByteArray.empty) w := by
  have h0 : (Tryd.prog.info? 9).bind (·.zero) = some (.string ByteArray.empty) := by kernel_rfl
  obtain ⟨i, hi, hz⟩ := Option.bind_eq_some_iff.1 h0
  simp [zeroValue, typeInfo, hi, hz]
theorem yields_lookup {P : Program} {o : Oper} {a : Act} {W : World} (t : TypeId) (x ix : Operand) (ok : Bool) (ho : o.op = .lookup t x ix ok) (vx vk v : Value) (hx : a.eval x = vx) (hk : a.eval ix = vk) (h : (Instr.lookup t vx vk ok).run P W = .ok v W) : (execOp a.eval o).run P W = .ok (.value v) W := by
  unfold execOp
  simp [ho, hx, hk, h]
theorem look_tb_box (mr : Option Nat) (k : BK) (m : List (BK × ByteArray)) (w : World) (hm : IsTb w mr kvb Value.string m) : (Instr.lookup 118 (.map mr) (kvb k) true).run Tryd.prog w = .ok (found k m Value.string (.string ByteArray.empty)) w := by
  cases mr with
  | none =>
    have hm : m = [] := hm
    subst hm
    exact look_boxnil (V := Unit) 118 9 Tryd.underlying118 _ k w (zero_str w)
  | some r => exact look_box 118 9 Tryd.underlying118 Value.string _ k m r w hm (zero_str w)
theorem IsTb.below {K V : Type} {w w' : World} {mr : Option Nat} {kv : K → Value} {vv : V → Value} {m : List (K × V)} (h : IsTb w mr kv vv m) (hb : Below w.heap.size w w') : IsTb w' mr kv vv m := by
  cases mr with
  | none => exact h
  | some r =>
    obtain ⟨es, cl, h1, h2⟩ := h
    exact ⟨es, cl, below_at hb h1 (blk_lt h1), h2⟩
theorem get_box (ib off : Nat) (mr : Option Nat) (e1 : Int) (h1 b1 : ByteArray) (m : List (BK × ByteArray)) (w : World) (hc : w.cell? ⟨ib, off, none⟩ = some (.map mr)) (hm : IsTb w mr kvb Value.string m) :
    Calls Tryd.prog 128 #[.pointer (some ⟨ib, off, none⟩), .agg #[.int .i64 e1, .string h1, .string b1]] w fun e w' => e = .returned (found (e1, h1, b1) m Value.string (.string ByteArray.empty)) ∧ Below w.heap.size w w' := by
  have Hc := Lib.hid hc
  have Hm := Lib.hid hm
  obtain ⟨fv, fb, hf⟩ : ∃ fv fb, found (e1, h1, b1) m Value.string (.string ByteArray.empty) = .tuple #[fv, .bool fb] := ⟨_, _, rfl⟩
  have Hf := Lib.hid hf
  clear hc hm hf
  go_enter Tryd.func128, Tryd.ntmps128
  go_wp2
  refine seg_begin (fun W => W.cell? ⟨ib, off, none⟩ = some (.map mr) ∧ Hid (W.heap[w.heap.size]? = some (.cells #[.int .i64 e1, .string h1, .string b1] 201 (0, 0))) ∧ Hid (IsTb W mr kvb Value.string m)) [3, 4, 5] (by kernel_rfl) ?_
  generalize hwd : World.drew _ = wd
  have hB := (alloc_drew hwd).1
  have HS : Hid (wd.cell? ⟨ib, off, none⟩ = some (.map mr) ∧ Hid (wd.heap[w.heap.size]? = some (.cells #[.int .i64 e1, .string h1, .string b1] 201 (0, 0))) ∧ Hid (IsTb wd mr kvb Value.string m)) :=
    Lib.hid ⟨(hB.cell (p := ⟨ib, off, none⟩) (World.block_lt_of_cell? w _ Hc.out)).trans Hc.out, Lib.hid (alloc_drew hwd).2, Lib.hid (Hm.out.below hB)⟩
  have HB := Lib.hid hB
  clear hwd hB
  (refine seg_take 0 ?_ rfl (by kernel_rfl) (by kernel_rfl) (by kernel_rfl) (by kernel_rfl) (by kernel_rfl) rfl (fun _ _ _ h => h) rfl ?_ ?_; rotate_left; (focus (intro w; go_simp; try with_reducible rfl)); (try simp only [List.getElem_toArray, List.getElem_cons_zero, List.getElem_cons_succ, Act.put, List.setIfInBounds_toArray, List.set_cons_zero, List.set_cons_succ]); refine seg_take 1 ?_ rfl (by kernel_rfl) (by kernel_rfl) (by kernel_rfl) (by kernel_rfl) (by kernel_rfl) rfl (fun _ _ _ h => h) rfl ?_ ?_; rotate_left; (focus (intro w; go_simp; try with_reducible rfl)); (try simp only [List.getElem_toArray, List.getElem_cons_zero, List.getElem_cons_succ, Act.put, List.setIfInBounds_toArray, List.set_cons_zero, List.set_cons_succ]); refine seg_take 2 ?_ rfl (by kernel_rfl) (by kernel_rfl) (by kernel_rfl) (by kernel_rfl) (by kernel_rfl) rfl (fun _ _ _ h => h) rfl ?_ ?_; rotate_left; (focus (intro w; go_simp; try with_reducible rfl)); (try simp only [List.getElem_toArray, List.getElem_cons_zero, List.getElem_cons_succ, Act.put, List.setIfInBounds_toArray, List.set_cons_zero, List.set_cons_succ]); refine seg_read 3 ?_ rfl (by kernel_rfl) (by kernel_rfl) (by kernel_rfl) (by kernel_rfl) (by kernel_rfl) (by kernel_rfl) (fun _ _ _ h => h) rfl HS.out ?_ ?_; rotate_left; (focus (intro w hSw; (try dsimp only at hSw); go_split_ands; go_simp; try with_reducible rfl)); (try simp only [List.getElem_toArray, List.getElem_cons_zero, List.getElem_cons_succ, Act.put, List.setIfInBounds_toArray, List.set_cons_zero, List.set_cons_succ]))
  (refine seg_read 4 (.agg #[.int .i64 e1, .string h1, .string b1]) rfl (by kernel_rfl) (by kernel_rfl) (by kernel_rfl) (by kernel_rfl) (by kernel_rfl) (by kernel_rfl) (fun _ _ _ h => h) rfl HS.out (fun W hW => yields_load_row 201 _ rfl w.heap.size rfl _ _ _ _ hW.2.1.out Tryd.underlying201 rfl (by kernel_rfl)) ?_; (try simp only [List.getElem_toArray, List.getElem_cons_zero, List.getElem_cons_succ, Act.put, List.setIfInBounds_toArray, List.set_cons_zero, List.set_cons_succ]))
  (refine seg_read 5 (.tuple #[fv, .bool fb]) rfl (by kernel_rfl) (by kernel_rfl) (by kernel_rfl) (by kernel_rfl) (by kernel_rfl) (by kernel_rfl) (fun _ _ _ h => h) rfl HS.out (fun W hW => yields_lookup _ _ _ _ rfl _ _ _ rfl rfl (by rw [← Hf.out]; exact look_tb_box mr (e1, h1, b1) m W hW.2.2.out)) ?_; (try simp only [List.getElem_toArray, List.getElem_cons_zero, List.getElem_cons_succ, Act.put, List.setIfInBounds_toArray, List.set_cons_zero, List.set_cons_succ]))
  (refine seg_take 6 ?_ rfl (by kernel_rfl) (by kernel_rfl) (by kernel_rfl) (by kernel_rfl) (by kernel_rfl) rfl (fun _ _ _ h => h) rfl ?_ ?_; rotate_left; (focus (intro w; go_simp; try with_reducible rfl)); (try simp only [List.getElem_toArray, List.getElem_cons_zero, List.getElem_cons_succ, Act.put, List.setIfInBounds_toArray, List.set_cons_zero, List.set_cons_succ]); refine seg_take 7 ?_ rfl (by kernel_rfl) (by kernel_rfl) (by kernel_rfl) (by kernel_rfl) (by kernel_rfl) rfl (fun _ _ _ h => h) rfl ?_ ?_; rotate_left; (focus (intro w; go_simp; try with_reducible rfl)); (try simp only [List.getElem_toArray, List.getElem_cons_zero, List.getElem_cons_succ, Act.put, List.setIfInBounds_toArray, List.set_cons_zero, List.set_cons_succ]); refine seg_take 8 ?_ rfl (by kernel_rfl) (by kernel_rfl) (by kernel_rfl) (by kernel_rfl) (by kernel_rfl) rfl (fun _ _ _ h => h) rfl ?_ ?_; rotate_left; (focus (intro w; go_simp; try with_reducible rfl)); (try simp only [List.getElem_toArray, List.getElem_cons_zero, List.getElem_cons_succ, Act.put, List.setIfInBounds_toArray, List.set_cons_zero, List.set_cons_succ]); refine seg_take 9 ?_ rfl (by kernel_rfl) (by kernel_rfl) (by kernel_rfl) (by kernel_rfl) (by kernel_rfl) rfl (fun _ _ _ h => h) rfl ?_ ?_; rotate_left; (focus (intro w; go_simp; try with_reducible rfl)); (try simp only [List.getElem_toArray, List.getElem_cons_zero, List.getElem_cons_succ, Act.put, List.setIfInBounds_toArray, List.set_cons_zero, List.set_cons_succ]); refine seg_take 10 ?_ rfl (by kernel_rfl) (by kernel_rfl) (by kernel_rfl) (by kernel_rfl) (by kernel_rfl) rfl (fun _ _ _ h => h) rfl ?_ ?_; rotate_left; (focus (intro w; go_simp; try with_reducible rfl)); (try simp only [List.getElem_toArray, List.getElem_cons_zero, List.getElem_cons_succ, Act.put, List.setIfInBounds_toArray, List.set_cons_zero, List.set_cons_succ]))
  (refine anyB_done (by kernel_rfl) ?_)
  go_wp2
  go_ret2
  exact ⟨by rw [Hf.out]; rfl, HB.out⟩
theorem eql_map (t tk te : TypeId) (ht : Tryd.prog.underlying t = some (.map tk te)) (x : Option Nat) (w : World) : (binOp .eql t (.map x) (.map none)).run Tryd.prog w = .ok (.bool x.isNone) w := by
  have h : ∀ d, (Op.equalIn (d + 1) t (.map x) (.map none)).run Tryd.prog w = .ok x.isNone w := fun d => by
    cases x <;> simp [Op.equalIn, run_underlying ht]
  have h2 := h 9999
  have e : Op.equal t (.map x) (.map none) = Op.equalIn (9999 + 1) t (.map x) (.map none) := rfl
  simp only [binOp, e, Sem.run_bind, h2, Result.andThen_ok, Sem.run_pure]
end Go.Proofs.YtiboflejmnjdhaaDoor
end
section
set_option linter.unusedVariables false
set_option linter.unusedSimpArgs false
set_option maxRecDepth 100000
namespace Go.Proofs.YtiboflejmnjdhaaDoor
open Go Go.RowKit
theorem make_map (t : TypeId) (W : World) : (Instr.makeMap t none).run Tryd.prog W = .ok (.map (some W.heap.size)) (W.alloc (.map #[] 0)) := by
  have h : (newObj (.map #[] 0)).run Tryd.prog W = .ok W.heap.size (W.alloc (.map #[] 0)) := rfl
  simp only [Instr.makeMap, Sem.run_bind, Sem.run_pure, Result.andThen_ok, h]
theorem cell_in_row {w : World} {b off : Nat} {row : Array Value} {t : TypeId} {fr : Nat × Nat} {v : Value} (h : w.heap[b]? = some (.cells row t fr)) (hc : w.cell? ⟨b, off, none⟩ = some v) : off < row.size := by
  simp only [World.cell?, h] at hc
  exact (Array.getElem?_eq_some_iff.1 hc).1
theorem put_box (ib off : Nat) (t : TypeId) (row : Array Value) (mr : Option Nat) (e1 : Int) (h1 b1 : ByteArray) (v : ByteArray) (m : List (BK × ByteArray)) (w : World) (hr : w.heap[ib]? = some (.cells row t (0, 0))) (hc : row[off]? = some (.map mr)) (hm : IsTb w mr kvb Value.string m) :
    Calls Tryd.prog 129 #[.pointer (some ⟨ib, off, none⟩), .agg #[.int .i64 e1, .string h1, .string b1], .string v] w fun e w' => e = .returned (.tuple #[]) ∧ ∃ r, IsTb w' (some r) kvb Value.string (mput (e1, h1, b1) v m) ∧ w'.heap[ib]? = some (.cells (row.setIfInBounds off (.map (some r))) t (0, 0)) ∧ (mr = some r ∨ (mr = none ∧ w.heap.size ≤ r)) ∧ Kp (ib :: mr.toList) w w' := by
  have Hr := Lib.hid hr
  have Hm := Lib.hid hm
  have c1 : w.cell? ⟨ib, off, none⟩ = some (.map mr) := blk_cell hr off hc
  have hlt := blk_lt hr
  have f1 : w.frozen? ⟨ib, off, none⟩ = false := frozen_row hr off
  have heq := fun W => eql_map 118 _ _ Tryd.underlying118 mr W
  have hmk := make_map 118
  clear hr hm hc
  cases mr with
  | none =>
    go_enter Tryd.func129, Tryd.ntmps129
    go_wp2
    have hm0 : m = [] := Hm.out
    subst hm0
    refine seg_begin (fun W => W.cell? ⟨ib, off, none⟩ = some (.map (some (w.heap.size + 1))) ∧ Hid (W.heap[w.heap.size]? = some (.cells #[.int .i64 e1, .string h1, .string b1] 201 (0, 0)))) [3, 4] (by kernel_rfl) ?_
    have hrow := blk_alloc (blk_alloc (blk_set Hr.out off (.map (some (w.heap.size + 1)))) (.cells #[.int .i64 e1, .string h1, .string b1] 201)) (.map #[] 0)
    generalize hwd : World.drew _ = wd
    have hrd : wd.heap[ib]? = some (.cells (row.setIfInBounds off (.map (some (w.heap.size + 1)))) t (0, 0)) := by rw [← hwd]; exact hrow
    have hkd : wd.heap[w.heap.size]? = some (.cells #[.int .i64 e1, .string h1, .string b1] 201 (0, 0)) := by rw [← hwd]; exact blk_alloc (new_at (by simp [World.setCell])) _
    have hmd : wd.heap[w.heap.size + 1]? = some (.map #[] 0) := by rw [← hwd]; exact new_at (by simp [World.setCell])
    have hkp : Kp [ib] w wd := by rw [← hwd]; exact ((((Kp.refl [ib] w).setCell (p := ⟨ib, off, none⟩) (by simp) _).alloc _).alloc _).drewN 1
    have hcd : wd.cell? ⟨ib, off, none⟩ = some (.map (some (w.heap.size + 1))) := by
      refine blk_cell hrd off ?_
      have := (cell_in_row Hr.out c1)
      simp [Array.getElem?_setIfInBounds, this]
    have HS : Hid (wd.cell? ⟨ib, off, none⟩ = some (.map (some (w.heap.size + 1))) ∧ Hid (wd.heap[w.heap.size]? = some (.cells #[.int .i64 e1, .string h1, .string b1] 201 (0, 0)))) := Lib.hid ⟨hcd, Lib.hid hkd⟩
    obtain ⟨es, cl, hup, hes⟩ := upd_box 118 9 Tryd.underlying118 Value.string (e1, h1, b1) v [] (w.heap.size + 1) wd ⟨#[], 0, hmd, rfl⟩
    have Hup := Lib.hid hup
    have Hes := Lib.hid hes
    have Hkp := Lib.hid hkp
    have Hrd := Lib.hid hrd
    have Hmd := Lib.hid hmd
    clear hup hes hkp hrd hmd hkd hcd hwd hrow c1 f1
    (refine seg_take 0 ?_ rfl (by kernel_rfl) (by kernel_rfl) (by kernel_rfl) (by kernel_rfl) (by kernel_rfl) rfl (fun _ _ _ h => h) rfl ?_ ?_; rotate_left; (focus (intro w; go_simp; try with_reducible rfl)); (try simp only [List.getElem_toArray, List.getElem_cons_zero, List.getElem_cons_succ, Act.put, List.setIfInBounds_toArray, List.set_cons_zero, List.set_cons_succ]); refine seg_take 1 ?_ rfl (by kernel_rfl) (by kernel_rfl) (by kernel_rfl) (by kernel_rfl) (by kernel_rfl) rfl (fun _ _ _ h => h) rfl ?_ ?_; rotate_left; (focus (intro w; go_simp; try with_reducible rfl)); (try simp only [List.getElem_toArray, List.getElem_cons_zero, List.getElem_cons_succ, Act.put, List.setIfInBounds_toArray, List.set_cons_zero, List.set_cons_succ]); refine seg_take 2 ?_ rfl (by kernel_rfl) (by kernel_rfl) (by kernel_rfl) (by kernel_rfl) (by kernel_rfl) rfl (fun _ _ _ h => h) rfl ?_ ?_; rotate_left; (focus (intro w; go_simp; try with_reducible rfl)); (try simp only [List.getElem_toArray, List.getElem_cons_zero, List.getElem_cons_succ, Act.put, List.setIfInBounds_toArray, List.set_cons_zero, List.set_cons_succ]); refine seg_take 5 ?_ rfl (by kernel_rfl) (by kernel_rfl) (by kernel_rfl) (by kernel_rfl) (by kernel_rfl) rfl (fun _ _ _ h => h) rfl ?_ ?_; rotate_left; (focus (intro w; go_simp; try with_reducible rfl)); (try simp only [List.getElem_toArray, List.getElem_cons_zero, List.getElem_cons_succ, Act.put, List.setIfInBounds_toArray, List.set_cons_zero, List.set_cons_succ]); refine seg_read 3 ?_ rfl (by kernel_rfl) (by kernel_rfl) (by kernel_rfl) (by kernel_rfl) (by kernel_rfl) (by kernel_rfl) (fun _ _ _ h => h) rfl HS.out ?_ ?_; rotate_left; (focus (intro w hSw; (try dsimp only at hSw); go_split_ands; go_simp; try with_reducible rfl)); (try simp only [List.getElem_toArray, List.getElem_cons_zero, List.getElem_cons_succ, Act.put, List.setIfInBounds_toArray, List.set_cons_zero, List.set_cons_succ]))
    (refine seg_read 4 (.agg #[.int .i64 e1, .string h1, .string b1]) rfl (by kernel_rfl) (by kernel_rfl) (by kernel_rfl) (by kernel_rfl) (by kernel_rfl) (by kernel_rfl) (fun _ _ _ h => h) rfl HS.out (fun W hW => yields_load_row 201 _ rfl w.heap.size rfl _ _ _ _ hW.2.out Tryd.underlying201 rfl (by kernel_rfl)) ?_; (try simp only [List.getElem_toArray, List.getElem_cons_zero, List.getElem_cons_succ, Act.put, List.setIfInBounds_toArray, List.set_cons_zero, List.set_cons_succ]))
    skip
    (refine anyB_step 6 rfl (by kernel_rfl) ?_; (try simp only [List.getElem_toArray, List.getElem_cons_zero, List.getElem_cons_succ]))
    have hup : (Instr.mapUpdate 118 (.map (some (w.heap.size + 1))) (.agg #[.int .i64 e1, .string h1, .string b1]) (.string v)).run Tryd.prog wd = .ok () (setMap wd (w.heap.size + 1) es cl) := Hup.out
    go_wp2
    refine ⟨nofun, ?_⟩
    (refine anyB_done (by kernel_rfl) ?_)
    go_end0
    have hlt2 := blk_lt Hmd.out
    refine ⟨rfl, w.heap.size + 1, ⟨es, cl, ?_, Hes.out⟩, ?_, .inr ⟨trivial, by omega⟩, ?_⟩
    · simp [setMap, hlt2]
    · simp only [setMap]; rw [Array.getElem?_setIfInBounds_ne (by omega)]; exact Hrd.out
    · exact Hkp.out.trans (T := [w.heap.size + 1]) ⟨rfl, rfl, rfl, by simp [setMap], fun j _ hj => by simp only [setMap]; rw [Array.getElem?_setIfInBounds_ne (by simp at hj; omega)]⟩ (by intro x hx hl; simp at hx; omega)
  | some r =>
    have c1' := c1
    go_enter Tryd.func129, Tryd.ntmps129
    go_wp2
    refine seg_begin (fun W => W.cell? ⟨ib, off, none⟩ = some (.map (some r)) ∧ Hid (W.heap[w.heap.size]? = some (.cells #[.int .i64 e1, .string h1, .string b1] 201 (0, 0)))) [3, 4] (by kernel_rfl) ?_
    generalize hwd : World.drew _ = wd
    have hB := (alloc_drew hwd).1
    have hrd : wd.heap[ib]? = some (.cells row t (0, 0)) := below_at hB Hr.out hlt
    have hkd := (alloc_drew hwd).2
    have hmd : IsM wd r kvb Value.string m := Hm.out.below hB
    have HS : Hid (wd.cell? ⟨ib, off, none⟩ = some (.map (some r)) ∧ Hid (wd.heap[w.heap.size]? = some (.cells #[.int .i64 e1, .string h1, .string b1] 201 (0, 0)))) := Lib.hid ⟨(hB.cell (p := ⟨ib, off, none⟩) hlt).trans c1, Lib.hid hkd⟩
    obtain ⟨es, cl, hup, hes⟩ := upd_box 118 9 Tryd.underlying118 Value.string (e1, h1, b1) v m r wd hmd
    have hrl : r < wd.heap.size := by obtain ⟨_, _, h, _⟩ := hmd; exact blk_lt h
    have hri : ib ≠ r := by rintro rfl; obtain ⟨_, _, h, _⟩ := hmd; have := hrd.symm.trans h; cases this
    have hset : row.setIfInBounds off (.map (some r)) = row := by
      have hin := cell_in_row Hr.out c1
      have hv : row[off]? = some (.map (some r)) := by simpa [World.cell?, Hr.out] using c1
      apply Array.ext
      · simp
      · intro j h1 h2
        rw [Array.getElem_setIfInBounds (by simpa using h1)]
        split
        · rename_i h; subst h; rw [Array.getElem?_eq_getElem hin] at hv; exact (Option.some.inj hv).symm
        · rfl
    have Hup := Lib.hid hup
    have Hes := Lib.hid hes
    have Hkp := Lib.hid (Kp.of_below (S := ib :: (some r).toList) hB)
    have Hrd := Lib.hid hrd
    have Hset := Lib.hid hset
    clear hup hes hrd hmd hkd hwd c1 f1 hB hset c1'
    (refine seg_take 0 ?_ rfl (by kernel_rfl) (by kernel_rfl) (by kernel_rfl) (by kernel_rfl) (by kernel_rfl) rfl (fun _ _ _ h => h) rfl ?_ ?_; rotate_left; (focus (intro w; go_simp; try with_reducible rfl)); (try simp only [List.getElem_toArray, List.getElem_cons_zero, List.getElem_cons_succ, Act.put, List.setIfInBounds_toArray, List.set_cons_zero, List.set_cons_succ]); refine seg_take 1 ?_ rfl (by kernel_rfl) (by kernel_rfl) (by kernel_rfl) (by kernel_rfl) (by kernel_rfl) rfl (fun _ _ _ h => h) rfl ?_ ?_; rotate_left; (focus (intro w; go_simp; try with_reducible rfl)); (try simp only [List.getElem_toArray, List.getElem_cons_zero, List.getElem_cons_succ, Act.put, List.setIfInBounds_toArray, List.set_cons_zero, List.set_cons_succ]); refine seg_take 2 ?_ rfl (by kernel_rfl) (by kernel_rfl) (by kernel_rfl) (by kernel_rfl) (by kernel_rfl) rfl (fun _ _ _ h => h) rfl ?_ ?_; rotate_left; (focus (intro w; go_simp; try with_reducible rfl)); (try simp only [List.getElem_toArray, List.getElem_cons_zero, List.getElem_cons_succ, Act.put, List.setIfInBounds_toArray, List.set_cons_zero, List.set_cons_succ]); refine seg_take 5 ?_ rfl (by kernel_rfl) (by kernel_rfl) (by kernel_rfl) (by kernel_rfl) (by kernel_rfl) rfl (fun _ _ _ h => h) rfl ?_ ?_; rotate_left; (focus (intro w; go_simp; try with_reducible rfl)); (try simp only [List.getElem_toArray, List.getElem_cons_zero, List.getElem_cons_succ, Act.put, List.setIfInBounds_toArray, List.set_cons_zero, List.set_cons_succ]); refine seg_read 3 ?_ rfl (by kernel_rfl) (by kernel_rfl) (by kernel_rfl) (by kernel_rfl) (by kernel_rfl) (by kernel_rfl) (fun _ _ _ h => h) rfl HS.out ?_ ?_; rotate_left; (focus (intro w hSw; (try dsimp only at hSw); go_split_ands; go_simp; try with_reducible rfl)); (try simp only [List.getElem_toArray, List.getElem_cons_zero, List.getElem_cons_succ, Act.put, List.setIfInBounds_toArray, List.set_cons_zero, List.set_cons_succ]))
    (refine seg_read 4 (.agg #[.int .i64 e1, .string h1, .string b1]) rfl (by kernel_rfl) (by kernel_rfl) (by kernel_rfl) (by kernel_rfl) (by kernel_rfl) (by kernel_rfl) (fun _ _ _ h => h) rfl HS.out (fun W hW => yields_load_row 201 _ rfl w.heap.size rfl _ _ _ _ hW.2.out Tryd.underlying201 rfl (by kernel_rfl)) ?_; (try simp only [List.getElem_toArray, List.getElem_cons_zero, List.getElem_cons_succ, Act.put, List.setIfInBounds_toArray, List.set_cons_zero, List.set_cons_succ]))
    skip
    (refine anyB_step 6 rfl (by kernel_rfl) ?_; (try simp only [List.getElem_toArray, List.getElem_cons_zero, List.getElem_cons_succ]))
    have hup : (Instr.mapUpdate 118 (.map (some r)) (.agg #[.int .i64 e1, .string h1, .string b1]) (.string v)).run Tryd.prog wd = .ok () (setMap wd r es cl) := Hup.out
    go_wp2
    refine ⟨nofun, ?_⟩
    (refine anyB_done (by kernel_rfl) ?_)
    go_end0
    refine ⟨rfl, r, ⟨es, cl, ?_, Hes.out⟩, ?_, .inl rfl, ?_⟩
    · simp [setMap, hrl]
    · rw [Hset.out]; simp only [setMap]; rw [Array.getElem?_setIfInBounds_ne (fun e => hri e.symm)]; exact Hrd.out
    · exact Hkp.out.trans (T := [r]) ⟨rfl, rfl, rfl, by simp [setMap], fun j _ hj => by simp only [setMap]; rw [Array.getElem?_setIfInBounds_ne (by simp at hj; omega)]⟩ (by simp)
end Go.Proofs.YtiboflejmnjdhaaDoor
end
section
set_option linter.unusedVariables false
set_option linter.unusedSimpArgs false
set_option maxRecDepth 100000
namespace Go.Proofs.YtiboflejmnjdhaaDoor
open Go Go.RowKit
theorem asked_ok (e : Int) (A B : Option Addr) (n c m d many : Nat) (w : World) (h0 : 0 ≤ e) (h1 : e ≤ 255) (hn : n ≤ 4096) (hm : m ≤ many) :
    Calls Tryd.prog 36 #[.int .i64 e, .slice A n c, .slice B m d, .int .i64 many] w fun e w' => e = .returned (.int .i64 0) ∧ w = w' := by
  go_enter Tryd.func36, Tryd.ntmps36
  go_wp2
  go_ret
  exact ⟨rfl, rfl⟩
/-- A mode that is one: its way is the ideal one at ib. -/
theorem none_ok (mb ib : Nat) (w : World) (h : w.cell? ⟨mb, 0, none⟩ = some (.iface 113 (.pointer (some ⟨ib, 0, none⟩)))) :
    Calls Tryd.prog 35 #[.pointer (some ⟨mb, 0, none⟩)] w fun e w' => e = .returned (.bool false) ∧ w = w' := by
  go_enter Tryd.func35, Tryd.ntmps35
  go_wp2
  go_ret
  exact ⟨rfl, rfl⟩
end Go.Proofs.YtiboflejmnjdhaaDoor
end
