/- The cells of a cipher; an owned row of blocks; pieces of a text. -/
import Derived.Test.YtiboflejmnjdhaaDoorJO
import Derived.Test.YtiboflejmnjdhaaDoorJQ
import Derived.Deep.DeepMust
import Derived.Deep.Cut
import Derived.Deep.CutRange
import Derived.Deep.CutBlock
section
set_option linter.unusedVariables false
set_option linter.unusedSimpArgs false
set_option maxRecDepth 100000
namespace Go.Proofs.YtiboflejmnjdhaaDoor
open Go Go.RowKit
/-- The cells of a cipher. -/
def crow (sv : Value) : Array Value := #[sv] ++ w8 aesBox
theorem setAll_fold (off : Nat) : ∀ (l : List Value) (k : Nat) (cs : Array Value), (l.zipIdx k).foldl (fun cs (x : Value × Nat) => cs.setIfInBounds (off + x.2) x.1) cs = setAll cs (off + k) l
  | [], _, _ => rfl
  | v :: r, k, cs => by
    rw [List.zipIdx_cons, List.foldl_cons, setAll, setAll_fold off r (k + 1)]
    rfl
theorem fold_list {β : Type} (f : β → Value × Nat → β) (v : Array Value) (x : β) : Array.foldl f x v.zipIdx 0 v.size = v.toList.zipIdx.foldl f x := by
  have h : v.size = v.zipIdx.size := by simp
  rw [h, ← Array.foldl_toList]
  simp
theorem fold_crow : Array.foldl (fun cs (x : Value × Nat) => cs.setIfInBounds (1 + x.snd) x.fst) Tryd.zeroCells104 (w8 aesBox).zipIdx 0 (w8 aesBox).size = crow (.slice none 0 0) := by
  rw [fold_list, setAll_fold 1 (w8 aesBox).toList 0 Tryd.zeroCells104]
  have h2 := setAll_list [] (w8 aesBox).toList (List.replicate 256 (.int .u8 0)) [.slice none 0 0] (by simp [w8_size, aesBox, boxUp_len])
  have h3 : Tryd.zeroCells104 = ([Value.slice none 0 0] ++ List.replicate 256 (Value.int .u8 0) ++ []).toArray := by kernel_rfl
  rw [← h3] at h2
  refine h2.trans ?_
  rw [crow]
  apply Array.toList_inj.1
  simp
theorem piece_of {A : Option Addr} {n i : Nat} {x : Option Addr × Nat} (hx : (pieces A n)[i]? = some x) : i < (n + 15) / 16 ∧ x = piece A n i ∧ (List.take i (pieces A n)).length = i ∧ (List.take (i + 1) (pieces A n)).length = i + 1 := by
  have h1 := (List.getElem?_eq_some_iff.1 hx).1
  simp only [pieces, List.length_map, List.length_range] at h1
  simp only [pieces, List.getElem?_map, List.getElem?_range h1, Option.map_some, Option.some.injEq] at hx
  exact ⟨h1, hx.symm, by simp [pieces]; omega, by simp [pieces]; omega⟩
theorem piece_rd {w : World} {A : Option Addr} {n c : Nat} {xs : List Int} (hr : Rd w A c xs) (hn : n = xs.length) {i : Nat} (hi : i < (n + 15) / 16) :
    ∃ b off, A.map (·.add (16 * i)) = some ⟨b, off, none⟩ ∧ w.rangeAt b off (w8 ((xs.drop (16 * i)).take 16)).toList ∧ min 16 (n - 16 * i) = ((xs.drop (16 * i)).take 16).length := by
  obtain ⟨b, off, hA, hc⟩ := hr.cells (by omega)
  refine ⟨b, off + 16 * i, ?_, ?_, by simp; omega⟩
  · rw [hA]; simp only [Option.map_some, Addr.add]; split <;> simp_all
  · intro j v hv
    have hj : j < ((xs.drop (16 * i)).take 16).length := by simpa [w8] using (List.getElem?_eq_some_iff.1 hv).1
    simp only [List.length_take, List.length_drop] at hj
    rw [show off + 16 * i + j = off + (16 * i + j) by omega, hc _ (by omega)]
    have h2 : (w8 ((xs.drop (16 * i)).take 16))[j]? = some v := by simpa using hv
    rw [w8_get _ _ (by simp; omega)] at h2
    rw [← h2]
    congr 2
    simp only [List.getD_eq_getElem?_getD, List.getElem?_take, List.getElem?_drop]
    rw [if_pos (by omega)]
theorem crow_get (sv : Value) : (crow sv)[0]? = some sv := by rw [crow, Array.getElem?_append_left (by simp)]; rfl
theorem crow_set (sv u : Value) : (crow sv).setIfInBounds 0 u = crow u := by
  rw [crow, crow, Array.setIfInBounds_append_left (by simp)]; rfl
def flat16 (ks : List (List Int)) : List Value := ks.flatMap fun k => k.map (Value.int .u8)
theorem flat16_len (ks : List (List Int)) (h : ∀ k ∈ ks, k.length = 16) : (flat16 ks).length = ks.length * 16 := by
  induction ks with
  | nil => rfl
  | cons k ks ih =>
    have h1 := h k (by simp)
    have h2 := ih (fun x hx => h x (by simp [hx]))
    simp only [flat16, List.flatMap_cons, List.length_append, List.length_map, List.length_cons, h1] at h2 ⊢
    omega
/-- An owned row of blocks. -/
def OwnK (w : World) (base : Nat) (v : Value) (ks : List (List Int)) : Prop := w.ownsRow base 50 16 v ks.length (flat16 ks)
def keyAt (kb : List Int) (i : Nat) : List Int := (kb.drop (16 * i)).take 16
def keysUp (kb : List Int) (n : Nat) : List (List Int) := (List.range n).map (keyAt kb)
theorem OwnK.nil (w : World) (base : Nat) : OwnK w base (.slice none 0 0) [] := World.ownsRow_nil _ _ _ _
theorem OwnK.keep {w w' : World} {base : Nat} {v : Value} {ks : List (List Int)} (h : OwnK w base v ks) (hk : ∀ g cs t fr, v.ownBlock = some g → w.heap[g]? = some (.cells cs t fr) → w'.heap[g]? = some (.cells cs t fr)) : OwnK w' base v ks := by
  refine ⟨h.1, ?_⟩
  rcases h.2 with h2 | ⟨g, cap, cur, rfl, h1, hg, r⟩
  · exact .inl h2
  · exact .inr ⟨g, cap, cur, rfl, h1, hk g _ _ _ rfl hg, r⟩
theorem OwnK.lt {w : World} {base : Nat} {v : Value} {ks : List (List Int)} (h : OwnK w base v ks) : ∀ g, v.ownBlock = some g → base ≤ g ∧ g < w.heap.size := World.ownsRow.lt h
/-- What holds between two rounds. -/
structure KeyI (B0 Bk cb : Nat) (A1 : Option Addr) (c1 : Nat) (kb : List Int) (w0 : World) (n : Nat) (X : List Nat) (w : World) : Prop where
  ex : ∃ A c, w.heap[cb]? = some (.cells (crow (.slice A n c)) 104 (0, 0)) ∧ OwnK w Bk (.slice A n c) (keysUp kb n) ∧ (∀ x ∈ X, ∀ a, A = some a → x ≠ a.block)
  cp : w.heap[cb + 1]? = some (.cells #[.pointer (some ⟨cb, 0, none⟩)] 53 (0, 0))
  txt : Rd w A1 c1 kb
  bel : Below B0 w0 w
  x : ∀ x ∈ X, x ≠ cb
  big : Bk ≤ w.heap.size
theorem KeyI.stable {B0 Bk cb : Nat} {A1 : Option Addr} {c1 : Nat} {kb : List Int} {w0 : World} {n : Nat} {X X' : List Nat} {A A' : World} {B : Nat} (h : KeyI B0 Bk cb A1 c1 kb w0 n X A) (hT : Turn B A A') (hB : B0 ≤ B) (hcb : B0 ≤ cb)
    (hX : ∀ k ∈ X', (k ∈ X ∨ A.heap.size ≤ k) ∧ k < A'.heap.size) : KeyI B0 Bk cb A1 c1 kb w0 n X' A' := by
  obtain ⟨K, c, h1, h2, h3⟩ := h.ex
  refine ⟨⟨K, c, cells_turn hT h1, h2.keep (fun g cs t fr _ hg => cells_turn hT hg), fun x hx a ha => ?_⟩, cells_turn hT h.cp, h.txt.turn hT, h.bel.trans ⟨hT.os, hT.tape, hT.output, ?_, ?_⟩, fun x hx => ?_, Nat.le_trans h.big hT.size⟩
  · rcases (hX x hx).1 with h4 | h4
    · exact h3 x h4 a ha
    · have := (h2.lt a.block (by rw [ha]; rfl)).2; omega
  · exact hT.size
  · intro k hk
    rcases hT.block k (Nat.lt_trans (Nat.lt_of_lt_of_le hk hcb) (blk_lt h1)) with h4 | ⟨h4, _⟩
    · exact h4
    · omega
  · rcases (hX x hx).1 with h4 | h4
    · exact h.x x h4
    · have := blk_lt h1; omega
theorem yields_load_mid8 {P : Program} {o : Oper} {a : Act} {W : World} (ty : TypeId) (x : Operand) (ho : o.op = .load ty x) (b i : Nat) (hx : a.eval x = .pointer (some ⟨b, i, none⟩)) (l : List Int) (d : TypeDesc) (hc : W.rangeAt b i (w8 l).toList)
    (hu : P.underlying ty = some d) (hd : d.isRow = true) (hi : (P.info? ty).map (·.size) = some l.length) : (execOp a.eval o).run P W = .ok (.value (.agg (w8 l))) W := by
  have := yields_load_mid (P := P) (o := o) (a := a) (W := W) ty x ho b i hx (w8 l).toList d hc hu hd (by rw [hi]; simp [w8])
  simpa using this
theorem run_arrayAt16 (b o : Nat) (W : World) : (Instr.arrayAt 50 (.slice (some ⟨b, o, none⟩) 16 16)).run Tryd.prog W = .ok (.pointer (some ⟨b, o, none⟩)) W := by kernel_rfl
theorem setAll_all (vs cs : Array Value) (h : cs.size = vs.size) : setAll cs 0 vs.toList = vs := by
  have := setAll_list [] vs.toList cs.toList [] (by simpa using h)
  simp only [List.nil_append, List.append_nil, List.length_nil] at this
  rw [show cs = cs.toList.toArray by simp, this]
theorem list16 (l : List Int) (h : l.length = 16) : ∃ a0 a1 a2 a3 a4 a5 a6 a7 a8 a9 a10 a11 a12 a13 a14 a15, l = [a0, a1, a2, a3, a4, a5, a6, a7, a8, a9, a10, a11, a12, a13, a14, a15] := by
  match l, h with
  | [a0, a1, a2, a3, a4, a5, a6, a7, a8, a9, a10, a11, a12, a13, a14, a15], _ => exact ⟨a0, a1, a2, a3, a4, a5, a6, a7, a8, a9, a10, a11, a12, a13, a14, a15, rfl⟩
theorem run_buildSlice16' (a0 a1 a2 a3 a4 a5 a6 a7 a8 a9 a10 a11 a12 a13 a14 a15 : Int) (W : World) : (Instr.buildSlice 102 1 #[(0, .agg (w8 [a0, a1, a2, a3, a4, a5, a6, a7, a8, a9, a10, a11, a12, a13, a14, a15]))]).run Tryd.prog W = .ok (.slice (some ⟨W.heap.size, 0, none⟩) 1 1) (W.alloc (.cells (w8 [a0, a1, a2, a3, a4, a5, a6, a7, a8, a9, a10, a11, a12, a13, a14, a15]) 50)) := by
  kernel_rfl
theorem run_buildSlice16 (part : List Int) (h : part.length = 16) (W : World) : (Instr.buildSlice 102 1 #[(0, .agg (w8 part))]).run Tryd.prog W = .ok (.slice (some ⟨W.heap.size, 0, none⟩) 1 1) (W.alloc (.cells (w8 part) 50)) := by
  obtain ⟨a0, a1, a2, a3, a4, a5, a6, a7, a8, a9, a10, a11, a12, a13, a14, a15, rfl⟩ := list16 part h
  exact run_buildSlice16' a0 a1 a2 a3 a4 a5 a6 a7 a8 a9 a10 a11 a12 a13 a14 a15 W
theorem yields_buildSlice16 {o : Oper} {a : Act} {W : World} (x : Operand) (ho : o.op = .buildSlice 102 1 #[(0, x)]) (part : List Int) (hx : a.eval x = .agg (w8 part)) (h : part.length = 16) :
    (execOp a.eval o).run Tryd.prog W = .ok (.value (.slice (some ⟨W.heap.size, 0, none⟩) 1 1)) (W.alloc (.cells (w8 part) 50)) := by
  unfold execOp
  have h1 := run_buildSlice16 part h W
  simp only [ho, List.map_toArray, List.map_cons, List.map_nil, hx, Sem.run_bind, h1, Result.andThen_ok, Sem.run_pure]
theorem wpList_run {P : Program} {ops : Array Oper} {Q : Exit → Act → World → Prop} {o : Oper} {rest : List Oper} {a : Act} {w w' : World} (hgd : o.guard = none) (v : Value) (hr : (execOp a.eval o).run P w = .ok (.value v) w') (h : wpList P ops Q rest (a.put o.dst v) w') : wpList P ops Q (o :: rest) a w := by
  refine wpList_plain hgd fun K hK => ?_
  unfold Oper.wp
  rw [hr]
  exact hK _ _ h
theorem info16 : (Tryd.prog.info? 50).map (fun i => (i.zero, i.size, i.bytes)) = some (some (.agg (w8 (List.replicate 16 0))), 16, 16) := by kernel_rfl
/-- 'append(v, k)', v an owned row of blocks, k one that lies in a block of its own. -/
theorem OwnK.app {w : World} {base : Nat} {A : Option Addr} {n c : Nat} {ks : List (List Int)} (h : OwnK w base (.slice A n c) ks) (hn : n = ks.length) (hks : ∀ k ∈ ks, k.length = 16) (hbase : base ≤ w.heap.size) (b : Nat) (part : List Int) (hp : part.length = 16) (c2 : Nat) (fr : Nat × Nat)
    (hb : w.heap[b]? = some (.cells (w8 part) 50 fr)) (hl : n ≤ 1000000) (ty : TypeId) :
    ∃ A' c' w', (Builtin.append_ #[102, 102] ty #[.slice A n c, .slice (some ⟨b, 0, none⟩) 1 c2]).run Tryd.prog w = .ok (.slice A' (n + 1) c') w' ∧ OwnK w' base (.slice A' (n + 1) c') (ks ++ [part]) ∧ w.grownBy w' ((Value.slice A n c).ownBlock) ∧
      ((Value.slice A' (n + 1) c').ownBlock = (Value.slice A n c).ownBlock ∨ (Value.slice A' (n + 1) c').ownBlock = some w.heap.size) := by
  obtain ⟨i0, hi, hz0, hz1, hz2⟩ := info_parts info16
  obtain ⟨v', w', hrun, h1, h2, _, h3⟩ := run_append_own_at (P := Tryd.prog) w base 102 ty 50 i0 _ 16 16 Tryd.underlying102 hi hz0 hz1 hz2 (by simp [Value.cells, w8_size]) (by decide) _ _ _ h ⟨b, 0, none⟩ 1 c2 (part.map (Value.int .u8)) (by simp [hp])
    (fun j u hj => by
      have ha : (⟨b, 0, none⟩ : Addr).add j = ⟨b, 0 + j, none⟩ := by unfold Addr.add; split <;> simp_all
      rw [ha, Nat.zero_add]
      exact blk_cell hb j (by rw [← hj]; simp [w8])) (fun u hu => by obtain ⟨z, _, rfl⟩ := List.mem_map.1 hu; rfl) (by simp only [maxLen]; omega) (by omega) hbase
  have hown : OwnK w' base v' (ks ++ [part]) := by
    have : flat16 (ks ++ [part]) = flat16 ks ++ part.map (Value.int .u8) := by simp [flat16]
    rw [OwnK, this, List.length_append]
    exact h1
  rcases hown.2 with ⟨_, h0⟩ | ⟨g, cap, cur, rfl, _⟩
  · simp at h0
  · have e : (ks ++ [part]).length = ks.length + 1 := by simp
    subst hn
    rw [e] at hrun h3 hown
    exact ⟨some ⟨g, 0, none⟩, cap, w', hrun, hown, h2, h3⟩
/-- The eleven keys of a key. -/
def cKeys (K : List Int) : List (List Int) := keysUp (ksch K 40).1 11
theorem cKeys_len (K : List Int) : (cKeys K).length = 11 := by simp [cKeys, keysUp]
theorem cKeys_16 (K : List Int) (hK : K.length = 16) : ∀ k ∈ cKeys K, k.length = 16 := fun k hk => by
  obtain ⟨j, hj, rfl⟩ := List.mem_map.1 hk
  rw [List.mem_range] at hj
  have := ksch_len K hK 40
  simp only [keyAt, List.length_take, List.length_drop]
  omega
/-- A cipher of a key. -/
def IsC (w : World) (cb : Nat) (K : List Int) : Prop := ∃ A c base, w.heap[cb]? = some (.cells (crow (.slice A 11 c)) 104 (0, 0)) ∧ OwnK w base (.slice A 11 c) (cKeys K)
theorem IsC.lt {w : World} {cb : Nat} {K : List Int} (h : IsC w cb K) : cb < w.heap.size := by obtain ⟨A, c, base, h1, _⟩ := h; exact blk_lt h1
theorem IsC.turn {w w' : World} {cb B : Nat} {K : List Int} (h : IsC w cb K) (hT : Turn B w w') : IsC w' cb K := by
  obtain ⟨A, c, base, h1, h2⟩ := h
  exact ⟨A, c, base, cells_turn hT h1, h2.keep (fun g cs t fr _ hg => cells_turn hT hg)⟩
theorem IsC.below {w w' : World} {cb : Nat} {K : List Int} (h : IsC w cb K) (hT : Below w.heap.size w w') : IsC w' cb K := h.turn (.of_below (B := 0) hT)
theorem Turn.below {B : Nat} {w w' : World} (h : Turn B w w') (hB : B ≤ w.heap.size) : Below B w w' :=
  ⟨h.os, h.tape, h.output, h.size, fun k hk => (h.block k (Nat.lt_of_lt_of_le hk hB)).elim id fun h1 => by omega⟩
end Go.Proofs.YtiboflejmnjdhaaDoor
end
section
set_option linter.unusedVariables false
set_option linter.unusedSimpArgs false
set_option maxRecDepth 100000
namespace Go.Proofs.YtiboflejmnjdhaaDoor
open Go Go.RowKit
set_option maxHeartbeats 2000000 in
theorem aesnew_any (A : Option Addr) (c : Nat) (K : List Int) (hK : K.length = 16) (hb : By8 K) (w : World) (hr : Rd w A c K) :
    Calls Tryd.prog 21 #[.slice A 16 c] w fun e w' => ∃ cb, e = .returned (.tuple #[.pointer (some ⟨cb, 0, none⟩), .int .i64 0]) ∧ w.heap.size ≤ cb ∧ IsC w' cb K ∧ Below w.heap.size w w' := by
  have HK := Lib.hid hK
  have Hb := Lib.hid hb
  have Hr := Lib.hid hr
  have hfb := field_box
  have Hcl : Hid (∀ W, Rd W A c K → Calls Tryd.prog 33 #[.slice A 16 c] W fun e w' => ∃ v, e = .returned v ∧ Own w' W.heap.size v K ∧ Below W.heap.size W w') := Lib.hid (fun W h => by have := clone_any A c K W h (by omega); rwa [hK] at this)
  have Hsz : Hid ((Tryd.prog.info? 97).map (·.size) = some (w8 aesBox).size) := Lib.hid (by rw [w8_size, aesBox, boxUp_len]; kernel_rfl)
  have Hold : Hid (Tryd.zeroCells97.size = (w8 aesBox).size) := Lib.hid (by rw [w8_size, aesBox, boxUp_len]; kernel_rfl)
  clear hK hb hr
  refine calls_of_marks Tryd.func21 rfl ?_
  simp only [Tryd.ntmps21, List.size_toArray, List.length_cons, List.length_nil, Nat.reduceAdd, Nat.reduceSub, Array.replicate_succ, Array.replicate_zero, List.push_toArray, List.append_toArray, List.nil_append, List.cons_append]
  go_wp2_with (first
    | (go_at_call 45; go_must (refine (build_any _).mono ?_; rintro e w1 ⟨rfl, hb1⟩; have Hb1 := Lib.hid hb1; clear hb1))
    | (with_reducible refine wpList_store_new rfl 97 _ _ rfl _ rfl rfl _ _ Hsz.out Hold.out (w8_one _) ?_)
    | (go_at_call 33; go_must (refine (Hcl.out _ ((Hr.out.below Hb1.out).alloc _)).mono ?_; rintro e w2 ⟨v, rfl, ho, hb2⟩; obtain ⟨A0, c0, rfl, _, _⟩ := ho.rd; have Ho := Lib.hid ho; have Hb2 := Lib.hid hb2; clear ho hb2)))
  clear hfb Hcl
  have Hbx : Hid (w2.heap[w1.heap.size]? = some (.cells (w8 aesBox) 97 (0, 0))) := Lib.hid (below_at Hb2.out (new_at rfl) (by simp))
  have hAl : A0 = A0 := rfl
  obtain ⟨B0, hB0⟩ : ∃ B0, B0 = w1.heap.size + 1 := ⟨_, rfl⟩
  have Ho' : Hid (Own w2 B0 (.slice A0 16 c0) (ksch K 0).1) := Lib.hid (by have := Ho.out; rw [hB0, ← HK.out]; simpa [ksch] using this)
  rw [HK.out]
  have Hb3 : Hid (Below B0 (w1.alloc (.cells (w8 aesBox) 97)) w2) := Lib.hid (by rw [hB0]; simpa using Hb2.out)
  have HB0 := Lib.hid hB0
  clear hAl hB0 Ho Hb2
  go_loopw [6, 7, 35] (fun s p i wr => ∃ (n L : Nat) (A' : Option Addr) (c' : Nat), n ≤ 40 ∧ Hid (L = 16 + 4 * n) ∧ i = .int .i64 n ∧ p = .int .u8 (ksch K n).2 ∧ s = .slice A' L c' ∧ Hid (Own wr B0 (.slice A' L c') (ksch K n).1) ∧ Hid (wr.heap[w1.heap.size]? = some (.cells (w8 aesBox) 97 (0, 0))) ∧ Hid (Below B0 (w1.alloc (.cells (w8 aesBox) 97)) wr))
    (fun _ _ i _ => 40 - (intOf i).toNat)
  case atStart => exact ⟨0, 16, A0, c0, by omega, Lib.hid rfl, rfl, rfl, rfl, Ho', Hbx, Hb3⟩
  case round =>
    clear Ho' Hbx Hb3
    obtain ⟨n, L, A1, c1, hn, HL, rfl, rfl, rfl, Ho, Hbx, HB⟩ := hrel
    obtain ⟨wo, rfl⟩ : ∃ wo : World, wo = wr := ⟨_, rfl⟩
    by_cases hlt : n < 40
    ·
      --[
      obtain ⟨all, hall⟩ : ∃ all, all = (ksch K n).1 := ⟨_, rfl⟩
      have hl : all.length = L := by rw [hall, HL.out]; exact ksch_len K HK.out n
      have hL1 : 16 ≤ L := by rw [HL.out]; omega
      have hL2 : L ≤ 176 := by rw [HL.out]; omega
      rw [← hall] at Ho
      obtain ⟨g, rfl, hu, ha⟩ := Ho.out.at8 (by omega)
      clear hu
      obtain ⟨A', hcut, hA', _⟩ := cut_lo (some ⟨g, 0, none⟩) L c1 (L - 4) (by omega)
      have hcut := hcut .i64
      have h12 : ((L - 4 : Nat) : Int) = (L : Int) - 4 := by omega
      rw [show L - (L - 4) = 4 by omega, h12] at hcut
      obtain ⟨cx0, hcx0⟩ : ∃ cx0, cx0 = c1 - (L - 4) := ⟨_, rfl⟩
      rw [← hcx0] at hcut hA'
      have HA := Lib.hid ha
      have Hall := Lib.hid hall
      have Hl := Lib.hid hl
      have Hx0 : Hid (Rd wo A' cx0 (tail4 all)) := Lib.hid (by rw [tail4, hl]; exact hA' wo all (by omega) ha.rd)
      have Hcl : Hid (Calls Tryd.prog 33 #[.slice A' 4 cx0] wo fun e w' => ∃ v, e = .returned v ∧ Own w' wo.heap.size v (tail4 all) ∧ Below wo.heap.size wo w') := Lib.hid (by
        have := clone_any A' _ (tail4 all) wo Hx0.out (by rw [tail4_len (by omega)]; omega); rwa [tail4_len (by omega)] at this)
      clear ha hA' hall hl hcx0 h12
      go_upto_block 2 with (go_at_call 33; go_must (refine Hcl.out.mono ?_; rintro e wc ⟨v, rfl, ho, hbc⟩; obtain ⟨A0, cx, rfl, _, _⟩ := ho.rd; have Hox := Lib.hid ho; have Hbc := Lib.hid hbc; clear ho hbc))
      have ht4 : (tail4 all).length = 4 := tail4_len (by rw [Hl.out]; exact Nat.le_trans (by omega) hL1)
      obtain ⟨gx, rfl, hu, hax⟩ := Hox.out.at8 (by rw [ht4]; omega)
      rw [ht4]
      have Hax := Lib.hid hax
      have Ht4 := Lib.hid ht4
      clear hu hax ht4 Hox Hx0 Hcl hcut
      go_cut [7, 9, 10, 11] from 47 to 105 (fun s7 s9 s10 s11 wx => ∃ (g' off' c' : Nat), s7 = .int .u8 (ksch K (n + 1)).2 ∧ s9 = .slice (some ⟨g', off', none⟩) 4 c' ∧ Hid (At8 wx wo.heap.size g' off' c' (preX n all (ksch K n).2)) ∧ Hid (Below wo.heap.size wc wx))
      case first =>
        have hHBc : Hid (wc.heap[w1.heap.size]? = some (.cells (w8 aesBox) 97 (0, 0))) := Lib.hid (below_at Hbc.out Hbx.out (blk_lt Hbx.out))
        obtain ⟨x, hx⟩ : ∃ x, x = tail4 all := ⟨_, rfl⟩
        rw [← hx] at Hax Ht4
        have Hx := Lib.hid hx
        clear hx
        by_cases hm : n % 4 = 0
        · have hm1 : (n : Int) % 4 = 0 := by omega
          have hc0 := Hax.out.cell 0 (by rw [Ht4.out]; omega)
          simp only [Nat.zero_add] at hc0
          obtain ⟨x0, hx0⟩ : ∃ x0, x0 = x.getD 0 0 := ⟨_, rfl⟩
          rw [← hx0] at hc0
          have Hx0 := Lib.hid hx0
          have hle := Hax.out.le
          rw [Ht4.out] at hle
          have hne : ¬ cx = 1 := by omega
          clear hx0
          go_upto_region 13 with (fail)
          refine seg_begin (fun W => W.cell? ⟨gx, 0, none⟩ = some (.int .u8 x0)) [4] (by kernel_rfl) ?_
          have HS : Hid (wc.drew.cell? ⟨gx, 0, none⟩ = some (.int .u8 x0)) := Lib.hid hc0
          (refine seg_take 0 ?_ rfl (by kernel_rfl) (by kernel_rfl) (by kernel_rfl) (by kernel_rfl) (by kernel_rfl) rfl (fun _ _ _ h => h) rfl ?_ ?_; rotate_left; (focus (intro w; go_simp; try with_reducible rfl)); (try simp only [List.getElem_toArray, List.getElem_cons_zero, List.getElem_cons_succ, Act.put, List.setIfInBounds_toArray, List.set_cons_zero, List.set_cons_succ]); refine seg_take 1 ?_ rfl (by kernel_rfl) (by kernel_rfl) (by kernel_rfl) (by kernel_rfl) (by kernel_rfl) rfl (fun _ _ _ h => h) rfl ?_ ?_; rotate_left; (focus (intro w; go_simp; try with_reducible rfl)); (try simp only [List.getElem_toArray, List.getElem_cons_zero, List.getElem_cons_succ, Act.put, List.setIfInBounds_toArray, List.set_cons_zero, List.set_cons_succ]); refine seg_take 2 ?_ rfl (by kernel_rfl) (by kernel_rfl) (by kernel_rfl) (by kernel_rfl) (by kernel_rfl) rfl (fun _ _ _ h => h) rfl ?_ ?_; rotate_left; (focus (intro w; go_simp; try with_reducible rfl)); (try simp only [List.getElem_toArray, List.getElem_cons_zero, List.getElem_cons_succ, Act.put, List.setIfInBounds_toArray, List.set_cons_zero, List.set_cons_succ]); refine seg_take 3 ?_ rfl (by kernel_rfl) (by kernel_rfl) (by kernel_rfl) (by kernel_rfl) (by kernel_rfl) rfl (fun _ _ _ h => h) rfl ?_ ?_; rotate_left; (focus (intro w; go_simp; try with_reducible rfl)); (try simp only [List.getElem_toArray, List.getElem_cons_zero, List.getElem_cons_succ, Act.put, List.setIfInBounds_toArray, List.set_cons_zero, List.set_cons_succ]); refine seg_read 4 ?_ rfl (by kernel_rfl) (by kernel_rfl) (by kernel_rfl) (by kernel_rfl) (by kernel_rfl) (by kernel_rfl) (fun _ _ _ h => h) rfl HS.out ?_ ?_; rotate_left; (focus (intro w hSw; (try dsimp only at hSw); go_split_ands; go_simp; try with_reducible rfl)); (try simp only [List.getElem_toArray, List.getElem_cons_zero, List.getElem_cons_succ, Act.put, List.setIfInBounds_toArray, List.set_cons_zero, List.set_cons_succ]))
          (refine seg_rest [5, 6, 7] _ _ _ (by kernel_rfl) ?_ _ rfl)
          (refine segs_out rfl ?_; (simp only [pick, List.getElem?_toArray, List.getElem_toArray, List.getElem_cons_zero, List.getElem_cons_succ, List.getElem?_cons_zero, List.getElem?_cons_succ, Act.put, List.setIfInBounds_toArray, List.set_cons_zero, List.set_cons_succ]))
          have hd1 := (((Hax.out.drop 1 (by rw [Ht4.out]; omega)).drewN 1).below ((Below.refl _ _).alloc (Nat.le_refl _) (.cells #[.int .u8 x0] 5)))
          have hd1l : (x.drop 1).length = 3 := by rw [List.length_drop, Ht4.out]
          obtain ⟨g2, o2, c2, wa, hrun, hat, hbel, hg2⟩ := hd1.app1 (by simp; exact Nat.le_succ_of_le Hbc.out.size) wc.heap.size 0 1 x0 (cell_new (i := 0) (by simp) rfl) 22 (by rw [hd1l]; omega)
          rw [hd1l] at hrun
          have Hrun := Lib.hid hrun
          have Hat := Lib.hid hat
          have Hbel := Lib.hid hbel
          have Hcw : Hid (wa.heap[w1.heap.size]? = some (.cells (w8 aesBox) 97 (0, 0))) := Lib.hid (below_at hbel (blk_alloc (w := wc.drew) hHBc.out _) (blk_lt Hbx.out))
          clear hd1 hd1l hrun hat hbel hg2 hc0 hle hne
          go_wp2_with (at_builtin; go_must (refine app_run rfl _ _ 22 rfl _ _ rfl rfl Hrun.out ?_))
          have hxr : By8 (x.drop 1 ++ [x0]) := by
            have hb1 : By8 x := by rw [Hx.out, tail4, Hall.out]; exact (ksch_by8 K HK.out Hb.out n).drop _
            rw [Hx0.out]
            exact (hb1.drop 1).app (fun y hy => by rw [List.mem_singleton] at hy; subst hy; exact hb1.get 0)
          have hxl : (x.drop 1 ++ [x0]).length = 4 := by simp [Ht4.out]
          obtain ⟨y, hy⟩ : ∃ y, y = x.drop 1 ++ [x0] := ⟨_, rfl⟩
          rw [← hy] at Hat hxr hxl
          have Hxr := Lib.hid hxr
          have Hxl := Lib.hid hxl
          have Hy := Lib.hid hy
          clear hxr hxl hy
          have Hq : Hid (At8 wa wo.heap.size g2 o2 c2 (boxX y 0)) := Hat
          go_loopw [61] (fun i wq => ∃ k : Nat, k ≤ 4 ∧ i = .int .i64 k ∧ Hid (At8 wq wo.heap.size g2 o2 c2 (boxX y k)) ∧ Hid (wq.heap[w1.heap.size]? = some (.cells (w8 aesBox) 97 (0, 0))) ∧ Hid (Below wo.heap.size wa wq))
            (fun i _ => 4 - (intOf i).toNat)
          case atStart => exact ⟨0, by omega, rfl, Hq, Hcw, Lib.hid (Below.refl _ _)⟩
          case round =>
            clear Hq Hcw Hat
            obtain ⟨k, hk, rfl, Hq, Hcw, HBq⟩ := hrel
            by_cases hk4 : k < 4
            · obtain ⟨z, hz⟩ : ∃ z, z = (boxX y k).getD k 0 := ⟨_, rfl⟩
              have hzr : 0 ≤ z ∧ z < 256 := by rw [hz, boxX_hi y k k (Nat.le_refl _)]; exact Hxr.out.get k
              obtain ⟨zn, rfl⟩ := Int.eq_ofNat_of_zero_le hzr.1
              have hzn : zn < 256 := by have := hzr.2; omega
              obtain ⟨u, hu⟩ : ∃ u, u = aesBox.getD zn 0 := ⟨_, rfl⟩
              have hc0 := Hq.out.cell k (by rw [boxX_len, Hxl.out]; exact hk4)
              have hf0 := Hq.out.frozen (o2 + k)
              have hcb := cell_w8 Hcw.out zn (by rw [aesBox, boxUp_len]; exact hzn)
              rw [← hz] at hc0
              rw [← hu] at hcb
              have Hz := Lib.hid hz
              have Hu := Lib.hid hu
              clear hz hu hzr
              go_wp2
              go_roundw
              case rel =>
                refine ⟨k + 1, by omega, by go_num, Lib.hid ?_, Lib.hid (blk_far Hcw.out (by have := Hq.out.ge; have := blk_lt Hbx.out; simp; omega) _), Lib.hid (HBq.out.setCell Hq.out.ge _)⟩
                rw [boxX, ← Hz.out, Int.toNat_natCast, ← Hu.out]
                exact Hq.out.set k (by rw [boxX_len, Hxl.out]; exact hk4) u
              case measure => simp [intOf]; omega
            · obtain rfl : k = 4 := by omega
              obtain ⟨z, hz⟩ : ∃ z, z = (boxX y 4).getD 0 0 := ⟨_, rfl⟩
              have hc0 := Hq.out.cell 0 (by rw [boxX_len, Hxl.out]; omega)
              have hf0 := Hq.out.frozen o2
              rw [← hz, Nat.add_zero] at hc0
              have Hz := Lib.hid hz
              clear hz
              go_wp2_with (go_at_call 46; go_must (refine (double_any _ _).mono ?_; rintro e w' ⟨rfl, rfl⟩))
              go_meet
              have hm4 : (n + 4) % 4 = 0 := by omega
              refine ⟨g2, o2, c2, by rw [ksch, if_pos hm4], rfl, Lib.hid ?_, Lib.hid ?_⟩
              · rw [preX, if_pos hm4, rotX, ← Hx.out, ← Hx0.out, ← Hy.out, ← Hz.out]
                exact Hq.out.set 0 (by rw [boxX_len, Hxl.out]; omega) _
              · exact ((((below_drewN (Below.refl wo.heap.size wc) 1).alloc (by simp; exact Hbc.out.size) _).trans (Hbel.out)).trans HBq.out).setCell Hq.out.ge _
        · have hm1 : ((n : Int) % 4 == 0) = false := by rw [beq_eq_false_iff_ne]; omega
          go_wp2
          go_meet
          have hm4 : ¬ (n + 4) % 4 = 0 := by omega
          refine ⟨gx, 0, cx, by rw [ksch, if_neg hm4], rfl, Lib.hid ?_, Lib.hid (Below.refl _ _)⟩
          rw [preX, if_neg hm4, ← Hx.out]
          exact Hax.out
      case rest =>
        rename World => wm
        obtain ⟨g2, o2, c2, rfl, rfl, Hax2, Hbx2⟩ := hcut
        obtain ⟨X, hX⟩ : ∃ X, X = preX n all (ksch K n).2 := ⟨_, rfl⟩
        have hXl : X.length = 4 := by rw [hX]; exact preX_len (by rw [Hl.out]; omega)
        rw [← hX] at Hax2
        have HX := Lib.hid hX
        have HXl := Lib.hid hXl
        clear hX hXl
        have Hq : Hid (At8 wm wo.heap.size g2 o2 c2 (xorUp X (all.drop (4 * n)) 0)) := Hax2
        have HBm : Hid (Below wo.heap.size wo wm) := Lib.hid (Hbc.out.trans Hbx2.out)
        clear Hax2
        go_wp2
        go_loopw [108] (fun i wr => ∃ k : Nat, k ≤ 4 ∧ i = .int .i64 k ∧ Hid (At8 wr wo.heap.size g2 o2 c2 (xorUp X (all.drop (4 * n)) k)) ∧ Hid (Below wo.heap.size wm wr))
          (fun i _ => 4 - (intOf i).toNat)
        case atStart => exact ⟨0, by omega, rfl, Hq, Lib.hid (Below.refl _ _)⟩
        case round =>
          clear Hq
          obtain ⟨k, hk, rfl, Hq, HBq⟩ := hrel
          by_cases hk4 : k < 4
          · obtain ⟨z, hz⟩ : ∃ z, z = (xorUp X (all.drop (4 * n)) k).getD k 0 := ⟨_, rfl⟩
            obtain ⟨u, hu⟩ : ∃ u, u = (all.drop (4 * n)).getD k 0 := ⟨_, rfl⟩
            have hc0 := Hq.out.cell k (by rw [xorUp_len, HXl.out]; exact hk4)
            have hf0 := Hq.out.frozen (o2 + k)
            have hL4 : 4 * n + k < L := by rw [HL.out]; omega
            have hca := ((HA.out.below HBm.out).keep (w' := wr) (HBq.out.block g HA.out.lt)).cell (4 * n + k) (by rw [Hl.out]; exact hL4)
            rw [← hz] at hc0
            have hu2 : all.getD (4 * n + k) 0 = u := by rw [hu]; simp [List.getD_eq_getElem?_getD, List.getElem?_drop]
            rw [hu2, Nat.zero_add] at hca
            have Hz := Lib.hid hz
            have Hu := Lib.hid hu
            clear hz hu hu2
            go_upto_region 30 with (fail)
            refine wp_region_quiet_tail_lit 15 (by kernel_rfl) (by kernel_rfl) ?_
            simp only [List.take_succ_cons, List.take_zero, List.drop_succ_cons, List.drop_zero]
            repeat (go_big_quiet_step (fail))
            refine wpQuiet_nil ?_
            rintro _ ⟨nq, rfl⟩
            go_wp2
            go_roundw
            case rel =>
              refine ⟨k + 1, by omega, by go_num, Lib.hid ?_, Lib.hid ((below_drewN HBq.out nq).setCell Hq.out.ge _)⟩
              rw [xorUp, ← Hz.out, ← Hu.out]
              exact (Hq.out.drewN nq).set k (by rw [xorUp_len, HXl.out]; exact hk4) _
            case measure => simp [intOf]; omega
          · obtain rfl : k = 4 := by omega
            have HoA : Hid (Own wr B0 (.slice (some ⟨g, 0, none⟩) L c1) all) := Lib.hid ((Ho.out.below HBm.out).keep (fun g' e _ => by cases e; exact HBq.out.block g HA.out.lt))
            have hB0 : B0 ≤ wo.heap.size := Nat.le_of_lt (Nat.lt_of_le_of_lt HA.out.ge HA.out.lt)
            have hB1 : B0 ≤ wr.heap.size := Nat.le_trans hB0 (Nat.le_trans HBm.out.size HBq.out.size)
            have hxl4 : (xorUp X (all.drop (4 * n)) 4).length = 4 := by rw [xorUp_len, HXl.out]
            have Hxl4 := Lib.hid hxl4
            clear hxl4
            go_wp2_with (at_builtin; go_must (refine app_rd rfl _ _ rfl B0 (.slice (some ⟨g, 0, none⟩) L c1) all rfl HoA.out _ _ _ (xorUp X (all.drop (4 * n)) 4) rfl Hxl4.out.symm Hq.out.rd (L + 4) (by rw [Hl.out, Hxl4.out]) (by rw [Hl.out, Hxl4.out]; omega) hB1 ?_; intro A5 c5 wz ho hg hat; have Ho5 := Lib.hid ho; have Hg5 := Lib.hid hg; clear ho hg hat))
            go_roundw
            case rel =>
              have hBz : Below B0 (w1.alloc (.cells (w8 aesBox) 97)) wz := ((HB.out.trans (HBm.out.mono hB0)).trans (HBq.out.mono hB0)).grown Hg5.out hB1 (fun j hj => by cases hj; exact HA.out.ge)
              refine ⟨n + 1, L + 4, A5, c5, by omega, Lib.hid (by rw [HL.out]; omega), by go_num, rfl, rfl, Lib.hid ?_, Lib.hid ?_, Lib.hid hBz⟩
              · rw [ksch, ← Hall.out, ← HX.out]
                exact Ho5.out
              · exact below_at hBz (new_at rfl) (by rw [HB0.out]; omega)
            case measure => simp [intOf]; omega
      --]
    · obtain rfl : n = 40 := by omega
      obtain ⟨kb, hkb⟩ : ∃ kb, kb = (ksch K 40).1 := ⟨_, rfl⟩
      rw [← hkb] at Ho
      have Hkb := Lib.hid hkb
      have HL2 : Hid (L = 176) := Lib.hid HL.out
      clear hkb
      go_upto_region 35 with (with_reducible refine wpList_load_row rfl 97 _ rfl w1.heap.size rfl _ _ (0, 0) _ Hbx.out Tryd.underlying97 rfl Hsz.out ?_)
      have hfold : Array.foldl (fun cs (x : Value × Nat) => cs.setIfInBounds (1 + x.snd) x.fst) Tryd.zeroCells104 (w8 aesBox).zipIdx 0 (w8 aesBox).size = crow (.slice none 0 0) := fold_crow
      rw [hfold]
      go_wp2_with (go_at_call 47; go_must (refine (chunk_any A1 L c1 _).mono ?_; rintro e wq ⟨rfl, hwq⟩; have Hwq := Lib.hid hwq; clear hwq))
      have hszq : wq.heap.size = wo.heap.size + 4 := by rw [Hwq.out]; simp
      have hBq : Below wo.heap.size wo wq := by rw [Hwq.out]; exact (((((Below.refl _ _).alloc (Nat.le_refl _) _).alloc (by simp) _).alloc (by simp; omega) _).alloc (by simp; omega) _)
      have hq0 : wq.heap[wo.heap.size]? = some (.cells (crow (.slice none 0 0)) 104 (0, 0)) := by rw [Hwq.out]; exact blk_alloc (blk_alloc (blk_alloc (new_at rfl) _) _) _
      have hq1 : wq.heap[wo.heap.size + 1]? = some (.cells #[.pointer (some ⟨wo.heap.size, 0, none⟩)] 53 (0, 0)) := by rw [Hwq.out]; exact blk_alloc (blk_alloc (new_at (by simp)) _) _
      have hc1 : wq.cell? ⟨wo.heap.size + 2, 0, none⟩ = some (.slice A1 L c1) := by
        refine blk_cell (t := 22) (cs := #[.slice A1 L c1]) (fr := (0, 0)) ?_ 0 rfl
        rw [Hwq.out]; exact blk_alloc (new_at (by simp)) _
      have hc2 : wq.cell? ⟨wo.heap.size + 3, 0, none⟩ = some (.int .i64 16) := by
        refine blk_cell (t := 3) (cs := #[.int .i64 16]) (fr := (0, 0)) ?_ 0 rfl
        rw [Hwq.out]; exact new_at (by simp)
      obtain ⟨hlen, hrd⟩ : L = kb.length ∧ Rd wo A1 c1 kb := by
        obtain ⟨A2, c2, e, hr, _⟩ := Ho.out.rd
        injection e with e1 e2 e3
        subst e1 e3
        exact ⟨e2, hr⟩
      have hK0 : KeyI wo.heap.size wq.heap.size wo.heap.size A1 c1 kb wo 0 [wo.heap.size + 2, wo.heap.size + 3] wq :=
        ⟨⟨none, 0, hq0, OwnK.nil _ _, by simp⟩, hq1, hrd.below hBq, hBq, by simp, Nat.le_refl _⟩
      have HK0 := Lib.hid hK0
      have Hc1 := Lib.hid hc1
      have Hc2 := Lib.hid hc2
      have Hszq := Lib.hid hszq
      clear hK0 hc1 hc2 hq0 hq1 hBq hszq hfold
      refine (wpIn_wide (n := 0)).1 (range_one (gf := 72) (lb := #[.pointer (some ⟨wo.heap.size + 2, 0, none⟩), .pointer (some ⟨wo.heap.size + 3, 0, none⟩)]) (enc := fun x : Option Addr × Nat => .slice x.1 x.2 x.2) (Pr := [wo.heap.size + 2, wo.heap.size + 3]) rfl (enters_of Tryd.func72 (by kernel_rfl) rfl)
        (chunk_gives (wo.heap.size + 2) (wo.heap.size + 3) A1 L c1 (by rw [hlen]; exact hrd.le) hrd.big (by rw [HL2.out]; decide) wq Hc1.out Hc2.out) (Below.refl _ _) (by simp)
        (fun Xi (s : List (Option Addr × Nat)) W' => KeyI wo.heap.size wq.heap.size wo.heap.size A1 c1 kb wo s.length Xi W') ?hI [wo.heap.size + 2, wo.heap.size + 3] (fun _ h => h) (by rw [Hszq.out]; simp) HK0.out ?body ?done)
      case hI => exact fun Xa Xb s A A' h hT h1 h2 => h.stable hT (by rw [Hszq.out]; omega) (Nat.le_refl _) h2
      case body =>
        rintro lr Xr i x Wr hx hltr hKr
        simp only [List.setIfInBounds_toArray, List.set_cons_zero, List.set_cons_succ]
        obtain ⟨hil, rfl, ht0, ht1⟩ := piece_of hx
        rw [ht0] at hKr
        rw [ht1]
        have hil11 : i < 11 := by have := HL2.out; omega
        obtain ⟨pb, po, hpa, hpr, hpl⟩ := piece_rd hrd hlen hil
        have hp16 : min 16 (L - 16 * i) = 16 := by rw [HL2.out]; omega
        simp only [piece]
        rw [hpa, hp16]
        obtain ⟨part, hpart⟩ : ∃ part, part = keyAt kb i := ⟨_, rfl⟩
        have hpl2 : part.length = 16 := by rw [hpart, keyAt, ← hpl, hp16]
        have hpblt : pb < wo.heap.size := by
          have h1 : (w8 ((kb.drop (16 * i)).take 16)).toList[0]? = some (.int .u8 (((kb.drop (16 * i)).take 16).getD 0 0)) := by
            have := w8_get ((kb.drop (16 * i)).take 16) 0 (by rw [← hpl, hp16]; omega)
            simpa using this
          exact World.block_lt_of_cell? wo _ (hpr 0 _ h1)
        have hpr2 : ∀ W, Below wo.heap.size wo W → W.rangeAt pb po (w8 part).toList := fun W hW j v hv => (hW.cell (p := ⟨pb, po + j, none⟩) hpblt).trans (hpr j v (by rw [hpart] at hv; exact hv))
        obtain ⟨Ak, ck, hk1, hk2, hk3⟩ := hKr.ex
        have hc0 := blk_cell (v := .slice Ak i ck) hk1 0 (crow_get _)
        have hc1 := blk_cell (v := .pointer (some ⟨wo.heap.size, 0, none⟩)) hKr.cp 0 rfl
        have HKr := Lib.hid hKr
        have Hk1 := Lib.hid hk1
        have Hk2 := Lib.hid hk2
        have Hk3 := Lib.hid hk3
        have Hpl2 := Lib.hid hpl2
        have Hpart := Lib.hid hpart
        have Hltr := Lib.hid hltr
        have Hi : Hid (i < 11) := Lib.hid hil11
        clear hx ht0 ht1 hil hpa hpr hpl hp16 hpart hKr hk1 hk2 hk3 hltr hpl2
        refine wpIn_block ?_
        refine seg_begin_r (fun W => W.cell? ⟨wo.heap.size + 1, 0, none⟩ = some (.pointer (some ⟨wo.heap.size, 0, none⟩)) ∧ W.cell? ⟨wo.heap.size, 0, none⟩ = some (.slice Ak i ck) ∧ Hid (W.rangeAt pb po (w8 part).toList)) [0, 1, 2, 3, 4, 6, 7, 8, 9] (by kernel_rfl) (by kernel_rfl) ?_
        have HS : Hid (Wr.drew.cell? ⟨wo.heap.size + 1, 0, none⟩ = some (.pointer (some ⟨wo.heap.size, 0, none⟩)) ∧ Wr.drew.cell? ⟨wo.heap.size, 0, none⟩ = some (.slice Ak i ck) ∧ Hid (Wr.drew.rangeAt pb po (w8 part).toList)) := Lib.hid ⟨hc1, hc0, Lib.hid (hpr2 _ HKr.out.bel.drew)⟩
        have Hpr := Lib.hid hpr2
        clear hc1 hc0 hpr2
        (refine seg_take 5 ?_ rfl (by kernel_rfl) (by kernel_rfl) (by kernel_rfl) (by kernel_rfl) (by kernel_rfl) rfl (fun _ _ _ h => h) rfl ?_ ?_; rotate_left; (focus (intro w; go_simp; try with_reducible rfl)); (try simp only [List.getElem_toArray, List.getElem_cons_zero, List.getElem_cons_succ, Act.put, List.setIfInBounds_toArray, List.set_cons_zero, List.set_cons_succ]); refine seg_read 0 ?_ rfl (by kernel_rfl) (by kernel_rfl) (by kernel_rfl) (by kernel_rfl) (by kernel_rfl) (by kernel_rfl) (fun _ _ _ h => h) rfl HS.out ?_ ?_; rotate_left; (focus (intro w hSw; (try dsimp only at hSw); go_split_ands; go_simp; try with_reducible rfl)); (try simp only [List.getElem_toArray, List.getElem_cons_zero, List.getElem_cons_succ, Act.put, List.setIfInBounds_toArray, List.set_cons_zero, List.set_cons_succ]); refine seg_read 1 ?_ rfl (by kernel_rfl) (by kernel_rfl) (by kernel_rfl) (by kernel_rfl) (by kernel_rfl) (by kernel_rfl) (fun _ _ _ h => h) rfl HS.out ?_ ?_; rotate_left; (focus (intro w hSw; (try dsimp only at hSw); go_split_ands; go_simp; try with_reducible rfl)); (try simp only [List.getElem_toArray, List.getElem_cons_zero, List.getElem_cons_succ, Act.put, List.setIfInBounds_toArray, List.set_cons_zero, List.set_cons_succ]); refine seg_read 2 ?_ rfl (by kernel_rfl) (by kernel_rfl) (by kernel_rfl) (by kernel_rfl) (by kernel_rfl) (by kernel_rfl) (fun _ _ _ h => h) rfl HS.out ?_ ?_; rotate_left; (focus (intro w hSw; (try dsimp only at hSw); go_split_ands; go_simp; try with_reducible rfl)); (try simp only [List.getElem_toArray, List.getElem_cons_zero, List.getElem_cons_succ, Act.put, List.setIfInBounds_toArray, List.set_cons_zero, List.set_cons_succ]); refine seg_read 3 ?_ rfl (by kernel_rfl) (by kernel_rfl) (by kernel_rfl) (by kernel_rfl) (by kernel_rfl) (by kernel_rfl) (fun _ _ _ h => h) rfl HS.out ?_ ?_; rotate_left; (focus (intro w hSw; (try dsimp only at hSw); go_split_ands; go_simp; try with_reducible rfl)); (try simp only [List.getElem_toArray, List.getElem_cons_zero, List.getElem_cons_succ, Act.put, List.setIfInBounds_toArray, List.set_cons_zero, List.set_cons_succ]); refine seg_read 4 ?_ rfl (by kernel_rfl) (by kernel_rfl) (by kernel_rfl) (by kernel_rfl) (by kernel_rfl) (by kernel_rfl) (fun _ _ _ h => h) rfl HS.out ?_ ?_; rotate_left; (focus (intro w hSw; (try dsimp only at hSw); go_split_ands; go_simp; try with_reducible rfl)); (try simp only [List.getElem_toArray, List.getElem_cons_zero, List.getElem_cons_succ, Act.put, List.setIfInBounds_toArray, List.set_cons_zero, List.set_cons_succ]))
        (refine seg_read 6 (.pointer (some ⟨pb, po, none⟩)) rfl (by kernel_rfl) (by kernel_rfl) (by kernel_rfl) (by kernel_rfl) (by kernel_rfl) (by kernel_rfl) (fun _ _ _ h => h) rfl HS.out (fun W hW => by unfold execOp; go_simp; rw [run_arrayAt16]; rfl) ?_; (try simp only [List.getElem_toArray, List.getElem_cons_zero, List.getElem_cons_succ, Act.put, List.setIfInBounds_toArray, List.set_cons_zero, List.set_cons_succ]))
        have Hsz16 : Hid ((Tryd.prog.info? 50).map (·.size) = some part.length) := Lib.hid (by rw [Hpl2.out]; kernel_rfl)
        (refine seg_read 7 (.agg (w8 part)) rfl (by kernel_rfl) (by kernel_rfl) (by kernel_rfl) (by kernel_rfl) (by kernel_rfl) (by kernel_rfl) (fun _ _ _ h => h) rfl HS.out (fun W hW => yields_load_mid8 50 _ rfl pb po rfl part _ hW.2.2.out Tryd.underlying50 rfl Hsz16.out) ?_; (try simp only [List.getElem_toArray, List.getElem_cons_zero, List.getElem_cons_succ, Act.put, List.setIfInBounds_toArray, List.set_cons_zero, List.set_cons_succ]))
        skip
        (refine anyB_step 8 rfl (by kernel_rfl) ?_; (try simp only [List.getElem_toArray, List.getElem_cons_zero, List.getElem_cons_succ]))
        refine wpList_run rfl (.slice (some ⟨Wr.heap.size, 0, none⟩) 1 1) (yields_buildSlice16 _ rfl part rfl Hpl2.out) ?_
        have hB2 : Below Wr.heap.size Wr (Wr.drew.alloc (.cells (w8 part) 50)) := (Below.refl _ _).drew.alloc (Nat.le_refl _) _
        obtain ⟨W2, hW2⟩ : ∃ W2, W2 = Wr.drew.alloc (.cells (w8 part) 50) := ⟨_, rfl⟩
        have hblk2 : W2.heap[Wr.heap.size]? = some (.cells (w8 part) 50 (0, 0)) := by rw [hW2]; exact new_at rfl
        rw [← hW2] at hB2 ⊢
        have hc0 : W2.cell? ⟨wo.heap.size, 0, none⟩ = some (.slice Ak i ck) := blk_cell (below_at hB2 Hk1.out (blk_lt Hk1.out)) 0 (crow_get _)
        have hc1 : W2.cell? ⟨wo.heap.size + 1, 0, none⟩ = some (.pointer (some ⟨wo.heap.size, 0, none⟩)) := blk_cell (below_at hB2 HKr.out.cp (blk_lt HKr.out.cp)) 0 rfl
        have hBw : Below wo.heap.size wo W2 := HKr.out.bel.trans (hB2.mono (Nat.le_of_lt (blk_lt Hk1.out)))
        refine (show wpList _ _ _ [] _ _ from ⟨fun _ => ⟨hc1, hc0, Lib.hid (Hpr.out _ hBw)⟩, ?_⟩)
        simp only [Act.put, List.setIfInBounds_toArray, List.set_cons_zero, List.set_cons_succ]
        have hk2' : OwnK W2 wq.heap.size (.slice Ak i ck) (keysUp kb i) := Hk2.out.keep (fun g cs t fr _ hg => below_at hB2 hg (blk_lt hg))
        have hkl : (keysUp kb i).length = i := by simp [keysUp]
        have hk16 : ∀ k ∈ keysUp kb i, k.length = 16 := fun k hk => by
          obtain ⟨j, hj, rfl⟩ := List.mem_map.1 hk
          rw [List.mem_range] at hj
          have h1 := Hi.out
          have h2 := HL2.out
          simp only [keyAt, List.length_take, List.length_drop]
          omega
        have hbig : wq.heap.size ≤ W2.heap.size := Nat.le_trans HKr.out.big hB2.size
        obtain ⟨A3, c3, w3, hrun, hk3, hg3, hb3⟩ := hk2'.app hkl.symm hk16 hbig Wr.heap.size part Hpl2.out 1 _ hblk2 (by have := Hi.out; omega) 102
        have hne0 : some wo.heap.size ≠ (Value.slice Ak i ck).ownBlock := fun e => by have := (hk2'.lt _ e.symm).1; have := Hszq.out; omega
        have hne1 : some (wo.heap.size + 1) ≠ (Value.slice Ak i ck).ownBlock := fun e => by have := (hk2'.lt _ e.symm).1; have := Hszq.out; omega
        have hcb3 : w3.heap[wo.heap.size]? = some (.cells (crow (.slice Ak i ck)) 104 (0, 0)) := (hg3.block _ (blk_lt (below_at hB2 Hk1.out (blk_lt Hk1.out))) hne0).trans (below_at hB2 Hk1.out (blk_lt Hk1.out))
        have hcp3 : w3.heap[wo.heap.size + 1]? = some (.cells #[.pointer (some ⟨wo.heap.size, 0, none⟩)] 53 (0, 0)) := (hg3.block _ (blk_lt (below_at hB2 HKr.out.cp (blk_lt HKr.out.cp))) hne1).trans (below_at hB2 HKr.out.cp (blk_lt HKr.out.cp))
        have hBw3 : Below wo.heap.size wo w3 := hBw.grown hg3 (by have := Hszq.out; omega) (fun j hj => by have := (hk2'.lt _ hj).1; have := Hszq.out; omega)
        have hc0 := blk_cell (v := .slice Ak i ck) hcb3 0 (crow_get _)
        have hc1 := blk_cell (v := .pointer (some ⟨wo.heap.size, 0, none⟩)) hcp3 0 rfl
        have hf0 := frozen_row hcb3 0
        skip
        (refine anyB_step 9 rfl (by kernel_rfl) ?_; (try simp only [List.getElem_toArray, List.getElem_cons_zero, List.getElem_cons_succ]))
        refine app_run rfl _ _ 102 rfl _ _ rfl rfl hrun ?_
        refine (show wpList _ _ _ [] _ _ from ⟨fun _ => ⟨hc1, hc0, Lib.hid (Hpr.out _ hBw3)⟩, ?_⟩)
        simp only [Act.put, List.setIfInBounds_toArray, List.set_cons_zero, List.set_cons_succ]
        (refine seg_rest [10, 11, 12] _ _ _ (by kernel_rfl) ?_ _ rfl)
        (refine segs_out rfl ?_; (simp only [pick, List.getElem?_toArray, List.getElem_toArray, List.getElem_cons_zero, List.getElem_cons_succ, List.getElem?_cons_zero, List.getElem?_cons_succ, Act.put, List.setIfInBounds_toArray, List.set_cons_zero, List.set_cons_succ]))
        have Hk3' := Lib.hid hk3
        have Hg3 := Lib.hid hg3
        have Hb3 := Lib.hid hb3
        have Hcb3 := Lib.hid hcb3
        have Hcp3 := Lib.hid hcp3
        have HB2 := Lib.hid hB2
        have HBw3 := Lib.hid hBw3
        have Hk2' := Lib.hid hk2'
        have Hbig := Lib.hid hbig
        clear hk3 hg3 hb3 hcb3 hcp3 hB2 hBw3 hrun hk2' hkl hk16 hne0 hne1 hblk2 hBw hbig
        go_wp2
        have hne2 : ∀ x, (Value.slice A3 (i + 1) c3).ownBlock = some x → x ≠ wo.heap.size := fun x hx e => by
          have := (Hk3'.out.lt _ hx).1; have := Hszq.out; omega
        refine (show _ ∧ _ from ⟨⟨?_, fun x hx => ?_⟩, ⟨⟨A3, c3, ?_, ?_, ?_⟩, ?_, ?_, ?_, HKr.out.x, ?_⟩⟩)
        · exact Nat.le_trans HB2.out.size (Nat.le_trans Hg3.out.size (by simp [World.setCell]))
        · rw [Below.heap_setCell _ _ _ _ (HKr.out.x x hx), Hg3.out.block x (Nat.lt_of_lt_of_le (Hltr.out x hx) HB2.out.size) ?_, HB2.out.block x (Hltr.out x hx)]
          intro e
          cases hA : Ak with
          | none => rw [hA] at e; simp [Value.ownBlock] at e
          | some a => rw [hA] at e; simp only [Value.ownBlock, Option.some.injEq] at e; exact Hk3.out x hx a hA e
        · rw [blk_set Hcb3.out 0, crow_set]
        · have : keysUp kb (i + 1) = keysUp kb i ++ [part] := by rw [keysUp, List.range_succ, List.map_append, Hpart.out]; rfl
          rw [this]
          exact Hk3'.out.keep (fun g cs t fr hg hh => blk_far hh (hne2 g hg) _)
        · intro x hx a ha e
          rcases Hb3.out with h | h
          · rw [ha] at h
            cases hA : Ak with
            | none => rw [hA] at h; simp [Value.ownBlock] at h
            | some a' => rw [hA] at h; simp only [Value.ownBlock, Option.some.injEq] at h; exact Hk3.out x hx a' hA (e.trans h)
          · rw [ha] at h
            simp only [Value.ownBlock, Option.some.injEq] at h
            have := Hltr.out x hx
            have := HB2.out.size
            omega
        · exact blk_far Hcp3.out (by simp) _
        · exact hrd.below ((HBw3.out).setCell (p := ⟨wo.heap.size, 0, none⟩) (Nat.le_refl _) _)
        · exact (HBw3.out).setCell (p := ⟨wo.heap.size, 0, none⟩) (Nat.le_refl _) _
        · exact Nat.le_trans Hbig.out (Nat.le_trans Hg3.out.size (by simp [World.setCell]))
      case done =>
        rintro Xe We hKe hse hme hde
        have hpl : (pieces A1 L).length = 11 := by simp [pieces, HL2.out]
        rw [hpl] at hKe
        have hc1 := blk_cell (v := .pointer (some ⟨wo.heap.size, 0, none⟩)) hKe.cp 0 rfl
        have HKe := Lib.hid hKe
        have Hde := Lib.hid hde
        clear hKe hde
        go_wp2
        refine leaves_marks (dl := [wq.heap.size]) (fun w => results_tmp2 rfl _ _ _) We (by simp) (by simpa using Hde.out) ?_
        intro w' hT hs
        have hT1 := hT wo.heap.size (by simp; have := Hszq.out; omega)
        have hB1 : w.heap.size ≤ w1.heap.size := Hb1.out.size
        have hB2 : Below w.heap.size w wo := (Hb1.out.trans (((Below.refl _ _).alloc (Nat.le_refl _) _).mono hB1)).trans (HB.out.mono (by rw [HB0.out]; omega))
        obtain ⟨A5, c5, q1, q2, _⟩ := HKe.out.ex
        refine ⟨wo.heap.size, rfl, hB2.size, ⟨A5, c5, wq.heap.size, cells_turn hT1 q1, ?_⟩, (hB2.trans (HKe.out.bel.mono hB2.size)).trans ((hT1.below HKe.out.bel.size).mono hB2.size)⟩
        rw [cKeys, ← Hkb.out]
        exact q2.keep (fun g cs t fr _ hg => cells_turn hT1 hg)
end Go.Proofs.YtiboflejmnjdhaaDoor
end
