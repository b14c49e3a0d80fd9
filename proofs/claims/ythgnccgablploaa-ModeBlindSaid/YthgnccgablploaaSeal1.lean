/- Slices of slices: one that is owned, and appended to; one that came in. -/
import Derived.Test.YthgnccgablploaaWorks
set_option linter.unusedVariables false
set_option linter.unusedSimpArgs false
set_option maxRecDepth 100000
namespace Go.Proofs.Ythgnccgablploaa
open Go Go.RowKit Go.Conc
/-- An owned row of slices. -/
structure OwnV (w : World) (base : Nat) (A : Option Addr) (n c : Nat) (vs : List Value) : Prop where
  own : w.ownsRow base 22 1 (.slice A n c) n vs
  hard : ∀ g, (Value.slice A n c).ownBlock = some g → Hard w g
theorem OwnV.nil (w : World) (base : Nat) : OwnV w base none 0 0 [] := ⟨World.ownsRow_nil _ _ _ _, by simp [Value.ownBlock]⟩
theorem OwnV.keep {w w' : World} {base : Nat} {A : Option Addr} {n c : Nat} {vs : List Value} (h : OwnV w base A n c vs) (hk : ∀ g, (Value.slice A n c).ownBlock = some g → g < w.heap.size → w'.heap[g]? = w.heap[g]?) : OwnV w' base A n c vs := by
  refine ⟨⟨h.own.1, ?_⟩, ?_⟩
  · rcases h.own.2 with h2 | ⟨g, cap, cur, e, h1, hg, r⟩
    · exact .inl h2
    · have hgb : (Value.slice A n c).ownBlock = some g := by rw [e]; rfl
      exact .inr ⟨g, cap, cur, e, h1, (hk g hgb (blk_lt hg)).trans hg, r⟩
  · intro g hg off q x hq hx
    have hlt := (World.ownsRow.lt h.own g hg).2
    have := World.cell?_of_block (w := w) (a := ⟨g, off, none⟩) (hk g hg hlt)
    rw [this] at hx
    exact h.hard g hg off q x hq hx
theorem OwnV.below {w w' : World} {base : Nat} {A : Option Addr} {n c : Nat} {vs : List Value} (h : OwnV w base A n c vs) (hb : Below w.heap.size w w') : OwnV w' base A n c vs := h.keep fun g _ hl => hb.block g hl
theorem OwnV.cell {w : World} {base : Nat} {A : Option Addr} {n c : Nat} {vs : List Value} (h : OwnV w base A n c vs) (h0 : 0 < n) : ∃ g, A = some ⟨g, 0, none⟩ ∧ base ≤ g ∧ g < w.heap.size ∧ ∀ j u, vs[j]? = some u → w.cell? ⟨g, j, none⟩ = some u := by
  rcases h.own.2 with ⟨e, hn⟩ | ⟨g, cap, cur, e, hb, hg, r⟩
  · omega
  · rw [Value.slice.injEq] at e
    obtain ⟨rfl, -, rfl⟩ := e
    refine ⟨g, rfl, hb, blk_lt hg, fun j u hj => ?_⟩
    have := World.ownsRow.cells h.own (g := g) rfl j u hj
    have ha : (⟨g, 0, none⟩ : Addr).add j = ⟨g, j, none⟩ := by unfold Addr.add; split <;> simp_all
    rwa [ha] at this
theorem OwnV.len {w : World} {base : Nat} {A : Option Addr} {n c : Nat} {vs : List Value} (h : OwnV w base A n c vs) : n = vs.length ∧ n ≤ c := by
  have := h.own.1
  refine ⟨by omega, ?_⟩
  rcases h.own.2 with ⟨e, hn⟩ | ⟨g, cap, cur, e, hb, hg, r, _⟩
  · omega
  · rw [Value.slice.injEq] at e
    omega
section
variable {ops : Array Oper} {rest : List Oper} {o : Oper} {a : Act} {Q : Exit → Act → World → Prop}
theorem infoSl : (Try.prog.info? 22).map (fun i => (i.zero, i.size, i.bytes)) = some (some (.slice none 0 0), 1, 24) := by kernel_rfl
theorem isl {v : Value} (h : ∃ A n c, v = .slice A n c) : ∀ q x, (q = IntKind.u8 ∨ q = IntKind.u32) → v ≠ .int q x := by
  obtain ⟨A, n, c, rfl⟩ := h
  intro q x _; simp
/-- 'append(v, x)' of one slice. -/
theorem app_sl {w : World} (hgd : o.guard = none) (s x : Operand) (ho : o.op = .call { callee := .builtin .append, args := #[s, x], argTypes := #[24, 24] })
    (base : Nat) (A : Option Addr) (n c : Nat) (vs : List Value) (hs : a.eval s = .slice A n c) (hown : OwnV w base A n c vs) (b c1 : Nat) (B : Option Addr) (m d : Nat) (hx : a.eval x = .slice (some ⟨b, 0, none⟩) 1 c1) (hb : w.cell? ⟨b, 0, none⟩ = some (.slice B m d))
    (hl : n ≤ 1000000) (hbase : base ≤ w.heap.size)
    (h : ∀ (A' : Option Addr) (c' : Nat) (w' : World), OwnV w' base A' (n + 1) c' (vs ++ [.slice B m d]) → Kp ((Value.slice A n c).ownBlock.toList) w w' → ((Value.slice A' (n + 1) c').ownBlock = (Value.slice A n c).ownBlock ∨ (Value.slice A' (n + 1) c').ownBlock = some w.heap.size) → wpList Try.prog ops Q rest (a.put o.dst (.slice A' (n + 1) c')) w') :
    wpList Try.prog ops Q (o :: rest) a w := by
  obtain ⟨i, hi, hz, hsz, hby⟩ := info_parts infoSl
  have ht := Try.underlying24
  have hnews : ∀ j u, ([Value.slice B m d] : List Value)[j]? = some u → w.cell? ((⟨b, 0, none⟩ : Addr).add j) = some u := by
    intro j u hj
    cases j with
    | zero =>
      simp at hj
      subst hj
      have ha : (⟨b, 0, none⟩ : Addr).add 0 = ⟨b, 0, none⟩ := by simp [Addr.add]
      rw [ha]; exact hb
    | succ j => simp at hj
  have hlen := hown.own.1
  have hz0 : ∀ k, ∀ v ∈ Builtin.zeroCells (Value.slice none 0 0).cells k, v = Value.slice none 0 0 := by
    intro k v hv
    have hc : (Value.slice none 0 0).cells = #[Value.slice none 0 0] := rfl
    rw [hc] at hv
    simp only [Builtin.zeroCells, Array.mem_map] at hv
    obtain ⟨j, _, rfl⟩ := hv
    have : j % (#[Value.slice none 0 0] : Array Value).size = 0 := Nat.mod_one j
    rw [this]; rfl
  have grown : ∀ (old : Nat) (xs : List Value), xs.length = n → (∀ v ∈ xs, ∀ q x, (q = IntKind.u8 ∨ q = IntKind.u32) → v ≠ Value.int q x) → OwnV (w.drew.alloc (.cells (xs.toArray ++ ([Value.slice B m d] : List Value).toArray ++ Builtin.zeroCells (Value.slice none 0 0).cells (grownCap w (n + 1) old 22 - (n + 1))) 22)) base (some ⟨w.heap.size, 0, none⟩) (n + 1) (grownCap w (n + 1) old 22) (xs ++ [.slice B m d]) := by
    intro old xs hxl hxs
    have hge := grownCap_ge w (n + 1) old 22
    have hcm : grownCap w (n + 1) old 22 ≤ maxLen := grownCap_le_maxLen w (n + 1) old _ (by simp only [maxLen]; omega)
    have hnew := heap_alloc_new w.drew (.cells (xs.toArray ++ ([Value.slice B m d] : List Value).toArray ++ Builtin.zeroCells (Value.slice none 0 0).cells (grownCap w (n + 1) old 22 - (n + 1))) 22)
    refine ⟨⟨by simp [hxl], .inr ⟨w.heap.size, _, _, rfl, hbase, hnew, hge, hcm, ?_, ?_⟩⟩, ?_⟩
    · have hc1 : (Value.slice none 0 0).cells.size = 1 := rfl
      simp only [Array.size_append, List.size_toArray, size_zeroCells, hc1, hxl, List.length_singleton]
      omega
    · simp only [Array.toList_append, List.append_assoc]
      rw [← List.append_assoc]
      exact List.take_left' (by simp [hxl])
    · intro g hg
      have hg : w.heap.size = g := by simpa [Value.ownBlock] using hg
      subst hg
      refine hard_cells hnew ?_
      intro v hv
      simp only [Array.mem_append, List.mem_toArray, List.mem_singleton] at hv
      rcases hv with (hv | hv) | hv
      · exact hxs v hv
      · exact isl ⟨_, _, _, hv⟩
      · exact isl ⟨_, _, _, hz0 _ v hv⟩
  rcases hown.own.2 with ⟨e, hn0⟩ | ⟨g, cap, cur, e, hbg, hg, hnc, hcm, hcs, htake⟩
  · rw [Value.slice.injEq] at e
    obtain ⟨rfl, -, rfl⟩ := e
    subst hn0
    have hx0 : vs = [] := List.eq_nil_of_length_eq_zero (by simpa using hlen)
    subst hx0
    have hr := run_append_nil (P := Try.prog) w 24 o.type 22 i _ ht hi hz ⟨b, 0, none⟩ 1 c1 [.slice B m d] (by rw [hsz]; rfl) hnews (by omega) (by omega) (by rw [hby]; omega)
    refine app_run hgd s x 24 ho _ _ hs hx hr ?_
    have hgr := grown 0 [] rfl (by simp)
    simp only [Nat.zero_add, List.nil_append, Array.empty_append] at hgr ⊢
    refine h _ _ _ hgr ?_ (.inr rfl)
    exact ((Kp.refl _ w).drewN 1).alloc _
  · have e' := e
    rw [Value.slice.injEq] at e'
    obtain ⟨rfl, -, rfl⟩ := e'
    have hcur : ∀ v ∈ cur, ∀ q x, (q = IntKind.u8 ∨ q = IntKind.u32) → v ≠ Value.int q x := by
      intro v hv q x hq hvx
      obtain ⟨j, hj⟩ := Array.mem_iff_getElem?.1 hv
      exact hown.hard g rfl j q x hq (by rw [blk_cell hg j hj, hvx])
    by_cases hroom : n + 1 ≤ c
    · have hfit : n * i.size + ([Value.slice B m d] : List Value).length ≤ cur.size := by rw [hsz, hcs]; simp; omega
      have hr := run_append_room (P := Try.prog) w 24 o.type 22 i ht hi g n c cur hg ⟨b, 0, none⟩ 1 c1 [.slice B m d] (by rw [hsz]; rfl) hnews (by simp [Value.oneCell']) hroom hfit
      refine app_run hgd s x 24 ho _ _ hs hx hr ?_
      have hrow := setRow_heap w g cur (cur.toList.take (n * i.size) ++ [Value.slice B m d] ++ cur.toList.drop (n * i.size + ([Value.slice B m d] : List Value).length)).toArray _ _ hg
      refine h _ _ _ ⟨⟨by simp; omega, .inr ⟨g, c, _, rfl, hbg, hrow, hroom, hcm, ?_, ?_⟩⟩, ?_⟩ ((Kp.refl _ w).setRow (by simp [Value.ownBlock]) _) (.inl rfl)
      · rw [hsz]
        simp only [List.size_toArray, List.length_append, List.length_take, List.length_drop, Array.length_toList, List.length_singleton]
        omega
      · rw [hsz, htake]
        exact List.take_left' (by simp; omega)
      · intro g2 hg2
        have hg2 : g = g2 := by simpa [Value.ownBlock] using hg2
        subst hg2
        refine hard_cells hrow ?_
        intro v hv
        simp only [List.mem_toArray, List.mem_append, List.mem_singleton] at hv
        rcases hv with (hv | hv) | hv
        · exact hcur v (by have := List.mem_of_mem_take hv; simpa using this)
        · exact isl ⟨_, _, _, hv⟩
        · exact hcur v (by have := List.mem_of_mem_drop hv; simpa using this)
    · have holds : ∀ j u, vs[j]? = some u → w.cell? ((⟨g, 0, none⟩ : Addr).add j) = some u := World.ownsRow.cells hown.own (g := g) rfl
      have hr := run_append_grow (P := Try.prog) w 24 o.type 22 i _ ht hi hz ⟨g, 0, none⟩ n c vs (by rw [hsz]; exact hlen) holds ⟨b, 0, none⟩ 1 c1 [.slice B m d] (by rw [hsz]; rfl) hnews (by omega) (by omega) (growslice_fits (by omega) (by rw [hby]; omega))
      refine app_run hgd s x 24 ho _ _ hs hx hr ?_
      refine h _ _ _ (grown c vs (by omega) ?_) (((Kp.refl _ w).drewN 1).alloc _) (.inr rfl)
      intro v hv
      refine hcur v ?_
      rw [← htake] at hv
      have := List.mem_of_mem_take hv
      simpa using this
end
end Go.Proofs.Ythgnccgablploaa
