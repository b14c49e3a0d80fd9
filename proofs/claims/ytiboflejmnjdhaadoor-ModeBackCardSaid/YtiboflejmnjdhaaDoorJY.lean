/- ModeBack: an owned row of pairs of slices. -/
import Derived.Test.YtiboflejmnjdhaaDoorJN
import Derived.Test.YtiboflejmnjdhaaDoorJW
import Derived.Test.YtiboflejmnjdhaaDoorJX
section
set_option linter.unusedVariables false
set_option linter.unusedSimpArgs false
set_option maxRecDepth 100000
namespace Go.Proofs.YtiboflejmnjdhaaDoor
open Go Go.RowKit Go.Conc
/-- An owned row of pairs of slices. -/
structure OwnP (w : World) (base : Nat) (A : Option Addr) (n c : Nat) (vs : List Value) : Prop where
  own : w.ownsRow base 37 2 (.slice A n c) n vs
  hard : ∀ g, (Value.slice A n c).ownBlock = some g → Hard w g
theorem OwnP.nil (w : World) (base : Nat) : OwnP w base none 0 0 [] := ⟨World.ownsRow_nil _ _ _ _, by simp [Value.ownBlock]⟩
theorem OwnP.keep {w w' : World} {base : Nat} {A : Option Addr} {n c : Nat} {vs : List Value} (h : OwnP w base A n c vs) (hk : ∀ g, (Value.slice A n c).ownBlock = some g → g < w.heap.size → w'.heap[g]? = w.heap[g]?) : OwnP w' base A n c vs := by
  refine ⟨⟨h.own.1, ?_⟩, ?_⟩
  · rcases h.own.2 with h2 | ⟨g, cap, cur, e, h1, hg, r⟩
    · exact .inl h2
    · have hgb : (Value.slice A n c).ownBlock = some g := by rw [e]; rfl
      exact .inr ⟨g, cap, cur, e, h1, (hk g hgb (blk_lt hg)).trans hg, r⟩
  · intro g hg off q x hq hx
    have hlt := (World.ownsRow.lt h.own g hg).2
    have := World.cell?_of_block (w := w) (a := ⟨g, off, none⟩) (hk g hg hlt)
    rw [this] at hx
    exact h.hard g hg off q x hq hx
theorem OwnP.below {w w' : World} {base : Nat} {A : Option Addr} {n c : Nat} {vs : List Value} (h : OwnP w base A n c vs) (hb : Below w.heap.size w w') : OwnP w' base A n c vs := h.keep fun g _ hl => hb.block g hl
theorem OwnP.cell {w : World} {base : Nat} {A : Option Addr} {n c : Nat} {vs : List Value} (h : OwnP w base A n c vs) (h0 : 0 < n) : ∃ g, A = some ⟨g, 0, none⟩ ∧ base ≤ g ∧ g < w.heap.size ∧ ∀ j u, vs[j]? = some u → w.cell? ⟨g, j, none⟩ = some u := by
  rcases h.own.2 with ⟨e, hn⟩ | ⟨g, cap, cur, e, hb, hg, r⟩
  · omega
  · rw [Value.slice.injEq] at e
    obtain ⟨rfl, -, rfl⟩ := e
    refine ⟨g, rfl, hb, blk_lt hg, fun j u hj => ?_⟩
    have := World.ownsRow.cells h.own (g := g) rfl j u hj
    have ha : (⟨g, 0, none⟩ : Addr).add j = ⟨g, j, none⟩ := by unfold Addr.add; split <;> simp_all
    rwa [ha] at this
theorem OwnP.len {w : World} {base : Nat} {A : Option Addr} {n c : Nat} {vs : List Value} (h : OwnP w base A n c vs) : n * 2 = vs.length ∧ n ≤ c := by
  have := h.own.1
  refine ⟨by omega, ?_⟩
  rcases h.own.2 with ⟨e, hn⟩ | ⟨g, cap, cur, e, hb, hg, r, _⟩
  · omega
  · rw [Value.slice.injEq] at e
    omega
section
variable {ops : Array Oper} {rest : List Oper} {o : Oper} {a : Act} {Q : Exit → Act → World → Prop}
theorem infoPr : (Tryd.prog.info? 37).map (fun i => (i.zero, i.size, i.bytes)) = some (some (.agg #[.slice none 0 0, .slice none 0 0]), 2, 48) := by kernel_rfl
theorem isl2 {v : Value} (h : ∃ A n c, v = .slice A n c) : ∀ q x, (q = IntKind.u8 ∨ q = IntKind.u32) → v ≠ .int q x := by
  obtain ⟨A, n, c, rfl⟩ := h
  intro q x _; simp
/-- 'append(v, x)' of one pair. -/
theorem app_pr {w : World} (hgd : o.guard = none) (s x : Operand) (ho : o.op = .call { callee := .builtin .append, args := #[s, x], argTypes := #[30, 30] })
    (base : Nat) (A : Option Addr) (n c : Nat) (vs : List Value) (hs : a.eval s = .slice A n c) (hown : OwnP w base A n c vs) (b c1 : Nat) (V1 V2 : Value) (hV1 : ∃ A n c, V1 = .slice A n c) (hV2 : ∃ A n c, V2 = .slice A n c) (hx : a.eval x = .slice (some ⟨b, 0, none⟩) 1 c1) (hb1 : w.cell? ⟨b, 0, none⟩ = some V1) (hb2 : w.cell? ⟨b, 1, none⟩ = some V2)
    (hl : n ≤ 1000000) (hbase : base ≤ w.heap.size)
    (h : ∀ (A' : Option Addr) (c' : Nat) (w' : World), OwnP w' base A' (n + 1) c' (vs ++ [V1, V2]) → Kp ((Value.slice A n c).ownBlock.toList) w w' → ((Value.slice A' (n + 1) c').ownBlock = (Value.slice A n c).ownBlock ∨ (Value.slice A' (n + 1) c').ownBlock = some w.heap.size) → wpList Tryd.prog ops Q rest (a.put o.dst (.slice A' (n + 1) c')) w') :
    wpList Tryd.prog ops Q (o :: rest) a w := by
  obtain ⟨i, hi, hz, hsz, hby⟩ := info_parts infoPr
  have ht := Tryd.underlying30
  have hnews : ∀ j u, ([V1, V2] : List Value)[j]? = some u → w.cell? ((⟨b, 0, none⟩ : Addr).add j) = some u := by
    intro j u hj
    have ha : (⟨b, 0, none⟩ : Addr).add j = ⟨b, j, none⟩ := by unfold Addr.add; split <;> simp_all
    rw [ha]
    match j, hj with
    | 0, hj => simp at hj; subst hj; exact hb1
    | 1, hj => simp at hj; subst hj; exact hb2
    | j + 2, hj => simp at hj
  have h1c : ∀ u ∈ ([V1, V2] : List Value), u.oneCell' = true := by
    obtain ⟨_, _, _, rfl⟩ := hV1
    obtain ⟨_, _, _, rfl⟩ := hV2
    simp [Value.oneCell']
  have hlen := hown.own.1
  have hzc : (Value.agg #[.slice none 0 0, .slice none 0 0]).cells = #[Value.slice none 0 0, .slice none 0 0] := rfl
  have hz0 : ∀ k, ∀ v ∈ Builtin.zeroCells (Value.agg #[.slice none 0 0, .slice none 0 0]).cells k, v = Value.slice none 0 0 := by
    intro k v hv
    rw [hzc] at hv
    simp only [Builtin.zeroCells, Array.mem_map] at hv
    obtain ⟨j, _, rfl⟩ := hv
    have hs2 : (#[Value.slice none 0 0, .slice none 0 0] : Array Value).size = 2 := rfl
    rw [hs2]
    have : j % 2 = 0 ∨ j % 2 = 1 := by omega
    rcases this with e | e <;> rw [e] <;> rfl
  have grown : ∀ (old : Nat) (xs : List Value), xs.length = n * 2 → (∀ v ∈ xs, ∀ q x, (q = IntKind.u8 ∨ q = IntKind.u32) → v ≠ Value.int q x) → OwnP (w.drew.alloc (.cells (xs.toArray ++ ([V1, V2] : List Value).toArray ++ Builtin.zeroCells (Value.agg #[.slice none 0 0, .slice none 0 0]).cells (grownCap w (n + 1) old 37 - (n + 1))) 37)) base (some ⟨w.heap.size, 0, none⟩) (n + 1) (grownCap w (n + 1) old 37) (xs ++ [V1, V2]) := by
    intro old xs hxl hxs
    have hge := grownCap_ge w (n + 1) old 37
    have hcm : grownCap w (n + 1) old 37 ≤ maxLen := grownCap_le_maxLen w (n + 1) old _ (by simp only [maxLen]; omega)
    have hnew := heap_alloc_new w.drew (.cells (xs.toArray ++ ([V1, V2] : List Value).toArray ++ Builtin.zeroCells (Value.agg #[.slice none 0 0, .slice none 0 0]).cells (grownCap w (n + 1) old 37 - (n + 1))) 37)
    refine ⟨⟨by simp [hxl]; omega, .inr ⟨w.heap.size, _, _, rfl, hbase, hnew, hge, hcm, ?_, ?_⟩⟩, ?_⟩
    · have hc1 : (Value.agg #[.slice none 0 0, .slice none 0 0]).cells.size = 2 := rfl
      simp only [Array.size_append, List.size_toArray, size_zeroCells, hc1, hxl, List.length_cons, List.length_nil]
      omega
    · simp only [Array.toList_append, List.append_assoc]
      rw [← List.append_assoc]
      exact List.take_left' (by simp [hxl]; omega)
    · intro g hg
      have hg : w.heap.size = g := by simpa [Value.ownBlock] using hg
      subst hg
      refine hard_cells hnew ?_
      intro v hv
      simp only [Array.mem_append, List.mem_toArray, List.mem_cons, List.not_mem_nil, or_false] at hv
      rcases hv with (hv | hv | hv) | hv
      · exact hxs v hv
      · subst hv; exact isl2 hV1
      · subst hv; exact isl2 hV2
      · exact isl2 ⟨_, _, _, hz0 _ v hv⟩
  rcases hown.own.2 with ⟨e, hn0⟩ | ⟨g, cap, cur, e, hbg, hg, hnc, hcm, hcs, htake⟩
  · rw [Value.slice.injEq] at e
    obtain ⟨rfl, -, rfl⟩ := e
    subst hn0
    have hx0 : vs = [] := List.eq_nil_of_length_eq_zero (by simpa using hlen)
    subst hx0
    have hr := run_append_nil (P := Tryd.prog) w 30 o.type 37 i _ ht hi hz ⟨b, 0, none⟩ 1 c1 [V1, V2] (by rw [hsz]; rfl) hnews (by omega) (by omega) (by rw [hby]; omega)
    refine app_run hgd s x 30 ho _ _ hs hx hr ?_
    have hgr := grown 0 [] rfl (by simp)
    simp only [Nat.zero_add, List.nil_append, Array.empty_append] at hgr ⊢
    refine h _ _ _ hgr ?_ (.inr rfl)
    exact ((Kp.refl _ w).drewN 1).alloc _
  · have e' := e
    rw [Value.slice.injEq] at e'
    obtain ⟨rfl, -, rfl⟩ := e'
    have hcur : ∀ v ∈ cur, ∀ q x, (q = IntKind.u8 ∨ q = IntKind.u32) → v ≠ Value.int q x := by
      intro v hv q x hq hvx
      obtain ⟨j, hj⟩ := Array.mem_iff_getElem?.1 hv
      exact hown.hard g rfl j q x hq (by rw [blk_cell hg j hj, hvx])
    by_cases hroom : n + 1 ≤ c
    · have hfit : n * i.size + ([V1, V2] : List Value).length ≤ cur.size := by rw [hsz, hcs]; simp; omega
      have hr := run_append_room (P := Tryd.prog) w 30 o.type 37 i ht hi g n c cur hg ⟨b, 0, none⟩ 1 c1 [V1, V2] (by rw [hsz]; rfl) hnews h1c hroom hfit
      refine app_run hgd s x 30 ho _ _ hs hx hr ?_
      have hrow := setRow_heap w g cur (cur.toList.take (n * i.size) ++ [V1, V2] ++ cur.toList.drop (n * i.size + ([V1, V2] : List Value).length)).toArray _ _ hg
      refine h _ _ _ ⟨⟨by simp; omega, .inr ⟨g, c, _, rfl, hbg, hrow, hroom, hcm, ?_, ?_⟩⟩, ?_⟩ ((Kp.refl _ w).setRow (by simp [Value.ownBlock]) _) (.inl rfl)
      · rw [hsz]
        simp only [List.size_toArray, List.length_append, List.length_take, List.length_drop, Array.length_toList, List.length_cons, List.length_nil]
        omega
      · rw [hsz, htake]
        exact List.take_left' (by simp; omega)
      · intro g2 hg2
        have hg2 : g = g2 := by simpa [Value.ownBlock] using hg2
        subst hg2
        refine hard_cells hrow ?_
        intro v hv
        simp only [List.mem_toArray, List.mem_append, List.mem_cons, List.not_mem_nil, or_false] at hv
        rcases hv with (hv | hv | hv) | hv
        · exact hcur v (by have := List.mem_of_mem_take hv; simpa using this)
        · subst hv; exact isl2 hV1
        · subst hv; exact isl2 hV2
        · exact hcur v (by have := List.mem_of_mem_drop hv; simpa using this)
    · have holds : ∀ j u, vs[j]? = some u → w.cell? ((⟨g, 0, none⟩ : Addr).add j) = some u := World.ownsRow.cells hown.own (g := g) rfl
      have hr := run_append_grow (P := Tryd.prog) w 30 o.type 37 i _ ht hi hz ⟨g, 0, none⟩ n c vs (by rw [hsz]; exact hlen) holds ⟨b, 0, none⟩ 1 c1 [V1, V2] (by rw [hsz]; rfl) hnews (by omega) (by omega) (growslice_fits (by omega) (by rw [hby]; omega))
      refine app_run hgd s x 30 ho _ _ hs hx hr ?_
      refine h _ _ _ (grown c vs (by omega) ?_) (((Kp.refl _ w).drewN 1).alloc _) (.inr rfl)
      intro v hv
      refine hcur v ?_
      rw [← htake] at hv
      have := List.mem_of_mem_take hv
      simpa using this
end
end Go.Proofs.YtiboflejmnjdhaaDoor
end
section
set_option linter.unusedVariables false
set_option linter.unusedSimpArgs false
set_option maxRecDepth 100000
namespace Go.Proofs.YtiboflejmnjdhaaDoor
open Go Go.RowKit Go.Conc
theorem cut_hiT (A : Option Addr) (n c h : Nat) (hh : h ≤ c) (kh : IntKind) (W : World) : (Instr.slice 23 (.slice A n c) none (some (.int kh (h : Int))) none).run Tryd.prog W = .ok (.slice A h c) W := by
  have hel : Tryd.prog.elem 23 = 32 := by simp [Program.elem, Tryd.underlying23]
  have hu : Tryd.prog.underlying 23 = some (.slice (Tryd.prog.elem 23)) := by rw [hel]; exact Tryd.underlying23
  have hs : (Tryd.prog.info? 32).map (·.size) = some 3 := by kernel_rfl
  obtain ⟨i, hi, hi1⟩ := Option.map_eq_some_iff.1 hs
  have ha : A.map (·.add 0) = A := by cases A <;> simp [Addr.add]
  rw [run_slice_h W 23 A n c hu kh (h : Int) (Int.natCast_nonneg _) (by omega), hel]
  simp [sizeOf, typeInfo, hi, hi1, sliced, Result.andThen, ha]
theorem Rd.upto {w : World} {A : Option Addr} {c : Nat} {xs : List Int} (h : Rd w A c xs) (m : Nat) : Rd w A c (xs.take m) := by
  by_cases hm : m ≤ xs.length
  · exact h.take m hm
  · rw [List.take_of_length_le (by omega)]; exact h
/-- The real seal, beside the ideal mode. -/
theorem wm_rseal (F R : List Int) (w0 : World) (Pr : List Nat) (mb : Nat) (seed : List Int) (s : St) (tb : Nat) (tseed tleft : List Int) (tp tat : Nat) (ma : Nat) (root : List Int) (oa : List Nat) (ep : Int) (hA : Option Addr) (hn hc : Nat) (hd : List Int) (pA : Option Addr) (pn pc : Nat) (pl : List Int) (w : World) (hW : Wm F R w0 Pr mb seed s tb tseed tleft tp tat w) (hM : IsMr w ma root oa)
    (hl : tseed.length ≤ 10000000000000) (hll : tleft.length ≤ 10000000000000) (hp : tp ≤ 9007199254600000) (hat : tat ≤ 9007199254600000) (he0 : 0 ≤ ep) (he1 : ep ≤ 255) (hhn : hn = hd.length) (hh : Rd w hA hc hd) (hhm : hn ≤ 4096) (hpn : pn = pl.length) (hpl : Rd w pA pc pl) (hpm : pn ≤ 4096) :
    Calls Tryd.prog 11 #[.pointer (some ⟨ma, 0, none⟩), .pointer (some ⟨tb, 0, none⟩), .int .i64 ep, .slice hA hn hc, .slice pA pn pc] w fun e w' => ∃ A c, e = .returned (.tuple #[.slice A (pn + 28) c, .int .i64 0]) ∧ Rd w' A c ((tDraw F R tseed 12 tleft tp).1 ++ gcmBox (drv F R root ep) (tDraw F R tseed 12 tleft tp).1 pl hd) ∧ (∀ a, A = some a → w.heap.size ≤ a.block) ∧
      Wm F R w0 Pr mb seed s tb tseed (tDraw F R tseed 12 tleft tp).2.1 (tDraw F R tseed 12 tleft tp).2.2 (tat + 12) w' ∧ Kept Pr w w' := by
  obtain ⟨own, town, g1, g2, g3, g4⟩ := hW.ex
  refine (mrseal_any F R ma root oa tb tseed tleft tp tat town ep hA hn hc hd pA pn pc pl w hW.tabs hM g2 hl hll hp hat he0 he1 hhn hh hhm hpn hpl hpm).mono ?_
  rintro e w' ⟨A, c, h1, hO⟩
  have hhd : ∀ b ∈ town, Hard w b := fun b hb => (g2.blocks b hb).1
  have hsz := hW.below.size
  obtain ⟨town', q1, q5⟩ := hO.ex
  have h4 := hO.kp
  refine ⟨A, c, h1, hO.box, hO.new, ⟨hW.tabs.hard h4 hhd, hW.below.trans (h4.below hW.below.size (fun b hb => (g4 b (.inr hb)).1)), ⟨own, town', g1.keep h4 hhd (fun b hb => g3 b hb), q1, ?_, ?_⟩, fun b hb => Nat.lt_of_lt_of_le (hW.prl b hb) h4.size⟩, ⟨h4.size, fun A c xs hr => hr.hard h4 hhd, fun b hb hl => h4.block b hl (fun hxx => (g4 b (.inr hxx)).2 hb)⟩⟩
  · intro b hb hx
    rcases q5 b hx with h | h
    · exact g3 b hb h
    · have := (g1.blocks b hb).2; omega
  · rintro b (hb | hb)
    · exact g4 b (.inl hb)
    · rcases q5 b hb with h | h
      · exact g4 b (.inr h)
      · exact ⟨by omega, fun hx => by have := hW.prl b hx; omega⟩
theorem IsMr.kept {Pr : List Nat} {w w' : World} {ma : Nat} {root : List Int} {oa : List Nat} (h : IsMr w ma root oa) (hk : Kept Pr w w') (ho : ∀ b ∈ oa, b ∈ Pr) : IsMr w' ma root oa := by
  obtain ⟨wb, rfl, hne, h1, h2⟩ := h
  obtain ⟨A, c, h3, h4⟩ := h2.ex
  exact ⟨wb, rfl, hne, (hk.pr _ (ho _ (by simp)) (blk_lt h1)).trans h1, ⟨⟨A, c, (hk.pr _ (ho _ (by simp)) (blk_lt h3)).trans h3, hk.rd _ _ _ h4⟩, h2.len⟩⟩
theorem Wm.rebase {F R : List Int} {w0 w1 : World} {Pr : List Nat} {mb : Nat} {seed : List Int} {s : St} {tb : Nat} {tseed tleft : List Int} {tp tat : Nat} {w : World} (h : Wm F R w1 [] mb seed s tb tseed tleft tp tat w) (hb : Below w0.heap.size w0 w1) (hP : ∀ b ∈ Pr, b < w1.heap.size) : Wm F R w0 Pr mb seed s tb tseed tleft tp tat w := by
  obtain ⟨own, town, g1, g2, g3, g4⟩ := h.ex
  have h1 := hb.size
  have h2 := h.below.size
  refine ⟨h.tabs, hb.trans (h.below.mono h1), ⟨own, town, g1, g2, g3, fun b hx => ⟨by have := (g4 b hx).1; omega, fun hy => by have := (g4 b hx).1; have := hP b hy; omega⟩⟩, fun b hb => by have := hP b hb; omega⟩
def rootOf (F R seed : List Int) : List Int := (tDraw F R seed 32 seed 0).1
set_option maxHeartbeats 1000000 in
theorem both_any (F R : List Int) (A : Option Addr) (n c : Nat) (seed : List Int) (hn : n = seed.length) (hl : n ≤ 60) (w : World) (hTb : Tabs F R w) (hr : Rd w A c seed) :
    Calls Tryd.prog 8 #[.slice A n c] w fun e w' => ∃ ma mb oa tb, e = .returned (.tuple #[.pointer (some ⟨ma, 0, none⟩), .pointer (some ⟨mb, 0, none⟩), .bool true]) ∧ Wm F R w oa mb seed ⟨seed, 0, 0, [], []⟩ tb seed seed 0 0 w' ∧ IsMr w' ma (rootOf F R seed) oa ∧ (∀ b ∈ oa, w.heap.size ≤ b) := by
  have HTb := Lib.hid hTb
  have Hr := Lib.hid hr
  have Hn := Lib.hid hn
  clear hTb hr hn
  have hrl : (rootOf F R seed).length = 32 := tDraw_len _ _ _ _ _ _
  have Hrl := Lib.hid hrl
  clear hrl
  go_enter Tryd.func8, Tryd.ntmps8
  go_wp2_with (first
    | (go_at_call 9; go_must (first
      | (have hx := HB3; clear hx; refine (new_tp F R A n c seed w3 Hn.out (Hr.out.below HB3.out) (by have := Hn.out; omega)).mono ?_; rintro e w4 ⟨tb2, rfl, h1, h2, h3⟩; have N1 := Lib.hid h1; have N2 := Lib.hid h2; have HB4 := Lib.hid h3; clear h1 h2 h3)
      | (refine (new_tp F R A n c seed w Hn.out Hr.out (by have := Hn.out; omega)).mono ?_; rintro e w1 ⟨tb, rfl, h1, h2, h3⟩; have M1 := Lib.hid h1; have M2 := Lib.hid h2; have HB1 := Lib.hid h3; clear h1 h2 h3)))
    | (go_at_call 14; go_must (refine (draw_tp F R tb seed seed 0 0 32 [tb] w1 (HTb.out.below HB1.out) M1.out (by have := Hn.out; omega) (by have := Hn.out; omega) (by omega) (by omega) (by omega) (by omega)).mono ?_; rintro e w2 ⟨A2, c2, own2, rfl, h1, h2, h3, h4, h5⟩; have Hr2 : Hid (Rd w2 A2 c2 (rootOf F R seed)) := Lib.hid h1; have HB2 : Hid (Below w.heap.size w w2) := Lib.hid (HB1.out.trans (h5.below HB1.out.size (by simpa using M2.out))); clear h1 h2 h3 h4 h5))
    | (go_at_call 15; go_must (refine (mreal_any A2 c2 (rootOf F R seed) Hrl.out w2 Hr2.out).mono ?_; rintro e w3 ⟨ma, oa, rfl, h1, h2, h3⟩; have R1 := Lib.hid h1; have R2 := Lib.hid h2; have HB3 : Hid (Below w.heap.size w w3) := Lib.hid (HB2.out.trans (h3.mono HB2.out.size)); clear h1 h2 h3))
    | (go_at_call 24; go_must (refine (wm_ideal F R w3 tb2 seed w4 ((HTb.out.below HB3.out).below HB4.out) HB4.out N1.out N2.out (by have := Hn.out; omega)).mono ?_; rintro e w5 ⟨mb, rfl, h1, h2⟩; have HW := Lib.hid h1; have HK := Lib.hid h2; clear h1 h2)))
  go_ret3
  have h3 : ∀ b ∈ oa, b < w3.heap.size := fun b hb => (R1.out.blocks b hb).2
  refine ⟨ma, mb, oa, tb2, rfl, HW.out.rebase HB3.out h3, ?_, fun b hb => Nat.le_trans HB2.out.size (R2.out b hb)⟩
  exact R1.out.below HW.out.below
end Go.Proofs.YtiboflejmnjdhaaDoor
end
section
set_option linter.unusedVariables false
set_option linter.unusedSimpArgs false
set_option maxRecDepth 100000
namespace Go.Proofs.YtiboflejmnjdhaaDoor
open Go Go.RowKit Go.Conc
theorem OwnP.ne {w : World} {base : Nat} {A : Option Addr} {n c : Nat} {vs : List Value} (h : OwnP w base A n c vs) {b : Nat} {cs : Array Value} {t : TypeId} {f : Nat × Nat} (hb : w.heap[b]? = some (.cells cs t f)) (ht : t ≠ 37) : (Value.slice A n c).ownBlock ≠ some b := by
  intro e
  rcases h.own.2 with ⟨e2, _⟩ | ⟨g, cap, cur, e2, h1, hg, r⟩
  · rw [e2] at e; simp [Value.ownBlock] at e
  · rw [e2] at e
    simp only [Value.ownBlock, Option.some.injEq] at e
    subst e
    rw [hg] at hb
    cases hb
    exact ht rfl
theorem IsMr.off {w : World} {base : Nat} {A : Option Addr} {n c : Nat} {vs : List Value} {ma : Nat} {root : List Int} {oa : List Nat} (h : OwnP w base A n c vs) (hM : IsMr w ma root oa) : ∀ b ∈ oa, (Value.slice A n c).ownBlock ≠ some b := by
  obtain ⟨wb, rfl, hne, h1, h2⟩ := hM
  obtain ⟨A1, c1, h3, h4⟩ := h2.ex
  intro b hb
  simp only [List.mem_cons, List.not_mem_nil, or_false] at hb
  rcases hb with rfl | rfl
  · exact h.ne h1 (by decide)
  · exact h.ne h3 (by decide)
def prVals (ps : List (Sl × Sl)) : List Value := ps.flatMap fun x => [x.1.val, x.2.val]
theorem prVals_snoc (ps : List (Sl × Sl)) (x : Sl × Sl) : prVals (ps ++ [x]) = prVals ps ++ [x.1.val, x.2.val] := by simp [prVals]
theorem prVals_get : ∀ (ps : List (Sl × Sl)) (j : Nat) (x : Sl × Sl), ps[j]? = some x → (prVals ps)[2 * j]? = some x.1.val ∧ (prVals ps)[2 * j + 1]? = some x.2.val
  | [], j, x, h => by simp at h
  | y :: ps, 0, x, h => by
    simp at h
    subst h
    simp [prVals]
  | y :: ps, j + 1, x, h => by
    have := prVals_get ps j x (by simpa using h)
    have e : prVals (y :: ps) = y.1.val :: y.2.val :: prVals ps := by simp [prVals]
    rw [e, show 2 * (j + 1) = 2 * j + 1 + 1 by omega]
    simpa using this
/-- Behind so many seals of both modes. -/
structure Ba (F R : List Int) (w0 : World) (root : List Int) (ma : Nat) (oa : List Nat) (mb : Nat) (seed : List Int) (tb : Nat) (ts : List Tx) (i : Nat) (A : Option Addr) (c : Nat) (ps : List (Sl × Sl)) (w : World) : Prop where
  wm : ∃ s left p at_, Wm F R w0 (oa ++ (Value.slice A i c).ownBlock.toList) mb seed s tb seed left p at_ w ∧ s.bx = bxOf ((ts.take i).zip (ps.map (·.2))) ∧ left.length ≤ 100 ∧ p ≤ i * 400 ∧ at_ ≤ i * 400
  mr : IsMr w ma root oa
  oal : ∀ b ∈ oa, w0.heap.size ≤ b
  own : OwnP w w0.heap.size A i c (prVals ps)
  len : ps.length = i
  rd : ∀ x ∈ ps, Rd w x.1.A x.1.c x.1.xs ∧ Rd w x.2.A x.2.c x.2.xs
  ok : ∀ (j : Nat) (x : Sl × Sl) (t : Tx), ps[j]? = some x → ts[j]? = some t → openOf (drv F R root (t.ep % 256)) x.1.xs (t.hd.take 100) = some (t.pl.take 100) ∧ x.1.xs.length = (t.pl.take 100).length + 28 ∧ x.2.xs.length = (t.pl.take 100).length + 28
theorem Ba.below {F R : List Int} {w0 : World} {root : List Int} {ma : Nat} {oa : List Nat} {mb : Nat} {seed : List Int} {tb : Nat} {ts : List Tx} {i : Nat} {A : Option Addr} {c : Nat} {ps : List (Sl × Sl)} {w w' : World} (h : Ba F R w0 root ma oa mb seed tb ts i A c ps w) (hb : Below w.heap.size w w') : Ba F R w0 root ma oa mb seed tb ts i A c ps w' := by
  obtain ⟨s, left, p, at_, h1, h2⟩ := h.wm
  exact ⟨⟨s, left, p, at_, h1.step hb, h2⟩, h.mr.below hb, h.oal, h.own.below hb, h.len, fun x hx => ⟨(h.rd x hx).1.below hb, (h.rd x hx).2.below hb⟩, h.ok⟩
theorem Ba.bel {F R : List Int} {w0 : World} {root : List Int} {ma : Nat} {oa : List Nat} {mb : Nat} {seed : List Int} {tb : Nat} {ts : List Tx} {i : Nat} {A : Option Addr} {c : Nat} {ps : List (Sl × Sl)} {w : World} (h : Ba F R w0 root ma oa mb seed tb ts i A c ps w) : Below w0.heap.size w0 w := by
  obtain ⟨s, left, p, at_, h1, h2⟩ := h.wm
  exact h1.below
theorem Ba.step {F R : List Int} {w0 : World} {root : List Int} {ma : Nat} {oa : List Nat} {mb : Nat} {seed : List Int} {tb : Nat} {ts : List Tx} {i : Nat} {A : Option Addr} {c : Nat} {ps : List (Sl × Sl)} {wr w6 w7 w8 : World} (h : Ba F R w0 root ma oa mb seed tb ts i A c ps wr) (t : Tx) (ht : ts[i]? = some t)
    {s : St} {left' : List Int} {p' at' : Nat} {x1 x2 : Sl}
    (hW : Wm F R w0 (oa ++ (Value.slice A i c).ownBlock.toList) mb seed { s with bx := mput (t.ep % 256, strOfNums (t.hd.take 100), strOfNums x2.xs) (strOfNums (t.pl.take 100)) s.bx } tb seed left' p' at' w6) (hbx : s.bx = bxOf ((ts.take i).zip (ps.map (·.2))))
    (hl : left'.length ≤ 100) (hp : p' ≤ (i + 1) * 400) (hat : at' ≤ (i + 1) * 400) (hM : IsMr w6 ma root oa) (hr1 : Rd w6 x1.A x1.c x1.xs) (hr2 : Rd w6 x2.A x2.c x2.xs) (hK : ∀ A c xs, Rd wr A c xs → Rd w6 A c xs)
    (hok : openOf (drv F R root (t.ep % 256)) x1.xs (t.hd.take 100) = some (t.pl.take 100) ∧ x1.xs.length = (t.pl.take 100).length + 28 ∧ x2.xs.length = (t.pl.take 100).length + 28)
    {A' : Option Addr} {c' : Nat} (hB : Below w6.heap.size w6 w7) (hO : OwnP w8 w0.heap.size A' (i + 1) c' (prVals ps ++ [x1.val, x2.val])) (hk : Kp ((Value.slice A i c).ownBlock.toList) w7 w8) (hn : (Value.slice A' (i + 1) c').ownBlock = (Value.slice A i c).ownBlock ∨ (Value.slice A' (i + 1) c').ownBlock = some w7.heap.size) (ho7 : OwnP w7 w0.heap.size A i c (prVals ps)) :
    Ba F R w0 root ma oa mb seed tb ts (i + 1) A' c' (ps ++ [(x1, x2)]) w8 := by
  have hg : ∀ b ∈ (Value.slice A i c).ownBlock.toList, (Value.slice A i c).ownBlock = some b := fun b hb => by simpa using hb
  have hh : ∀ b ∈ (Value.slice A i c).ownBlock.toList, Hard w7 b := fun b hb => ho7.hard b (hg b hb)
  have hM7 := hM.below hB
  have hoff := IsMr.off ho7 hM7
  have hil : i < ts.length := (List.getElem?_eq_some_iff.1 ht).1
  have hlen := h.len
  refine ⟨⟨_, left', p', at', (hW.step hB).prot (Pr' := oa ++ (Value.slice A' (i + 1) c').ownBlock.toList) (hk.mono (fun x hx _ => by simp at hx ⊢; exact .inr hx)) ?_ ?_ ?_, ?_, hl, hp, hat⟩, hM7.keep hk hh (fun b hb hx => hoff b hb (hg b hx)), h.oal, by rw [prVals_snoc]; exact hO, by simp [hlen], ?_, ?_⟩
  · intro b hb
    rcases List.mem_append.1 hb with hb | hb
    · exact (hM7.blocks b hb).1
    · exact hh b hb
  · intro b hb
    rcases List.mem_append.1 hb with hb | hb
    · exact ⟨.inl (by simp [hb]), Nat.lt_of_lt_of_le (hM7.blocks b hb).2 hk.size⟩
    · have hb : (Value.slice A' (i + 1) c').ownBlock = some b := by simpa using hb
      refine ⟨?_, (World.ownsRow.lt hO.own b hb).2⟩
      rcases hn with e | e
      · left; rw [← e, hb]; simp
      · rw [hb] at e
        right
        have := Option.some.inj e
        omega
  · intro b hb
    rcases List.mem_append.1 hb with hb | hb
    · exact h.oal b hb
    · exact (World.ownsRow.lt ho7.own b (hg b hb)).1
  · have e1 : (ts.take (i + 1)).zip ((ps ++ [(x1, x2)]).map (·.2)) = (ts.take i).zip (ps.map (·.2)) ++ [(t, x2)] := by
      rw [List.map_append, List.take_add_one, ht, Option.toList_some, List.map_cons, List.map_nil]
      exact List.zip_append (by simp; omega)
    rw [e1, bxOf_snoc, ← hbx]
    rfl
  · intro x hx
    rcases List.mem_append.1 hx with hx | hx
    · have := h.rd x hx
      exact ⟨((hK _ _ _ this.1).below hB).hard hk hh, ((hK _ _ _ this.2).below hB).hard hk hh⟩
    · rw [List.mem_singleton] at hx
      subst hx
      exact ⟨(hr1.below hB).hard hk hh, (hr2.below hB).hard hk hh⟩
  · intro j x t' hj ht'
    rw [List.getElem?_append] at hj
    split at hj
    · exact h.ok j x t' hj ht'
    · rename_i hlt
      have : j = i := by
        have := (List.getElem?_eq_some_iff.1 hj).1
        simp at this
        omega
      subst this
      rw [hlen, Nat.sub_self] at hj
      simp at hj
      subst hj
      rw [ht] at ht'
      cases ht'
      exact hok
end Go.Proofs.YtiboflejmnjdhaaDoor
end
