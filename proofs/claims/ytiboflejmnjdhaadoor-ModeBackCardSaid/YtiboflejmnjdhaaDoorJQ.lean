/- 'copy(x[:], ys)', x an array of bytes. -/
import Derived.Test.YtiboflejmnjdhaaDoorJB
import Derived.Laws.CopyOwn
import Derived.Test.YtiboflejmnjdhaaDoorJP
import Derived.Sort.CutIn
section
set_option linter.unusedVariables false
set_option linter.unusedSimpArgs false
namespace Go.Proofs.YtiboflejmnjdhaaDoor
open Go Go.RowKit
theorem wp_copy8 {w : World} {ops : Array Oper} {rest : List Oper} {o : Oper} {a : Act} {Q : Exit → Act → World → Prop} (hgd : o.guard = none) (d s : Operand) (ho : o.op = .call { callee := .builtin .copy, args := #[d, s], argTypes := #[22, 22] })
    (g n cg : Nat) (hd : a.eval d = .slice (some ⟨g, 0, none⟩) n cg) (A : Option Addr) (m c : Nat) (hs : a.eval s = .slice A m c) (xs : List Int) (hm : m = xs.length) (hr : Rd w A c xs)
    (cur : List Int) (t : TypeId) (hg : w.heap[g]? = some (.cells (w8 cur) t (0, 0))) (hn : n = cur.length) (hle : m ≤ n) (B : Nat) (w0 : World) (hb : Below B w0 w) (hBg : B ≤ g)
    (h : ∀ w', w'.heap[g]? = some (.cells (w8 (xs ++ cur.drop xs.length)) t (0, 0)) → Below B w0 w' → wpList Tryd.prog ops Q rest (a.put o.dst (.int .i64 m)) w') :
    wpList Tryd.prog ops Q (o :: rest) a w := by
  have hmin : Nat.min m n = m := Nat.min_eq_left hle
  have e1 : w8 cur = (cur.map (Value.int .u8)).toArray := rfl
  rw [e1] at hg
  refine wpList_copy_splice hgd d s 22 22 ho 5 Tryd.underlying22 (by kernel_rfl) (some ⟨g, 0, none⟩) A n cg m c hd hs g 0 (cur.map (Value.int .u8)) t hg (xs.map (Value.int .u8)) (by rw [hmin]; simp [hm]) ?_ (by simp; omega) (fun v hv => by
    obtain ⟨z, _, rfl⟩ := List.mem_map.1 hv; rfl) B w0 hb hBg ?_
  · intro hp
    obtain ⟨b, off, rfl, hc⟩ := hr.cells (by simpa using hp)
    refine ⟨rfl, _, rfl, fun j v hj => ?_⟩
    have hjl : j < xs.length := by simpa using (List.getElem?_eq_some_iff.1 hj).1
    have ha : (⟨b, off, none⟩ : Addr).add j = ⟨b, off + j, none⟩ := by unfold Addr.add; split <;> simp_all
    rw [ha, hc j hjl]
    simp [hjl] at hj
    simp [hj, hjl]
  · intro w' hw' hb'
    have h1 := h w' (by
      rw [hw'.out, w8, splice]
      simp only [List.take_zero, List.nil_append, List.length_map, List.map_append, Nat.zero_add, List.map_drop]) hb'
    have e : goInt ((xs.map (Value.int .u8)).length) = .int .i64 (m : Int) := by rw [List.length_map, hm]; rfl
    rw [e]
    exact h1
end Go.Proofs.YtiboflejmnjdhaaDoor
end
section
set_option linter.unusedVariables false
set_option linter.unusedSimpArgs false
set_option maxRecDepth 100000
namespace Go.Proofs.YtiboflejmnjdhaaDoor
open Go Go.RowKit Go.Shelf
attribute [local go_sem] Oper.semAt_some
/-- A block, filled up. -/
def pad16 (xs : List Int) (i : Nat) : List Int := (xs.drop (16 * i)).take 16 ++ List.replicate (16 - ((xs.drop (16 * i)).take 16).length) 0
def blocksOf (xs : List Int) : List (List Int) := (List.range ((xs.length + 15) / 16)).map (pad16 xs)
/-- A text that lies somewhere. -/
structure Txt where
  A : Option Addr
  c : Nat
  xs : List Int
def Txt.val (t : Txt) : Value := .slice t.A t.xs.length t.c
def Txt.ok (w : World) (t : Txt) : Prop := Rd w t.A t.c t.xs ∧ t.xs.length ≤ 9223372036854775000
def Txt.blk (t : Txt) : List Nat := if t.xs.length = 0 then [] else (t.A.map (·.block)).toList
def allBlocks (ts : List Txt) : List (List Int) := ts.flatMap fun t => blocksOf t.xs
theorem blocks_any (A : Option Addr) (n c : Nat) (w : World) :
    Calls Tryd.prog 75 #[.slice A n c] w fun e w' => e = .returned (.func (.func 92) #[] #[.pointer (some ⟨w.heap.size, 0, none⟩)]) ∧ w' = w.alloc (.cells #[.slice A n c] 171) := by
  go_enter Tryd.func75, Tryd.ntmps75
  go_wp2
  go_ret
  exact ⟨rfl, rfl⟩
theorem allBlocks_take (ts : List Txt) (k : Nat) (hk : k < ts.length) : allBlocks (ts.take (k + 1)) = allBlocks (ts.take k) ++ blocksOf (ts[k]).xs := by
  rw [List.take_succ_eq_append_getElem hk, allBlocks, List.flatMap_append]
  simp [allBlocks]
theorem allBlocks_at (ts : List Txt) (k i : Nat) (hk : k < ts.length) (t : Txt) (ht : t = ts[k]) (hi : i < (blocksOf t.xs).length) :
    (allBlocks ts)[(allBlocks (ts.take k)).length + i]? = some ((blocksOf t.xs)[i]) ∧ (allBlocks ts).take ((allBlocks (ts.take k)).length + i) = allBlocks (ts.take k) ++ (blocksOf t.xs).take i ∧
    (allBlocks ts).take ((allBlocks (ts.take k)).length + i + 1) = allBlocks (ts.take k) ++ (blocksOf t.xs).take (i + 1) := by
  subst ht
  have h : allBlocks ts = allBlocks (ts.take k) ++ (blocksOf (ts[k]).xs ++ allBlocks (ts.drop (k + 1))) := by
    rw [← List.append_assoc, ← allBlocks_take ts k hk]
    simp only [allBlocks]
    rw [← List.flatMap_append, List.take_append_drop]
  rw [h]
  refine ⟨?_, ?_, ?_⟩
  · rw [List.getElem?_append_right (by omega), Nat.add_sub_cancel_left, List.getElem?_append_left hi, List.getElem?_eq_getElem hi]
  · rw [List.take_length_add_append, List.take_append_of_le_length (by omega)]
  · rw [Nat.add_assoc, List.take_length_add_append, List.take_append_of_le_length (by omega)]
/-- What holds between two rounds of the iterator. -/
structure BkI (l b1 tb tc yb : Nat) (ts : List Txt) (X0 X : List Nat) (w : World) : Prop where
  sub : ∀ x ∈ X0, x ∈ X
  lt : ∀ x ∈ X, x < w.heap.size
  pr : ∀ x ∈ b1 :: tb :: ts.flatMap Txt.blk, x ∈ X
  y : yb ∈ X
  yb : w.heap[yb]? = some (.cells #[.func (.yield l) #[] #[]] 172 (0, 0))
  bx : w.heap[b1]? = some (.cells #[.slice (some ⟨tb, 0, none⟩) ts.length tc] 171 (0, 0))
  tx : w.heap[tb]? = some (.cells (ts.map Txt.val).toArray 22 (0, 0))
  ok : ∀ t ∈ ts, t.ok w
theorem Txt.ok_keep {t : Txt} {w w' : World} (h : t.ok w) (hk : ∀ b ∈ t.blk, w'.heap[b]? = w.heap[b]?) : t.ok w' :=
  ⟨⟨h.1.le, h.1.big, h.1.nil, fun hp => by
    obtain ⟨b, off, e, hc⟩ := h.1.cells hp
    refine ⟨b, off, e, fun j hj => ?_⟩
    rw [← hc j hj]
    exact World.cell?_of_block (a := ⟨b, off + j, none⟩) (hk b (by rw [Txt.blk, if_neg (by omega), e]; simp))⟩, h.2⟩
theorem Txt.blk_lt {t : Txt} {w : World} (h : t.ok w) : ∀ b ∈ t.blk, b < w.heap.size := fun b hb => by
  rw [Txt.blk] at hb
  split at hb
  · simp at hb
  · obtain ⟨b', off, e, hc⟩ := h.1.cells (by omega)
    rw [e] at hb
    simp at hb
    subst hb
    exact World.block_lt_of_cell? w ⟨b, off + 0, none⟩ (hc 0 (by omega))
theorem BkI.mono {l b1 tb tc yb : Nat} {ts : List Txt} {X0 X X' : List Nat} {w w' : World} (h : BkI l b1 tb tc yb ts X0 X w) (hk : KeepX X w w') (hs : ∀ x ∈ X, x ∈ X') (hlt : ∀ x ∈ X', x < w'.heap.size) : BkI l b1 tb tc yb ts X0 X' w' :=
  ⟨fun x hx => hs _ (h.sub x hx), hlt, fun x hx => hs _ (h.pr x hx), hs _ h.y, (hk.block _ h.y).trans h.yb, (hk.block _ (h.pr _ (by simp))).trans h.bx, (hk.block _ (h.pr _ (by simp))).trans h.tx,
   fun t ht => Txt.ok_keep (h.ok t ht) fun b hb => hk.block _ (h.pr _ (by simp only [List.mem_cons, List.mem_flatMap]; exact .inr (.inr ⟨t, ht, hb⟩)))⟩
theorem cells_turn {B : Nat} {w w' : World} (h : Turn B w w') {b : Nat} {cs : Array Value} {t : TypeId} {fr : Nat × Nat} (hb : w.heap[b]? = some (.cells cs t fr)) : w'.heap[b]? = some (.cells cs t fr) := by
  rcases h.block b (blk_lt hb) with h | ⟨_, o, ho, hc⟩
  · exact h.trans hb
  · rw [hb] at ho; cases ho; cases hc
theorem cell_turn {B : Nat} {w w' : World} (h : Turn B w w') {a : Addr} {v : Value} (hc : w.cell? a = some v) : w'.cell? a = some v := by
  have hlt := World.block_lt_of_cell? w a hc
  rcases h.block a.block hlt with h1 | ⟨_, o, ho, ho2⟩
  · exact (World.cell?_of_block h1).trans hc
  · unfold World.cell? at hc
    rw [ho] at hc
    cases o <;> simp [Obj.isCells] at hc ho2
theorem Rd.turn {B : Nat} {w w' : World} {A : Option Addr} {c : Nat} {xs : List Int} (h : Rd w A c xs) (hT : Turn B w w') : Rd w' A c xs :=
  ⟨h.le, h.big, h.nil, fun hp => by
    obtain ⟨b, off, e, hc⟩ := h.cells hp
    exact ⟨b, off, e, fun j hj => cell_turn hT (hc j hj)⟩⟩
theorem BkI.turn {l b1 tb tc yb B : Nat} {ts : List Txt} {X0 X X' : List Nat} {w w' : World} (h : BkI l b1 tb tc yb ts X0 X w) (hT : Turn B w w') (hs : ∀ x ∈ X, x ∈ X') (hlt : ∀ x ∈ X', x < w'.heap.size) : BkI l b1 tb tc yb ts X0 X' w' :=
  ⟨fun x hx => hs _ (h.sub x hx), hlt, fun x hx => hs _ (h.pr x hx), hs _ h.y, cells_turn hT h.yb, cells_turn hT h.bx, cells_turn hT h.tx, fun t ht => ⟨(h.ok t ht).1.turn hT, (h.ok t ht).2⟩⟩
/-- The marks that are left: blocks for deferred calls, of which there are none. -/
structure Marks (B : Nat) (X : List Nat) (w : World) (dl : List Nat) : Prop where
  nodup : dl.Nodup
  all : ∀ D ∈ dl, B ≤ D ∧ D ∈ X ∧ w.heap[D]? = some (.deferred (some []))
theorem blocks_gives (b1 tb tc : Nat) (ts : List Txt) (htc : ts.length ≤ tc ∧ tc ≤ 9223372036854775000) (w : World) (h1 : w.heap[b1]? = some (.cells #[.slice (some ⟨tb, 0, none⟩) ts.length tc] 171 (0, 0))) (h2 : w.heap[tb]? = some (.cells (ts.map Txt.val).toArray 22 (0, 0)))
    (h3 : ∀ t ∈ ts, t.ok w) :
    Gives Tryd.prog 92 #[.pointer (some ⟨b1, 0, none⟩)] (fun x => #[.agg (w8 x)]) (allBlocks ts) (b1 :: tb :: ts.flatMap Txt.blk) w := by
  intro l J W X0 hb hJ hPr hX0 hround h0
  refine (callsIn_wide (n := 5)).1 ?_
  have hb1 := below_at hb h1 (blk_lt h1)
  have hb2 := below_at hb h2 (blk_lt h2)
  obtain ⟨m, hm⟩ : ∃ m, m = ts.length := ⟨_, rfl⟩
  have c1 : W.cell? ⟨b1, 0, none⟩ = some (.slice (some ⟨tb, 0, none⟩) m tc) := by rw [hm]; exact blk_cell hb1 0 rfl
  have blt := blk_lt hb1
  obtain ⟨W1, hW1⟩ : ∃ W1, W1 = W.alloc (.cells #[.func (.yield l) #[] #[]] 172) := ⟨_, rfl⟩
  have hsz1 : W1.heap.size = W.heap.size + 1 := by rw [hW1]; simp
  have hB1 : Below W.heap.size W W1 := by rw [hW1]; exact (Below.refl _ _).alloc (Nat.le_refl _) _
  have hI : BkI l b1 tb tc W.heap.size ts X0 (W.heap.size :: X0) W1 := by
    refine ⟨fun x hx => by simp [hx], fun x hx => ?_, fun x hx => by simp [hPr x hx], by simp, by rw [hW1]; exact new_at rfl, below_at hB1 hb1 (blk_lt hb1), below_at hB1 hb2 (blk_lt hb2), fun t ht => ⟨((h3 t ht).1.below hb).below hB1, (h3 t ht).2⟩⟩
    rcases List.mem_cons.1 hx with rfl | hx
    · omega
    · have := hX0 x hx; omega
  have hJ1 : J (W.heap.size :: X0) [] W1 := hJ X0 _ _ _ _ h0 (.of_below hB1) (fun x hx => by simp [hx]) (fun x hx => by
    rcases List.mem_cons.1 hx with rfl | hx
    · exact ⟨.inr (Nat.le_refl _), by omega⟩
    · exact ⟨.inl hx, by have := hX0 x hx; omega⟩)
  have HI := Lib.hid hI
  have HJ1 := Lib.hid hJ1
  have Hround := Lib.hid hround
  have Hm := Lib.hid hm
  have Hsz1 := Lib.hid hsz1
  have htl : ((ts.map Txt.val).toArray).size = m := by rw [hm]; simp
  clear hb h1 h2 h3 hPr hX0 hround h0 hI hJ1 hB1 hb1 hb2 hsz1 hm htl
  refine callsIn_of_wp_marks Tryd.func92 rfl trivial ?_ rfl
  simp only [Tryd.ntmps92, List.size_toArray, List.length_cons, List.length_nil, Nat.reduceAdd, Nat.reduceSub, Array.replicate_succ, Array.replicate_zero, List.push_toArray, List.append_toArray, List.nil_append, List.cons_append]
  gi_wp2
  rw [← hW1]
  have HW1 := Lib.hid hW1
  clear hW1 c1
  refine wpIn_loop (fun a' w' => ∃ u4 u5 u6 u10 u11 u12 u13 u14 u16 u17 u18 u19 u20 u21 u22 u23 : Value, ∃ (k : Nat) (X dl : List Nat), k ≤ m ∧ Hid (J X (allBlocks (ts.take k)) w') ∧ Hid (BkI l b1 tb tc W.heap.size ts X0 X w') ∧ Hid (Marks W.heap.size X w' dl) ∧
      a' = { tmps := #[.func (.yield l) #[] #[], .pointer (some ⟨b1, 0, none⟩), .pointer (some ⟨W.heap.size, 0, none⟩), undef, u4, u5, u6, .slice (some ⟨tb, 0, none⟩) m tc, .int .i64 m, .int .i64 k, u10, u11, u12, u13, u14, undef, u16, u17, u18, u19, u20, u21, u22, u23], defers := dl.map fun D => { target := .collected D, args := #[] } })
    (fun a' _ => m - (intOf (a'.tmps.getD 9 undef)).toNat) ?atStart ?round
  case atStart => exact ⟨_, _, _, _, _, _, _, _, _, _, _, _, _, _, _, _, 0, _, [], by omega, HJ1, HI, Lib.hid ⟨by simp, by simp⟩, rfl⟩
  case round =>
    clear HI HJ1
    rintro _ wr ⟨u4, u5, u6, u10, u11, u12, u13, u14, u16, u17, u18, u19, u20, u21, u22, u23, k, X, dl, hk, HJ, HI, HD, rfl⟩
    by_cases hlt : k < m
    · have hlt' : k < ts.length := by rw [← Hm.out]; exact hlt
      obtain ⟨t, ht⟩ : ∃ t, t = ts[k] := ⟨_, rfl⟩
      have htm : t ∈ ts := by rw [ht]; exact List.getElem_mem hlt'
      obtain ⟨tn, htn⟩ : ∃ tn, tn = t.xs.length := ⟨_, rfl⟩
      have hct : wr.cell? ⟨tb, k, none⟩ = some (.slice t.A tn t.c) := by
        rw [htn]
        exact blk_cell (v := t.val) HI.out.tx k (by rw [ht]; simp [hlt'])
      have Htn := Lib.hid htn
      have Ht := Lib.hid ht
      clear ht htn
      gi_wp2_with (refine ⟨trivial, ?_⟩; gi_at_call 47; go_must (refine ((callsIn_wide (n := 4)).2 (chunk_any t.A tn t.c _)).mono ?_; rintro e wq ⟨rfl, hwk⟩; have Hwk := Lib.hid hwk; clear hwk))
      clear hct
      have hBk : Below wr.heap.size wr wq := by rw [Hwk.out]; exact ((Below.refl _ _).alloc (Nat.le_refl _) _).alloc (by simp) _
      have hszk : wq.heap.size = wr.heap.size + 2 := by rw [Hwk.out]; simp
      have hc1 : wq.cell? ⟨wr.heap.size, 0, none⟩ = some (.slice t.A tn t.c) := by
        refine blk_cell (t := 22) (cs := #[.slice t.A tn t.c]) (fr := (0, 0)) ?_ 0 rfl
        rw [Hwk.out]; exact blk_alloc (new_at rfl) _
      have hc2 : wq.cell? ⟨wr.heap.size + 1, 0, none⟩ = some (.int .i64 16) := by
        refine blk_cell (t := 3) (cs := #[.int .i64 16]) (fr := (0, 0)) ?_ 0 rfl
        rw [Hwk.out]; exact new_at (by simp)
      have htok := HI.out.ok t htm
      have htc2 : tn ≤ t.c := by rw [Htn.out]; exact htok.1.le
      obtain ⟨X1, hX1⟩ : ∃ X1, X1 = wr.heap.size :: (wr.heap.size + 1) :: X := ⟨_, rfl⟩
      have hs1 : ∀ x ∈ X, x ∈ X1 := fun x hx => by rw [hX1]; simp [hx]
      have hl1 : ∀ x ∈ X1, x < wq.heap.size := fun x hx => by
        rw [hX1] at hx
        simp only [List.mem_cons] at hx
        rcases hx with rfl | rfl | hx
        · omega
        · omega
        · have := HI.out.lt x hx; omega
      have hl2 : ∀ x ∈ X1, (x ∈ X ∨ wr.heap.size ≤ x) ∧ x < wq.heap.size := fun x hx => by
        refine ⟨?_, hl1 x hx⟩
        rw [hX1] at hx
        simp only [List.mem_cons] at hx
        rcases hx with rfl | rfl | hx
        · exact .inr (Nat.le_refl _)
        · exact .inr (by omega)
        · exact .inl hx
      have hJk : J X1 (allBlocks (ts.take k)) wq := hJ _ _ _ _ _ HJ.out (.of_below hBk) hs1 hl2
      have hIk : BkI l b1 tb tc W.heap.size ts X0 X1 wq := HI.out.mono ⟨hBk.size, fun x hx => hBk.block x (HI.out.lt x hx)⟩ hs1 hl1
      have hDlt : ∀ D ∈ dl, D < wr.heap.size := fun D hD => HI.out.lt _ (HD.out.all D hD).2.1
      have hMk : Hid (Marks W.heap.size X1 wq dl) := Lib.hid ⟨HD.out.nodup, fun D hD => ⟨(HD.out.all D hD).1, hs1 _ (HD.out.all D hD).2.1, (hBk.block _ (hDlt D hD)).trans (HD.out.all D hD).2.2⟩⟩
      have hWq : W.heap.size ≤ wq.heap.size := by have := HI.out.lt _ HI.out.y; omega
      refine range_one (gf := 72) (lb := #[.pointer (some ⟨wr.heap.size, 0, none⟩), .pointer (some ⟨wr.heap.size + 1, 0, none⟩)]) (enc := fun x : Option Addr × Nat => .slice x.1 x.2 x.2) (Pr := [wr.heap.size, wr.heap.size + 1]) rfl (enters_of Tryd.func72 (by kernel_rfl) rfl)
        (chunk_gives wr.heap.size (wr.heap.size + 1) t.A tn t.c htc2 htok.1.big (by rw [Htn.out]; exact htok.2) wq hc1 hc2) (Below.refl _ _) (by simp)
        (fun Xi (s : List (Option Addr × Nat)) W' => J Xi (allBlocks (ts.take k) ++ (blocksOf t.xs).take s.length) W' ∧ BkI l b1 tb tc W.heap.size ts X0 Xi W' ∧ Hid (Marks W.heap.size Xi W' dl)) ?hI X1 (fun x hx => by rw [hX1]; simp at hx ⊢; rcases hx with rfl | rfl <;> simp) hl1 ⟨by simpa using hJk, hIk, hMk⟩ ?body ?done
      case hI => exact fun Xa Xb s A A' h hT h1 h2 => ⟨hJ _ _ _ _ _ h.1 (hT.mono hWq) h1 h2, h.2.1.turn hT h1 (fun x hx => (h2 x hx).2), Lib.hid ⟨h.2.2.out.nodup, fun D hD => ⟨(h.2.2.out.all D hD).1, h1 _ (h.2.2.out.all D hD).2.1, by
        have h5 := (h.2.2.out.all D hD).2.2
        rcases hT.block D (blk_lt h5) with h6 | ⟨h6, _⟩
        · exact h6.trans h5
        · have := hDlt D hD; omega⟩⟩⟩
      case body =>
        rintro lr Xr i x Wr hx hltr ⟨hJr, hIr, HMr⟩
        simp only [List.setIfInBounds_toArray, List.set_cons_zero, List.set_cons_succ]
        obtain ⟨hil, hxe⟩ : i < (tn + 15) / 16 ∧ x = piece t.A tn i := by
          have h1 := (List.getElem?_eq_some_iff.1 hx).1
          simp only [pieces, List.length_map, List.length_range] at h1
          refine ⟨h1, ?_⟩
          simp only [pieces, List.getElem?_map, List.getElem?_range h1, Option.map_some, Option.some.injEq] at hx
          exact hx.symm
        have hti : (List.take i (pieces t.A tn)).length = i := by simp [pieces]; omega
        have hti1 : (List.take (i + 1) (pieces t.A tn)).length = i + 1 := by simp [pieces]; omega
        rw [hti] at hJr
        rw [hti1]
        subst hxe
        simp only [piece]
        obtain ⟨pm, hpm⟩ : ∃ pm, pm = min 16 (tn - 16 * i) := ⟨_, rfl⟩
        rw [← hpm]
        obtain ⟨part, hpart⟩ : ∃ part, part = (t.xs.drop (16 * i)).take 16 := ⟨_, rfl⟩
        have hpl : part.length = pm := by rw [hpart, hpm, Htn.out]; simp
        have htr := (hIr.ok t htm).1
        obtain ⟨tb0, toff, htA, htc0⟩ := htr.cells (by rw [← Htn.out]; omega)
        have hpc : ∀ j, j < pm → Wr.cell? ⟨tb0, toff + 16 * i + j, none⟩ = some (.int .u8 (part.getD j 0)) := fun j hj => by
          have hj2 : 16 * i + j < t.xs.length := by rw [← Htn.out]; omega
          rw [show toff + 16 * i + j = toff + (16 * i + j) by omega, htc0 _ hj2, hpart]
          congr 2
          simp only [List.getD_eq_getElem?_getD, List.getElem?_take, List.getElem?_drop]
          rw [if_pos (by omega)]
        have hadd : t.A.map (·.add (16 * i)) = some ⟨tb0, toff + 16 * i, none⟩ := by
          rw [htA]; simp only [Option.map_some, Addr.add]; split <;> simp_all
        rw [hadd]
        have Hpc := Lib.hid hpc
        have Hpl := Lib.hid hpl
        have Hpart := Lib.hid hpart
        have Hpm := Lib.hid hpm
        have HJr := Lib.hid hJr
        have HIr := Lib.hid hIr
        have Hltr := Lib.hid hltr
        have hpm16 : pm ≤ 16 := by omega
        clear hx hti hti1 hpart hpl htr htA htc0 hpc hadd hJr hIr hltr hpm
        have Hcn : Hid ((part.map (Value.int .u8)).length = Nat.min pm 16) := Lib.hid (by rw [List.length_map, Hpl.out]; exact (Nat.min_eq_left hpm16).symm)
        have Hcs : Hid (∀ j v, (part.map (Value.int .u8))[j]? = some v → (Wr.alloc (.cells #[.int .u8 0, .int .u8 0, .int .u8 0, .int .u8 0, .int .u8 0, .int .u8 0, .int .u8 0, .int .u8 0, .int .u8 0, .int .u8 0, .int .u8 0, .int .u8 0, .int .u8 0, .int .u8 0, .int .u8 0, .int .u8 0] 50)).cell? ((⟨tb0, toff + 16 * i, none⟩ : Addr).add j) = some v) := Lib.hid (fun j v hj => by
          have hjl : j < pm := by rw [← Hpl.out]; simpa using (List.getElem?_eq_some_iff.1 hj).1
          have ha : (⟨tb0, toff + 16 * i, none⟩ : Addr).add j = ⟨tb0, toff + 16 * i + j, none⟩ := by unfold Addr.add; split <;> simp_all
          have h1 := Hpc.out j hjl
          rw [ha, (((Below.refl Wr.heap.size Wr).alloc (Nat.le_refl _) _).cell (p := ⟨tb0, toff + 16 * i + j, none⟩) (World.block_lt_of_cell? Wr _ h1)), h1]
          have hj2 : j < part.length := by rw [Hpl.out]; exact hjl
          simp [hj2] at hj
          simp [hj, hj2])
        have Hcf : Hid (0 + (part.map (Value.int .u8)).length ≤ [Value.int .u8 0, .int .u8 0, .int .u8 0, .int .u8 0, .int .u8 0, .int .u8 0, .int .u8 0, .int .u8 0, .int .u8 0, .int .u8 0, .int .u8 0, .int .u8 0, .int .u8 0, .int .u8 0, .int .u8 0, .int .u8 0].length) := Lib.hid (by simp; rw [Hpl.out]; exact hpm16)
        have Hc1 : Hid (∀ v ∈ part.map (Value.int .u8), v.oneCell' = true) := Lib.hid (fun v hv => by
          obtain ⟨z, _, rfl⟩ := List.mem_map.1 hv; rfl)
        have Hcb : Hid (Below Wr.heap.size Wr (Wr.alloc (.cells #[.int .u8 0, .int .u8 0, .int .u8 0, .int .u8 0, .int .u8 0, .int .u8 0, .int .u8 0, .int .u8 0, .int .u8 0, .int .u8 0, .int .u8 0, .int .u8 0, .int .u8 0, .int .u8 0, .int .u8 0, .int .u8 0] 50))) := Lib.hid ((Below.refl _ _).alloc (Nat.le_refl _) _)
        have hsz5 : (Tryd.prog.info? 5).map (·.size) = some 1 := by kernel_rfl
        have Hsz5 := Lib.hid hsz5
        clear hsz5
        gi_upto_region 7 with (fail)
        refine reg_in (by kernel_rfl) ?_
        go_wp2_with ((with_reducible refine wpList_copy_splice rfl (.tmp 16) (.tmp 17) 22 22 rfl 5 Tryd.underlying22 Hsz5.out (some ⟨Wr.heap.size, 0, none⟩) (some ⟨tb0, toff + 16 * i, none⟩) 16 16 pm pm rfl rfl Wr.heap.size 0 [.int .u8 0, .int .u8 0, .int .u8 0, .int .u8 0, .int .u8 0, .int .u8 0, .int .u8 0, .int .u8 0, .int .u8 0, .int .u8 0, .int .u8 0, .int .u8 0, .int .u8 0, .int .u8 0, .int .u8 0, .int .u8 0] 50 (new_at rfl) (part.map (Value.int .u8)) Hcn.out (fun _ => ⟨rfl, _, rfl, Hcs.out⟩) Hcf.out Hc1.out Wr.heap.size Wr Hcb.out (Nat.le_refl _) ?_); intro w' hblk hbel; have Hblk := Lib.hid hblk; have Hbel := Lib.hid hbel; clear hblk hbel)
        try dsimp only [noOut]
        obtain ⟨blk, hblk⟩ : ∃ blk, blk = pad16 t.xs i := ⟨_, rfl⟩
        have hbl : blk.length = 16 := by rw [hblk, pad16, ← Hpart.out]; simp [Hpl.out]; omega
        have Hb1 : Hid (w'.heap[Wr.heap.size]? = some (.cells (w8 blk) 50 (0, 0))) := Lib.hid (by
          rw [Hblk.out.out, hblk, pad16, ← Hpart.out]
          congr 2
          rw [w8, splice, show [Value.int .u8 0, .int .u8 0, .int .u8 0, .int .u8 0, .int .u8 0, .int .u8 0, .int .u8 0, .int .u8 0, .int .u8 0, .int .u8 0, .int .u8 0, .int .u8 0, .int .u8 0, .int .u8 0, .int .u8 0, .int .u8 0] = List.replicate 16 (Value.int .u8 0) from rfl]
          congr 1
          simp only [List.take_zero, List.nil_append, List.length_map, List.map_append, Nat.zero_add, List.drop_replicate, List.map_replicate])
        have hIw : BkI l b1 tb tc W.heap.size ts X0 Xr w' := HIr.out.mono ⟨Hbel.out.size, fun x hx => Hbel.out.block x (Hltr.out x hx)⟩ (fun _ h => h) (fun x hx => Nat.lt_of_lt_of_le (Hltr.out x hx) Hbel.out.size)
        have hltw : ∀ x ∈ Xr, x < w'.heap.size := fun x hx => Nat.lt_of_lt_of_le (Hltr.out x hx) Hbel.out.size
        have hJw : J Xr (allBlocks (ts.take k) ++ (blocksOf t.xs).take i) w' := hJ Xr Xr _ Wr w' HJr.out (.of_below Hbel.out) (fun _ h => h) (fun x hx => ⟨.inl hx, hltw x hx⟩)
        have hbi : i < (blocksOf t.xs).length := by simp only [blocksOf, List.length_map, List.length_range]; rw [← Htn.out]; exact hil
        have hat := allBlocks_at ts k i hlt' t Ht.out hbi
        have hat2 : (blocksOf t.xs)[i] = blk := by rw [hblk]; simp [blocksOf]
        obtain ⟨ha1, ha2, ha3⟩ := hat
        obtain ⟨fn, tmps, assign, body, hy, hR⟩ := Hround.out Xr ((allBlocks (ts.take k)).length + i) blk w' (by rw [ha1]; exact congrArg some hat2) hltw (by rw [ha2]; exact hJw)
        rw [ha3] at hR
        have hcy := blk_cell (v := .func (.yield l) #[] #[]) hIw.yb 0 rfl
        have Hsz16 : Hid ((Tryd.prog.info? 50).map (·.size) = some (w8 blk).size) := Lib.hid (by rw [w8_size, hbl]; kernel_rfl)
        have Hnd : Hid (∀ (ty : TypeId) (x : Operand) (c : Call), Op.load ty x ≠ .defer c) := Lib.hid (by simp)
        have HIw := Lib.hid hIw
        have HR := Lib.hid hR
        have Hltw := Lib.hid hltw
        clear hblk hbl hIw hltw hJw hbi hat2 ha1 ha2 ha3 hR
        gi_wp2_with (with_reducible refine in_run_r (o := ⟨some 20, .load 50 (.tmp 6), _, _, _, _⟩) rfl (Hnd.out _ _) (.agg (w8 blk)) (yields_load_row 50 _ rfl Wr.heap.size rfl _ _ _ _ Hb1.out Tryd.underlying50 rfl Hsz16.out) ?_)
        refine ⟨rfl, (roundIn_any HR.out).mono ?_⟩
        rintro e W3 ⟨rfl, hJ4, hk4⟩
        have hk5 : KeepX Xr Wr W3 := (KeepX.of_below Hbel.out Hltr.out).trans hk4
        have hI4 := HIw.out.mono hk4 (fun _ h => h) (fun x hx => Nat.lt_of_lt_of_le (Hltw.out x hx) hk4.size)
        have HJ4 := Lib.hid hJ4
        have HI4 := Lib.hid hI4
        have Hk5 := Lib.hid hk5
        clear hJ4 hI4 hk4 hk5 hy hcy
        gi_wp2
        exact ⟨Hk5.out, HJ4.out, HI4.out, Lib.hid ⟨HMr.out.nodup, fun D hD => ⟨(HMr.out.all D hD).1, (HMr.out.all D hD).2.1, (Hk5.out.block D (HMr.out.all D hD).2.1).trans (HMr.out.all D hD).2.2⟩⟩⟩
      case done =>
        rintro Xe We ⟨hJe, hIe, HMe⟩ hse hme hde
        have hpl : (pieces t.A tn).length = (blocksOf t.xs).length := by simp [pieces, blocksOf, Htn.out]
        rw [hpl, List.take_length] at hJe
        have Hde := Lib.hid hde
        clear hde
        gi_wp2
        refine ⟨⟨_, _, _, _, _, _, _, _, _, _, _, _, _, _, _, _, k + 1, Xe, wq.heap.size :: dl, by omega, Lib.hid (by rw [allBlocks_take ts k hlt', ← Ht.out]; exact hJe), Lib.hid hIe, Lib.hid ⟨?_, ?_⟩, by rfl⟩, ?_⟩
        · rw [List.nodup_cons]
          exact ⟨fun h => by have := hDlt _ h; omega, HMe.out.nodup⟩
        · intro D hD
          rcases List.mem_cons.1 hD with rfl | hD
          · exact ⟨hWq, hme, Hde.out⟩
          · exact HMe.out.all D hD
        · simp [intOf]; omega
    · obtain rfl : k = m := by omega
      gi_wp2
      refine leaves_marks (fun w => results_none rfl _ _ _) dl wr HD.out.nodup (fun D hD => (HD.out.all D hD).2.2) ?_
      intro w' hT hs
      have hT' := hT W.heap.size (fun D hD => (HD.out.all D hD).1)
      refine ⟨⟨_, rfl⟩, X, HI.out.sub, fun x hx => by rw [hs]; exact HI.out.lt x hx, hJ _ _ _ _ _ ?_ hT' (fun _ h => h) (fun x hx => ⟨.inl hx, by rw [hs]; exact HI.out.lt x hx⟩)⟩
      have := HJ.out
      rwa [Hm.out, List.take_length] at this
end Go.Proofs.YtiboflejmnjdhaaDoor
end
