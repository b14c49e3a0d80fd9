/- Slices of slices: one that is owned, and appended to; one that came in. -/
import Derived.Test.YtiboflejmnjdhaaDoorJN
import Derived.BigQuiet
section
set_option linter.unusedVariables false
set_option linter.unusedSimpArgs false
set_option maxRecDepth 100000
namespace Go.Proofs.YtiboflejmnjdhaaDoor
open Go Go.RowKit Go.Conc
/-- An owned row of slices. -/
structure OwnV (w : World) (base : Nat) (A : Option Addr) (n c : Nat) (vs : List Value) : Prop where
  own : w.ownsRow base 22 1 (.slice A n c) n vs
  hard : ∀ g, (Value.slice A n c).ownBlock = some g → Hard w g
theorem OwnV.nil (w : World) (base : Nat) : OwnV w base none 0 0 [] := ⟨World.ownsRow_nil _ _ _ _, by simp [Value.ownBlock]⟩
theorem OwnV.keep {w w' : World} {base : Nat} {A : Option Addr} {n c : Nat} {vs : List Value} (h : OwnV w base A n c vs) (hk : ∀ g, (Value.slice A n c).ownBlock = some g → g < w.heap.size → w'.heap[g]? = w.heap[g]?) : OwnV w' base A n c vs := by
  refine ⟨⟨h.own.1, ?_⟩, ?_⟩
  · rcases h.own.2 with h2 | ⟨g, cap, cur, e, h1, hg, r⟩
    · exact .inl h2
    · have hgb : (Value.slice A n c).ownBlock = some g := by rw [e]; rfl
      exact .inr ⟨g, cap, cur, e, h1, (hk g hgb (blk_lt hg)).trans hg, r⟩
  · intro g hg off q x hq hx
    have hlt := (World.ownsRow.lt h.own g hg).2
    have := World.cell?_of_block (w := w) (a := ⟨g, off, none⟩) (hk g hg hlt)
    rw [this] at hx
    exact h.hard g hg off q x hq hx
theorem OwnV.below {w w' : World} {base : Nat} {A : Option Addr} {n c : Nat} {vs : List Value} (h : OwnV w base A n c vs) (hb : Below w.heap.size w w') : OwnV w' base A n c vs := h.keep fun g _ hl => hb.block g hl
theorem OwnV.cell {w : World} {base : Nat} {A : Option Addr} {n c : Nat} {vs : List Value} (h : OwnV w base A n c vs) (h0 : 0 < n) : ∃ g, A = some ⟨g, 0, none⟩ ∧ base ≤ g ∧ g < w.heap.size ∧ ∀ j u, vs[j]? = some u → w.cell? ⟨g, j, none⟩ = some u := by
  rcases h.own.2 with ⟨e, hn⟩ | ⟨g, cap, cur, e, hb, hg, r⟩
  · omega
  · rw [Value.slice.injEq] at e
    obtain ⟨rfl, -, rfl⟩ := e
    refine ⟨g, rfl, hb, blk_lt hg, fun j u hj => ?_⟩
    have := World.ownsRow.cells h.own (g := g) rfl j u hj
    have ha : (⟨g, 0, none⟩ : Addr).add j = ⟨g, j, none⟩ := by unfold Addr.add; split <;> simp_all
    rwa [ha] at this
theorem OwnV.len {w : World} {base : Nat} {A : Option Addr} {n c : Nat} {vs : List Value} (h : OwnV w base A n c vs) : n = vs.length ∧ n ≤ c := by
  have := h.own.1
  refine ⟨by omega, ?_⟩
  rcases h.own.2 with ⟨e, hn⟩ | ⟨g, cap, cur, e, hb, hg, r, _⟩
  · omega
  · rw [Value.slice.injEq] at e
    omega
section
variable {ops : Array Oper} {rest : List Oper} {o : Oper} {a : Act} {Q : Exit → Act → World → Prop}
theorem infoSl : (Tryd.prog.info? 22).map (fun i => (i.zero, i.size, i.bytes)) = some (some (.slice none 0 0), 1, 24) := by kernel_rfl
theorem isl {v : Value} (h : ∃ A n c, v = .slice A n c) : ∀ q x, (q = IntKind.u8 ∨ q = IntKind.u32) → v ≠ .int q x := by
  obtain ⟨A, n, c, rfl⟩ := h
  intro q x _; simp
/-- 'append(v, x)' of one slice. -/
theorem app_sl {w : World} (hgd : o.guard = none) (s x : Operand) (ho : o.op = .call { callee := .builtin .append, args := #[s, x], argTypes := #[171, 171] })
    (base : Nat) (A : Option Addr) (n c : Nat) (vs : List Value) (hs : a.eval s = .slice A n c) (hown : OwnV w base A n c vs) (b c1 : Nat) (B : Option Addr) (m d : Nat) (hx : a.eval x = .slice (some ⟨b, 0, none⟩) 1 c1) (hb : w.cell? ⟨b, 0, none⟩ = some (.slice B m d))
    (hl : n ≤ 1000000) (hbase : base ≤ w.heap.size)
    (h : ∀ (A' : Option Addr) (c' : Nat) (w' : World), OwnV w' base A' (n + 1) c' (vs ++ [.slice B m d]) → Kp ((Value.slice A n c).ownBlock.toList) w w' → ((Value.slice A' (n + 1) c').ownBlock = (Value.slice A n c).ownBlock ∨ (Value.slice A' (n + 1) c').ownBlock = some w.heap.size) → wpList Tryd.prog ops Q rest (a.put o.dst (.slice A' (n + 1) c')) w') :
    wpList Tryd.prog ops Q (o :: rest) a w := by
  obtain ⟨i, hi, hz, hsz, hby⟩ := info_parts infoSl
  have ht := Tryd.underlying171
  have hnews : ∀ j u, ([Value.slice B m d] : List Value)[j]? = some u → w.cell? ((⟨b, 0, none⟩ : Addr).add j) = some u := by
    intro j u hj
    cases j with
    | zero =>
      simp at hj
      subst hj
      have ha : (⟨b, 0, none⟩ : Addr).add 0 = ⟨b, 0, none⟩ := by simp [Addr.add]
      rw [ha]; exact hb
    | succ j => simp at hj
  have hlen := hown.own.1
  have hz0 : ∀ k, ∀ v ∈ Builtin.zeroCells (Value.slice none 0 0).cells k, v = Value.slice none 0 0 := by
    intro k v hv
    have hc : (Value.slice none 0 0).cells = #[Value.slice none 0 0] := rfl
    rw [hc] at hv
    simp only [Builtin.zeroCells, Array.mem_map] at hv
    obtain ⟨j, _, rfl⟩ := hv
    have : j % (#[Value.slice none 0 0] : Array Value).size = 0 := Nat.mod_one j
    rw [this]; rfl
  have grown : ∀ (old : Nat) (xs : List Value), xs.length = n → (∀ v ∈ xs, ∀ q x, (q = IntKind.u8 ∨ q = IntKind.u32) → v ≠ Value.int q x) → OwnV (w.drew.alloc (.cells (xs.toArray ++ ([Value.slice B m d] : List Value).toArray ++ Builtin.zeroCells (Value.slice none 0 0).cells (grownCap w (n + 1) old 22 - (n + 1))) 22)) base (some ⟨w.heap.size, 0, none⟩) (n + 1) (grownCap w (n + 1) old 22) (xs ++ [.slice B m d]) := by
    intro old xs hxl hxs
    have hge := grownCap_ge w (n + 1) old 22
    have hcm : grownCap w (n + 1) old 22 ≤ maxLen := grownCap_le_maxLen w (n + 1) old _ (by simp only [maxLen]; omega)
    have hnew := heap_alloc_new w.drew (.cells (xs.toArray ++ ([Value.slice B m d] : List Value).toArray ++ Builtin.zeroCells (Value.slice none 0 0).cells (grownCap w (n + 1) old 22 - (n + 1))) 22)
    refine ⟨⟨by simp [hxl], .inr ⟨w.heap.size, _, _, rfl, hbase, hnew, hge, hcm, ?_, ?_⟩⟩, ?_⟩
    · have hc1 : (Value.slice none 0 0).cells.size = 1 := rfl
      simp only [Array.size_append, List.size_toArray, size_zeroCells, hc1, hxl, List.length_singleton]
      omega
    · simp only [Array.toList_append, List.append_assoc]
      rw [← List.append_assoc]
      exact List.take_left' (by simp [hxl])
    · intro g hg
      have hg : w.heap.size = g := by simpa [Value.ownBlock] using hg
      subst hg
      refine hard_cells hnew ?_
      intro v hv
      simp only [Array.mem_append, List.mem_toArray, List.mem_singleton] at hv
      rcases hv with (hv | hv) | hv
      · exact hxs v hv
      · exact isl ⟨_, _, _, hv⟩
      · exact isl ⟨_, _, _, hz0 _ v hv⟩
  rcases hown.own.2 with ⟨e, hn0⟩ | ⟨g, cap, cur, e, hbg, hg, hnc, hcm, hcs, htake⟩
  · rw [Value.slice.injEq] at e
    obtain ⟨rfl, -, rfl⟩ := e
    subst hn0
    have hx0 : vs = [] := List.eq_nil_of_length_eq_zero (by simpa using hlen)
    subst hx0
    have hr := run_append_nil (P := Tryd.prog) w 171 o.type 22 i _ ht hi hz ⟨b, 0, none⟩ 1 c1 [.slice B m d] (by rw [hsz]; rfl) hnews (by omega) (by omega) (by rw [hby]; omega)
    refine app_run hgd s x 171 ho _ _ hs hx hr ?_
    have hgr := grown 0 [] rfl (by simp)
    simp only [Nat.zero_add, List.nil_append, Array.empty_append] at hgr ⊢
    refine h _ _ _ hgr ?_ (.inr rfl)
    exact ((Kp.refl _ w).drewN 1).alloc _
  · have e' := e
    rw [Value.slice.injEq] at e'
    obtain ⟨rfl, -, rfl⟩ := e'
    have hcur : ∀ v ∈ cur, ∀ q x, (q = IntKind.u8 ∨ q = IntKind.u32) → v ≠ Value.int q x := by
      intro v hv q x hq hvx
      obtain ⟨j, hj⟩ := Array.mem_iff_getElem?.1 hv
      exact hown.hard g rfl j q x hq (by rw [blk_cell hg j hj, hvx])
    by_cases hroom : n + 1 ≤ c
    · have hfit : n * i.size + ([Value.slice B m d] : List Value).length ≤ cur.size := by rw [hsz, hcs]; simp; omega
      have hr := run_append_room (P := Tryd.prog) w 171 o.type 22 i ht hi g n c cur hg ⟨b, 0, none⟩ 1 c1 [.slice B m d] (by rw [hsz]; rfl) hnews (by simp [Value.oneCell']) hroom hfit
      refine app_run hgd s x 171 ho _ _ hs hx hr ?_
      have hrow := setRow_heap w g cur (cur.toList.take (n * i.size) ++ [Value.slice B m d] ++ cur.toList.drop (n * i.size + ([Value.slice B m d] : List Value).length)).toArray _ _ hg
      refine h _ _ _ ⟨⟨by simp; omega, .inr ⟨g, c, _, rfl, hbg, hrow, hroom, hcm, ?_, ?_⟩⟩, ?_⟩ ((Kp.refl _ w).setRow (by simp [Value.ownBlock]) _) (.inl rfl)
      · rw [hsz]
        simp only [List.size_toArray, List.length_append, List.length_take, List.length_drop, Array.length_toList, List.length_singleton]
        omega
      · rw [hsz, htake]
        exact List.take_left' (by simp; omega)
      · intro g2 hg2
        have hg2 : g = g2 := by simpa [Value.ownBlock] using hg2
        subst hg2
        refine hard_cells hrow ?_
        intro v hv
        simp only [List.mem_toArray, List.mem_append, List.mem_singleton] at hv
        rcases hv with (hv | hv) | hv
        · exact hcur v (by have := List.mem_of_mem_take hv; simpa using this)
        · exact isl ⟨_, _, _, hv⟩
        · exact hcur v (by have := List.mem_of_mem_drop hv; simpa using this)
    · have holds : ∀ j u, vs[j]? = some u → w.cell? ((⟨g, 0, none⟩ : Addr).add j) = some u := World.ownsRow.cells hown.own (g := g) rfl
      have hr := run_append_grow (P := Tryd.prog) w 171 o.type 22 i _ ht hi hz ⟨g, 0, none⟩ n c vs (by rw [hsz]; exact hlen) holds ⟨b, 0, none⟩ 1 c1 [.slice B m d] (by rw [hsz]; rfl) hnews (by omega) (by omega) (growslice_fits (by omega) (by rw [hby]; omega))
      refine app_run hgd s x 171 ho _ _ hs hx hr ?_
      refine h _ _ _ (grown c vs (by omega) ?_) (((Kp.refl _ w).drewN 1).alloc _) (.inr rfl)
      intro v hv
      refine hcur v ?_
      rw [← htake] at hv
      have := List.mem_of_mem_take hv
      simpa using this
end
end Go.Proofs.YtiboflejmnjdhaaDoor
end
section
set_option linter.unusedVariables false
set_option linter.unusedSimpArgs false
set_option maxRecDepth 100000
namespace Go.Proofs.YtiboflejmnjdhaaDoor
open Go Go.RowKit Go.Conc
/-- A text that came in. -/
structure Tx where
  ep : Int
  hA : Option Addr
  hc : Nat
  hd : List Int
  pA : Option Addr
  pc : Nat
  pl : List Int
def Tx.val (t : Tx) : Array Value := tval t.ep t.hA t.hd.length t.hc t.pA t.pl.length t.pc
structure Tx.ok (w : World) (t : Tx) : Prop where
  lo : -9223372036854775808 ≤ t.ep
  hi : t.ep ≤ 9223372036854775807
  hd : Rd w t.hA t.hc t.hd
  pl : Rd w t.pA t.pc t.pl
theorem Tx.ok.below {w w' : World} {t : Tx} (h : t.ok w) (hb : Below w.heap.size w w') : t.ok w' := ⟨h.lo, h.hi, h.hd.below hb, h.pl.below hb⟩
/-- Texts that are read. -/
structure RdT (w : World) (A : Option Addr) (n c : Nat) (ts : List Tx) : Prop where
  len : n = ts.length
  le : n ≤ c
  big : c ≤ 9223372036854775807
  cells : 0 < n → ∃ b off, A = some ⟨b, off, none⟩ ∧ b < w.heap.size ∧ ∀ j (h : j < ts.length), w.rangeAt b (off + j * 3) ts[j].val.toList
  ok : ∀ t ∈ ts, t.ok w
theorem RdT.below {w w' : World} {A : Option Addr} {n c : Nat} {ts : List Tx} (h : RdT w A n c ts) (hb : Below w.heap.size w w') : RdT w' A n c ts := by
  refine ⟨h.len, h.le, h.big, fun h0 => ?_, fun t ht => (h.ok t ht).below hb⟩
  obtain ⟨b, off, e, hlt, hc⟩ := h.cells h0
  refine ⟨b, off, e, Nat.lt_of_lt_of_le hlt hb.size, fun j hj i v hv => ?_⟩
  exact (hb.cell (p := ⟨b, off + j * 3 + i, none⟩) hlt).trans (hc j hj i v hv)
theorem RdT.take {w : World} {A : Option Addr} {n c : Nat} {ts : List Tx} (h : RdT w A n c ts) (m : Nat) (hm : m ≤ n) : RdT w A m c (ts.take m) := by
  have hl := h.len
  refine ⟨by simp; omega, by have := h.le; omega, h.big, fun h0 => ?_, fun t ht => h.ok t (List.mem_of_mem_take ht)⟩
  obtain ⟨b, off, e, hlt, hc⟩ := h.cells (by omega)
  refine ⟨b, off, e, hlt, fun j hj => ?_⟩
  simp only [List.length_take] at hj
  have := hc j (by omega)
  simpa using this
/-- A slice of bytes, as a value. -/
structure Sl where
  A : Option Addr
  c : Nat
  xs : List Int
def Sl.val (s : Sl) : Value := .slice s.A s.xs.length s.c
/-- Slices that are read. -/
structure RdL (w : World) (A : Option Addr) (n c : Nat) (ss : List Sl) : Prop where
  len : n = ss.length
  le : n ≤ c
  big : c ≤ 9223372036854775807
  cells : 0 < n → ∃ b off, A = some ⟨b, off, none⟩ ∧ b < w.heap.size ∧ ∀ j (h : j < ss.length), w.cell? ⟨b, off + j, none⟩ = some ss[j].val
  ok : ∀ s ∈ ss, Rd w s.A s.c s.xs
theorem RdL.below {w w' : World} {A : Option Addr} {n c : Nat} {ss : List Sl} (h : RdL w A n c ss) (hb : Below w.heap.size w w') : RdL w' A n c ss := by
  refine ⟨h.len, h.le, h.big, fun h0 => ?_, fun s hs => (h.ok s hs).below hb⟩
  obtain ⟨b, off, e, hlt, hc⟩ := h.cells h0
  exact ⟨b, off, e, Nat.lt_of_lt_of_le hlt hb.size, fun j hj => (hb.cell (p := ⟨b, off + j, none⟩) hlt).trans (hc j hj)⟩
/-! ### what the table holds -/
def ksOf (t : Tx) (b : Sl) : BK := (t.ep % 256, strOfNums (t.hd.take 100), strOfNums b.xs)
/-- The table behind so many seals. -/
def bxOf (l : List (Tx × Sl)) : List (BK × ByteArray) := l.foldl (fun m x => mput (ksOf x.1 x.2) (strOfNums (x.1.pl.take 100)) m) []
theorem bxOf_snoc (l : List (Tx × Sl)) (x : Tx × Sl) : bxOf (l ++ [x]) = mput (ksOf x.1 x.2) (strOfNums (x.1.pl.take 100)) (bxOf l) := by simp [bxOf]
/-- The last one with that key, of the first j. -/
def lastJ (l : List (Tx × Sl)) (key : BK) : Nat → Int
  | 0 => -1
  | j + 1 => if (l[j]?).map (fun x => ksOf x.1 x.2) = some key then j else lastJ l key j
theorem lastJ_ge (l : List (Tx × Sl)) (key : BK) : ∀ j, -1 ≤ lastJ l key j ∧ lastJ l key j < j
  | 0 => by simp [lastJ]
  | j + 1 => by
    have := lastJ_ge l key j
    rw [lastJ]
    split
    · omega
    · omega
theorem lastJ_append (l r : List (Tx × Sl)) (key : BK) : ∀ j, j ≤ l.length → lastJ (l ++ r) key j = lastJ l key j
  | 0, _ => rfl
  | j + 1, h => by
    rw [lastJ, lastJ, lastJ_append l r key j (by omega), List.getElem?_append_left (by omega)]
theorem mget_bxOf (key : BK) (l : List (Tx × Sl)) : mget key (bxOf l) = if lastJ l key l.length < 0 then none else (l[(lastJ l key l.length).toNat]?).map (fun x => strOfNums (x.1.pl.take 100)) := by
  have hl : ∀ (n : Nat) (l : List (Tx × Sl)), l.length = n → mget key (bxOf l) = if lastJ l key l.length < 0 then none else (l[(lastJ l key l.length).toNat]?).map (fun x => strOfNums (x.1.pl.take 100)) := by
    intro n
    induction n with
    | zero =>
      intro l h
      obtain rfl : l = [] := List.eq_nil_of_length_eq_zero h
      rfl
    | succ n ih =>
      intro l h
      obtain ⟨r, x, rfl⟩ : ∃ r x, l = r ++ [x] := ⟨l.dropLast, l.getLast (by intro e; rw [e] at h; simp at h), (List.dropLast_concat_getLast _).symm⟩
      have hr : r.length = n := by simpa using h
      have hx : (r ++ [x])[r.length]? = some x := by simp
      have hg := lastJ_ge r key r.length
      rw [bxOf_snoc, mget_mput, List.length_append, List.length_singleton]
      by_cases hk : key = ksOf x.1 x.2
      · have hL : lastJ (r ++ [x]) key (r.length + 1) = r.length := by
          rw [lastJ, hx, Option.map_some, if_pos (by rw [hk])]
        rw [if_pos hk, hL, if_neg (by omega), Int.toNat_natCast, hx]
        rfl
      · have hL : lastJ (r ++ [x]) key (r.length + 1) = lastJ r key r.length := by
          rw [lastJ, hx, Option.map_some, if_neg (fun e => hk (Option.some.inj e).symm), lastJ_append r [x] key _ (Nat.le_refl _)]
        rw [if_neg hk, ih r hr, hL]
        by_cases h0 : lastJ r key r.length < 0
        · rw [if_pos h0, if_pos h0]
        · rw [if_neg h0, if_neg h0, List.getElem?_append_left (by omega)]
  exact hl _ l rfl
theorem strOf_len {xs ys : List Int} (h : strOfNums xs = strOfNums ys) : xs.length = ys.length := by
  have := congrArg ByteArray.size h
  rwa [strOfNums_size, strOfNums_size] at this
/-- A box that is too short was never sealed. -/
theorem lastJ_short (l : List (Tx × Sl)) (key : BK) (bs : List Int) (hk : key.2.2 = strOfNums bs) (hs : bs.length < 28) (hl : ∀ x ∈ l, 28 ≤ x.2.xs.length) : ∀ j, lastJ l key j = -1
  | 0 => rfl
  | j + 1 => by
    rw [lastJ, lastJ_short l key bs hk hs hl j, if_neg]
    intro h
    cases hx : l[j]? with
    | none => rw [hx] at h; cases h
    | some x =>
      rw [hx] at h
      simp only [Option.map_some, Option.some.injEq] at h
      have h2 : strOfNums x.2.xs = strOfNums bs := by rw [← hk, ← h]; rfl
      have := strOf_len h2
      have := hl x (List.mem_of_getElem? hx)
      omega
end Go.Proofs.YtiboflejmnjdhaaDoor
end
section
set_option linter.unusedVariables false
set_option linter.unusedSimpArgs false
set_option maxRecDepth 100000
namespace Go.Proofs.YtiboflejmnjdhaaDoor
open Go Go.RowKit Go.Conc
/-- Open, where the table is that of the seals. -/
theorem open_last (F R : List Int) (w0 : World) (Pr : List Nat) (mb : Nat) (seed : List Int) (s : St) (tb : Nat) (tseed tleft : List Int) (tp tat : Nat) (l : List (Tx × Sl)) (ep : Int) (hA : Option Addr) (hn hc : Nat) (hd : List Int) (bA : Option Addr) (bn bc : Nat) (bs : List Int) (w : World) (hW : Wm F R w0 Pr mb seed s tb tseed tleft tp tat w) (hbx : s.bx = bxOf l) (hl28 : ∀ x ∈ l, 28 ≤ x.2.xs.length)
    (he0 : 0 ≤ ep) (he1 : ep ≤ 255) (hhn : hn = hd.length) (hh : Rd w hA hc hd) (hhm : hn ≤ 4096) (hbn : bn = bs.length) (hb : Rd w bA bc bs) (hbm : bn ≤ 4124) (was : Int) (hwas : was = lastJ l (ep, strOfNums hd, strOfNums bs) l.length) :
    Calls Tryd.prog 12 #[.pointer (some ⟨mb, 0, none⟩), .int .i64 ep, .slice hA hn hc, .slice bA bn bc] w fun e w' => ∃ A n c, e = .returned (.tuple #[.slice A n c, .int .i64 (if was < 0 then 80 else 0)]) ∧ ∃ xs : List Int, n = xs.length ∧ Rd w' A c xs ∧ (0 ≤ was → ∃ x, l[was.toNat]? = some x ∧ strOfNums xs = strOfNums (x.1.pl.take 100)) ∧ Below w.heap.size w w' := by
  have hg := mget_bxOf (ep, strOfNums hd, strOfNums bs) l
  rw [← hwas, ← hbx] at hg
  by_cases h28 : 28 ≤ bn
  · refine (wm_open F R w0 Pr mb seed s tb tseed tleft tp tat ep hA hn hc hd bA bn bc bs w hW he0 he1 hhn hh hhm hbn hb h28 hbm).mono ?_
    rintro e w' ⟨A, n, c, h1, xs, h2, h3, h4, h5⟩
    have hrng := lastJ_ge l (ep, strOfNums hd, strOfNums bs) l.length
    rw [← hwas] at hrng
    by_cases hw0 : was < 0
    · rw [if_pos hw0] at hg
      rw [hg] at h1
      exact ⟨A, n, c, by rw [h1, if_pos hw0]; rfl, xs, h2, h3, by omega, h5⟩
    · rw [if_neg hw0] at hg
      obtain ⟨x, hx⟩ : ∃ x, l[was.toNat]? = some x := ⟨l[was.toNat]'(by omega), List.getElem?_eq_getElem _⟩
      rw [hx, Option.map_some] at hg
      rw [hg] at h1
      exact ⟨A, n, c, by rw [h1, if_neg hw0]; rfl, xs, h2, h3, fun _ => ⟨x, hx, h4 _ hg⟩, h5⟩
  · have hsh := lastJ_short l (ep, strOfNums hd, strOfNums bs) bs rfl (by omega) hl28 l.length
    rw [← hwas] at hsh
    obtain ⟨own, town, g1, g2, g3, g4⟩ := hW.ex
    refine (open_short F R mb seed s own ep hA hn hc bA bn bc w g1 he0 he1 hhm (by omega)).mono ?_
    rintro e w' ⟨rfl, rfl⟩
    exact ⟨none, 0, 0, by rw [if_pos (by omega)], [], rfl, Rd.none_ _, by omega, Below.refl _ _⟩
theorem eqb_q (A B : Option Addr) (n c m d : Nat) (xs ys : List Int) (r : Bool) (w : World) (hn : n = xs.length) (hx : Rd w A c xs) (hm : m = ys.length) (hy : Rd w B d ys) (hr : r = decide (strOfNums xs = strOfNums ys)) :
    Calls Tryd.prog 13 #[.slice A n c, .slice B m d] w fun e w' => e = .returned (.bool r) ∧ w' = w := by
  rw [hr]
  refine (eqb_any A B n c m d xs ys w hn hx hm hy).mono ?_
  rintro e w' ⟨h1, h2⟩
  exact ⟨h1, h2.symm⟩
theorem field_plain (a b c : Value) (W : World) (hc : ∃ A n d, c = .slice A n d) : (Instr.field 32 (.agg #[a, b, c]) 2).run Tryd.prog W = .ok c W := by
  obtain ⟨A, n, d, rfl⟩ := hc
  kernel_rfl
end Go.Proofs.YtiboflejmnjdhaaDoor
end
