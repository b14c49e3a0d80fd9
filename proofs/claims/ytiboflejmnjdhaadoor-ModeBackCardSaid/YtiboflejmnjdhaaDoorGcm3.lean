/- Contracts of package gcm: hide. -/
import Derived.Test.YtiboflejmnjdhaaDoorJT
import Derived.Sort.CutIn
set_option linter.unusedVariables false
set_option linter.unusedSimpArgs false
set_option maxRecDepth 100000
namespace Go.Proofs.YtiboflejmnjdhaaDoor
open Go Go.RowKit Go.Shelf
attribute [local go_sem] Oper.semAt_some
/-- A text, hidden. -/
def hidAll (K nonce xs : List Int) : List Int := (List.range xs.length).map fun j => x8 (xs.getD j 0) ((cntBlk K nonce ((2 + j / 16 : Nat) : Int)).getD (j % 16) 0)
theorem hidAll_len (K nonce xs : List Int) : (hidAll K nonce xs).length = xs.length := by simp [hidAll]
theorem hidAll_get (K nonce xs : List Int) (j : Nat) (h : j < xs.length) : (hidAll K nonce xs).getD j 0 = x8 (xs.getD j 0) ((cntBlk K nonce ((2 + j / 16 : Nat) : Int)).getD (j % 16) 0) := by
  simp [hidAll, List.getD_eq_getElem?_getD, h]
theorem hidAll_back (K nonce xs : List Int) (hb : By8 xs) : hidAll K nonce (hidAll K nonce xs) = xs := by
  apply List.ext_getElem
  · rw [hidAll_len, hidAll_len]
  · intro j h1 h2
    have e1 := hidAll_get K nonce (hidAll K nonce xs) j (by rw [hidAll_len]; exact h2)
    rw [hidAll_get K nonce xs j h2] at e1
    have hx := hb.get j
    rw [x8_back _ _ hx.1 hx.2] at e1
    simpa [List.getD_eq_getElem?_getD, h1, h2] using e1
theorem hidAll_by8 (K nonce xs : List Int) : By8 (hidAll K nonce xs) := fun x hx => by
  obtain ⟨j, _, rfl⟩ := List.mem_map.1 hx
  exact x8_range _ _
theorem hidAll_snoc (K nonce xs : List Int) (j : Nat) (h : j < xs.length) : (hidAll K nonce xs).take (j + 1) = (hidAll K nonce xs).take j ++ [x8 (xs.getD j 0) ((cntBlk K nonce ((2 + j / 16 : Nat) : Int)).getD (j % 16) 0)] := by
  rw [List.take_succ_eq_append_getElem (by rw [hidAll_len]; exact h), ← hidAll_get K nonce xs j h]
  simp [List.getD_eq_getElem?_getD, hidAll_len, h]
/-- What holds between two rounds; s: where the heap ended. -/
structure HideI (s nb xb cb : Nat) (K nonce : List Int) (bA : Option Addr) (n bc : Nat) (xs : List Int) (w0 : World) (i m : Nat) (X : List Nat) (w : World) : Prop where
  fn : w.heap[s]? = some (.cells #[.func (.func 73) #[] #[.pointer (some ⟨nb, 0, none⟩), .pointer (some ⟨xb, 0, none⟩)]] 109 (0, 0))
  bx : w.heap[s + 1]? = some (.cells #[.slice bA n bc] 22 (0, 0))
  out : ∃ A c, w.heap[s + 3]? = some (.cells #[.slice A m c] 22 (0, 0)) ∧ Own w (s + 2) (.slice A m c) ((hidAll K nonce xs).take m) ∧ (∀ x ∈ X, ∀ a, A = some a → x ≠ a.block)
  nx : w.heap[s + 4]? = some (.cells #[.int .i64 ((2 + i : Nat) : Int)] 3 (0, 0))
  cnt : IsCnt w nb xb cb K nonce
  bel : Below s w0 w
  x : ∀ x ∈ X, x ≠ s + 3 ∧ x ≠ s + 4
  lt : s ≤ w0.heap.size
theorem Own.turn {B : Nat} {w w' : World} {base : Nat} {v : Value} {xs : List Int} (h : Own w base v xs) (hT : Turn B w w') : Own w' base v xs := by
  refine ⟨h.1, ?_⟩
  rcases h.2 with h2 | ⟨g, cap, cur, rfl, h1, hg, r⟩
  · exact .inl h2
  · exact .inr ⟨g, cap, cur, rfl, h1, cells_turn hT hg, r⟩
theorem HideI.stable {s nb xb cb : Nat} {K nonce : List Int} {bA : Option Addr} {n bc : Nat} {xs : List Int} {w0 : World} {i m : Nat} {X X' : List Nat} {A A' : World} {B : Nat} (h : HideI s nb xb cb K nonce bA n bc xs w0 i m X A) (hT : Turn B A A') (hB : s ≤ B)
    (hX : ∀ k ∈ X', (k ∈ X ∨ A.heap.size ≤ k) ∧ k < A'.heap.size) : HideI s nb xb cb K nonce bA n bc xs w0 i m X' A' := by
  obtain ⟨Ao, c, h1, h2, h3⟩ := h.out
  refine ⟨cells_turn hT h.fn, cells_turn hT h.bx, ⟨Ao, c, cells_turn hT h1, h2.turn hT, fun x hx a ha => ?_⟩, cells_turn hT h.nx, h.cnt.turn hT, h.bel.trans ⟨hT.os, hT.tape, hT.output, hT.size, ?_⟩, fun x hx => ?_, h.lt⟩
  · rcases (hX x hx).1 with h4 | h4
    · exact h3 x h4 a ha
    · have := (h2.lt a.block (by rw [ha]; rfl)).2; omega
  · intro k hk
    rcases hT.block k (by have := blk_lt h.fn; omega) with h4 | ⟨h4, _⟩
    · exact h4
    · omega
  · rcases (hX x hx).1 with h4 | h4
    · exact h.x x h4
    · have := blk_lt h1; have := blk_lt h.nx; omega
set_option maxHeartbeats 4000000 in
theorem hide_any (nb xb cb : Nat) (K nonce : List Int) (bA : Option Addr) (n bc : Nat) (xs : List Int) (hn : n = xs.length) (hn2 : n ≤ 1000000) (w : World) (hC : IsCnt w nb xb cb K nonce) (hr : Rd w bA bc xs) :
    Calls Tryd.prog 50 #[.func (.func 73) #[] #[.pointer (some ⟨nb, 0, none⟩), .pointer (some ⟨xb, 0, none⟩)], .slice bA n bc] w fun e w' => ∃ A c, e = .returned (.slice A n c) ∧ Own w' w.heap.size (.slice A n c) (hidAll K nonce xs) ∧ Below w.heap.size w w' := by
  have HC := Lib.hid hC
  have Hr := Lib.hid hr
  have Hn := Lib.hid hn
  obtain ⟨M, hM⟩ : ∃ M : Nat, (n : Int) + 16 = (M : Int) := ⟨n + 16, by omega⟩
  have hMb : M ≤ 1000016 := by omega
  clear hC hr hn
  refine calls_of_marks Tryd.func50 rfl ?_
  simp only [Tryd.ntmps50, List.size_toArray, List.length_cons, List.length_nil, Nat.reduceAdd, Nat.reduceSub, Array.replicate_succ, Array.replicate_zero, List.push_toArray, List.append_toArray, List.nil_append, List.cons_append]
  obtain ⟨mz, hmz, hmk, hown⟩ : ∃ mz : Array Value, mz.size = M ∧ (∀ W, (Instr.makeSlice 22 (.int .i64 0) (.int .i64 (M : Int))).run Tryd.prog W = .ok (.slice (some ⟨W.heap.size, 0, none⟩) 0 M) (W.alloc (.cells mz 5))) ∧
      (∀ (W : World) (base : Nat), base ≤ W.heap.size → Own (W.alloc (.cells mz 5)) base (.slice (some ⟨W.heap.size, 0, none⟩) 0 M) []) := by
    obtain ⟨i0, hi0, hz0, hz1, hz2⟩ := info_parts infoU8
    refine ⟨madeCells (Value.int .u8 0).cells M, size_madeCells _ _, fun W => ?_, fun W base hb => ?_⟩
    · have := run_makeSlice (P := Tryd.prog) W 22 5 i0 (.int .u8 0) Tryd.underlying22 hi0 hz0 .i64 .i64 0 (M : Int) (by decide) (by omega) (by rw [hz1]; omega) (by rw [hz2]; omega) (by omega)
      rw [hz1, Int.toNat_natCast, Nat.mul_one] at this
      exact this
    · exact World.ownsRow_made W _ M hb (by simp only [maxLen]; omega) (by rw [size_madeCells, Nat.mul_one])
  have Hown := Lib.hid hown
  clear hmz hown
  go_wp2_with (go_at_call 75; go_must (refine (blocks_any _ 1 1 _).mono ?_; rintro e wq ⟨rfl, hwq⟩; have Hwq := Lib.hid hwq; clear hwq))
  have hwq := Hwq.out
  simp only [Nat.add_assoc, Nat.reduceAdd] at hwq ⊢
  obtain ⟨s, hs⟩ : ∃ s, s = w.heap.size := ⟨_, rfl⟩
  rw [← hs] at hwq ⊢
  have hsz : wq.heap.size = s + 7 := by rw [hwq, hs]; simp
  have hBq : Below s w wq := by
    rw [hwq, hs]
    exact (((((((Below.refl _ _).alloc (Nat.le_refl _) _).alloc (by simp) _).alloc (by simp; omega) _).alloc (by simp; omega) _).alloc (by simp; omega) _).alloc (by simp; omega) _).alloc (by simp; omega) _
  have hq0 : wq.heap[s]? = some (.cells #[.func (.func 73) #[] #[.pointer (some ⟨nb, 0, none⟩), .pointer (some ⟨xb, 0, none⟩)]] 109 (0, 0)) := by
    rw [hwq]; exact blk_alloc (blk_alloc (blk_alloc (blk_alloc (blk_alloc (blk_alloc (new_at hs) _) _) _) _) _) _
  have hq1 : wq.heap[s + 1]? = some (.cells #[.slice bA n bc] 22 (0, 0)) := by
    rw [hwq]; exact blk_alloc (blk_alloc (blk_alloc (blk_alloc (blk_alloc (new_at (by simp [hs])) _) _) _) _) _
  have hq3 : wq.heap[s + 3]? = some (.cells #[.slice (some ⟨s + 2, 0, none⟩) 0 M] 22 (0, 0)) := by
    rw [hwq]; exact blk_alloc (blk_alloc (blk_alloc (new_at (by simp [hs])) _) _) _
  have hq4 : wq.heap[s + 4]? = some (.cells #[.int .i64 2] 3 (0, 0)) := by
    rw [hwq]; exact blk_alloc (blk_alloc (new_at (by simp [hs])) _) _
  have hq5 : wq.heap[s + 5]? = some (.cells #[.slice bA n bc] 22 (0, 0)) := by
    rw [hwq]; exact blk_alloc (new_at (by simp [hs])) _
  have hq6 : wq.heap[s + 6]? = some (.cells #[.slice (some ⟨s + 5, 0, none⟩) 1 1] 171 (0, 0)) := by
    rw [hwq]; exact new_at (by simp [hs])
  have hown : Own wq (s + 2) (.slice (some ⟨s + 2, 0, none⟩) 0 M) [] := by
    have h1 := Hown.out ((w.alloc (.cells #[.func (.func 73) #[] #[.pointer (some ⟨nb, 0, none⟩), .pointer (some ⟨xb, 0, none⟩)]] 109)).alloc (.cells #[.slice bA n bc] 22)) (s + 2) (by simp [hs])
    simp only [World.size_alloc, Nat.add_assoc, Nat.reduceAdd, ← hs] at h1
    rw [hwq]
    exact (((h1.alloc _).alloc _).alloc _).alloc _
  obtain ⟨tx, htx⟩ : ∃ tx : Txt, tx = ⟨bA, bc, xs⟩ := ⟨_, rfl⟩
  have htv : tx.val = .slice bA n bc := by rw [htx, Hn.out]; rfl
  have htok0 : tx.ok w := by rw [htx]; exact ⟨Hr.out, by show xs.length ≤ _; rw [← Hn.out]; omega⟩
  have htok : tx.ok wq := ⟨htok0.1.below (hs ▸ hBq), htok0.2⟩
  have htlt := fun b hb => Txt.blk_lt htok0 b hb
  have hall : allBlocks [tx] = blocksOf xs := by rw [htx]; simp [allBlocks]
  have hI0 : HideI s nb xb cb K nonce bA n bc xs w 0 0 ((s + 6) :: (s + 5) :: [tx].flatMap Txt.blk) wq := by
    refine ⟨hq0, hq1, ⟨_, M, hq3, by simpa using hown, fun x hx a ha => ?_⟩, hq4, HC.out.below (hs ▸ hBq), hBq, fun x hx => ?_, by omega⟩
    · cases ha
      simp only [List.flatMap_cons, List.flatMap_nil, List.append_nil, List.mem_cons] at hx
      rcases hx with rfl | rfl | hx
      · simp
      · simp
      · have := htlt x hx; simp; omega
    · simp only [List.flatMap_cons, List.flatMap_nil, List.append_nil, List.mem_cons] at hx
      rcases hx with rfl | rfl | hx
      · omega
      · omega
      · have := htlt x hx; omega
  have hlt0 : ∀ x ∈ (s + 6) :: (s + 5) :: [tx].flatMap Txt.blk, x < wq.heap.size := fun x hx => by
    simp only [List.flatMap_cons, List.flatMap_nil, List.append_nil, List.mem_cons] at hx
    rcases hx with rfl | rfl | hx
    · omega
    · omega
    · have := htlt x hx; omega
  have hl16 : ∀ x ∈ allBlocks [tx], x.length = 16 := fun x hx => by
    rw [hall] at hx
    obtain ⟨i, _, rfl⟩ := List.mem_map.1 hx
    simp [pad16]; omega
  have Hsz := Lib.hid hsz
  have Hs := Lib.hid hs
  have HI0 := Lib.hid hI0
  have Hall := Lib.hid hall
  refine (wpIn_wide (n := 0)).1 (range_box (gf := 92) (lb := #[.pointer (some ⟨s + 6, 0, none⟩)]) (xs := allBlocks [tx]) (Pr := (s + 6) :: (s + 5) :: [tx].flatMap Txt.blk) rfl (enters_of Tryd.func92 (by kernel_rfl) rfl)
    (blocks_gives (s + 6) (s + 5) 1 [tx] (by simp) wq hq6 (by rw [hq5]; simp [htv]) (fun t ht => by rw [List.mem_singleton] at ht; subst ht; exact htok)) (Below.refl _ _) (by simp) (by simp) (by decide) hl16
    (fun Xi (sl : List (List Int)) W' => HideI s nb xb cb K nonce bA n bc xs w sl.length (min (16 * sl.length) n) Xi W') ?hI ((s + 6) :: (s + 5) :: [tx].flatMap Txt.blk) (fun _ h => h) hlt0 (by simpa using hI0) ?body ?done)
  case hI => exact fun Xa Xb sl A A' h hT h1 h2 => h.stable hT (by omega) h2
  case body =>
    clear hq0 hq1 hq3 hq4 hq5 hq6 hown htv htok0 htok hI0 hlt0 hl16 hBq hwq hsz hs Hwq
    rintro lr Xr i x fb Wr hx hltr hIr hfb hfbX hfbs
    simp only [List.setIfInBounds_toArray, List.set_cons_zero, List.set_cons_succ]
    have hxl : xs.length = n := Hn.out.symm
    have hil : i < (blocksOf xs).length := by
      have := (List.getElem?_eq_some_iff.1 hx).1
      rwa [Hall.out] at this
    have hi16 : i < (n + 15) / 16 := by simpa [blocksOf, hxl] using hil
    have hxe : x = pad16 xs i := by
      have h1 := hx
      rw [Hall.out] at h1
      simp [blocksOf, hxl, hi16] at h1
      exact h1.symm
    have hti : ((allBlocks [tx]).take i).length = i := by
      have := (List.getElem?_eq_some_iff.1 hx).1
      rw [List.length_take]; omega
    have hti1 : ((allBlocks [tx]).take (i + 1)).length = i + 1 := by
      have := (List.getElem?_eq_some_iff.1 hx).1
      rw [List.length_take]; omega
    rw [hti] at hIr
    rw [hti1]
    have hxl16 : x.length = 16 := by rw [hxe]; simp [pad16]; omega
    obtain ⟨m0, hm0⟩ : ∃ m0, m0 = min (16 * i) n := ⟨_, rfl⟩
    have hm0e : m0 = 16 * i := by omega
    have hIn : i ≤ 1000000 := by omega
    rw [← hm0] at hIr
    have hc0 := blk_cell (v := .func (.func 73) #[] #[.pointer (some ⟨nb, 0, none⟩), .pointer (some ⟨xb, 0, none⟩)]) hIr.fn 0 rfl
    have hc4 := blk_cell (v := .int .i64 ((2 + i : Nat) : Int)) hIr.nx 0 rfl
    have HIr := Lib.hid hIr
    have Hfb := Lib.hid hfb
    have HfbX := Lib.hid hfbX
    have Hltr := Lib.hid hltr
    have Hxe := Lib.hid hxe
    have Hxl16 := Lib.hid hxl16
    have Hm0 := Lib.hid hm0e
    have Hi16 := Lib.hid hi16
    clear hx hltr hIr hfb hfbX hxe hxl16 hm0 hm0e hil hti hti1 hxl hi16
    refine wpIn_block ?_
    gi_upto_region 5 with (fail)
    refine reg_in (by kernel_rfl) ?_
    have Hcnt : Hid (IsCnt Wr nb xb cb K nonce) := Lib.hid HIr.out.cnt
    obtain ⟨ks, hks⟩ : ∃ ks, ks = cntBlk K nonce ((2 + i : Nat) : Int) := ⟨_, rfl⟩
    have hksl : ks.length = 16 := by rw [hks]; exact cntBlk_len K nonce HC.out.len _
    have Hksl := Lib.hid hksl
    have Hks := Lib.hid hks
    have Hcl : Hid (Calls Tryd.prog 73 #[.int .i64 ((2 + i : Nat) : Int), .pointer (some ⟨nb, 0, none⟩), .pointer (some ⟨xb, 0, none⟩)] Wr fun e w' => e = .returned (.agg (w8 ks)) ∧ Below Wr.heap.size Wr w') := Lib.hid (by rw [hks]; exact count_any nb xb cb K nonce _ (by omega) Wr HIr.out.cnt)
    have Hsz16 : Hid ((Tryd.prog.info? 50).map (·.size) = some (w8 ks).size) := Lib.hid (by rw [w8_size, hksl]; kernel_rfl)
    have Hold16 : Hid ((#[.int .u8 0, .int .u8 0, .int .u8 0, .int .u8 0, .int .u8 0, .int .u8 0, .int .u8 0, .int .u8 0, .int .u8 0, .int .u8 0, .int .u8 0, .int .u8 0, .int .u8 0, .int .u8 0, .int .u8 0, .int .u8 0] : Array Value).size = (w8 ks).size) := Lib.hid (by rw [w8_size, hksl]; rfl)
    clear hks hksl
    go_wp2_with (first
      | (go_at_call 73; go_must (refine Hcl.out.mono ?_; rintro e w1 ⟨rfl, hb1⟩; have Hb1 := Lib.hid hb1; clear hb1))
      | (with_reducible refine wpList_store_new rfl 50 _ _ rfl _ rfl rfl 50 _ Hsz16.out Hold16.out (w8_one _) ?_))
    try dsimp only [noOut]
    obtain ⟨wb, hwb⟩ : ∃ wb, wb = w1.heap.size := ⟨_, rfl⟩
    obtain ⟨w2, hw2⟩ : ∃ w2, w2 = w1.alloc (.cells (w8 ks) 50) := ⟨_, rfl⟩
    have hB2 : Below Wr.heap.size Wr w2 := by rw [hw2]; exact Hb1.out.alloc Hb1.out.size _
    have hk2 : w2.heap[wb]? = some (.cells (w8 ks) 50 (0, 0)) := by rw [hw2, hwb]; exact new_at rfl
    rw [← hwb, ← hw2]
    have hwbX : Wr.heap.size ≤ wb := by rw [hwb]; exact Hb1.out.size
    have hlt2 : ∀ x ∈ Xr, x < w2.heap.size := fun x hx => Nat.lt_of_lt_of_le (Hltr.out x hx) hB2.size
    have hI2 : HideI s nb xb cb K nonce bA n bc xs w i m0 Xr w2 := HIr.out.stable (.of_below hB2) (Nat.le_trans HIr.out.lt HIr.out.bel.size) (fun x hx => ⟨.inl hx, hlt2 x hx⟩)
    have hfb2 : w2.heap[fb]? = some (.cells (w8 x) 50 (0, 0)) := below_at hB2 Hfb.out (blk_lt Hfb.out)
    obtain ⟨r, hr⟩ : ∃ r, r = n - m0 := ⟨_, rfl⟩
    have hi16 := Hi16.out
    have hm016 := Hm0.out
    have hnr : (n : Int) - (m0 : Int) = (r : Int) := by omega
    have hr1 : r ≤ 1000000 := by omega
    obtain ⟨m, hm⟩ : ∃ m, m = min 16 r := ⟨_, rfl⟩
    have hmin : (if (r : Int) < 16 then (r : Int) else 16) = (m : Int) := by
      rw [hm]
      split <;> omega
    have hmle : m ≤ 16 := by omega
    have hmn : m0 + m ≤ n := by omega
    have Hmt : Hid (m0 + m = min (16 * (i + 1)) n) := Lib.hid (by omega)
    have Hmn := Lib.hid hmn
    obtain ⟨Ao, co, ho1, ho2, ho3⟩ := hI2.out
    have hd1 := blk_cell (v := .slice bA n bc) hI2.bx 0 rfl
    have hd3 := blk_cell (v := .slice Ao m0 co) ho1 0 rfl
    have HI2 := Lib.hid hI2
    have Hk2 := Lib.hid hk2
    have Hfb2 := Lib.hid hfb2
    have HB2 := Lib.hid hB2
    have HwbX := Lib.hid hwbX
    have hKX : KeepX Xr Wr w2 := .of_below hB2 Hltr.out
    have HKX := Lib.hid hKX
    clear hi16 hm016 hr hm hmn ho1 ho2 ho3 hI2 hk2 hfb2 hB2 hwbX hKX hw2 hwb hlt2 hc0 hc4 Hcl Hcnt Hsz16 Hold16
    clear Hb1
    gi_wp2
    gi_loopw [27] (fun vi wr => ∃ j : Nat, j ≤ m ∧ vi = .int .i64 j ∧ Hid (HideI s nb xb cb K nonce bA n bc xs w i (m0 + j) Xr wr) ∧ Hid (wr.heap[fb]? = some (.cells (w8 x) 50 (0, 0))) ∧ Hid (wr.heap[wb]? = some (.cells (w8 ks) 50 (0, 0))) ∧ Hid (KeepX Xr Wr wr))
      (fun vi _ => m - (intOf vi).toNat)
    case atStart => exact ⟨0, by omega, rfl, HI2, Hfb2, Hk2, HKX⟩
    case round =>
      clear HI2 Hfb2 Hk2 HKX hd1 hd3
      obtain ⟨j, hj, rfl, HIj, Hfj, Hkj, HKj⟩ := hrel
      obtain ⟨wo, rfl⟩ : ∃ wo : World, wo = wr := ⟨_, rfl⟩
      by_cases hlt : j < m
      · obtain ⟨A1, c1, o1, o2, o3⟩ := HIj.out.out
        obtain ⟨u, hu⟩ : ∃ u, u = x.getD j 0 := ⟨_, rfl⟩
        obtain ⟨v, hv⟩ : ∃ v, v = ks.getD j 0 := ⟨_, rfl⟩
        have hd3 := blk_cell (v := .slice A1 (m0 + j) c1) o1 0 rfl
        have hdx := cell_w8 Hfj.out j (by rw [Hxl16.out]; omega)
        have hdk := cell_w8 Hkj.out j (by rw [Hksl.out]; omega)
        rw [← hu] at hdx
        rw [← hv] at hdk
        have Ho1 := Lib.hid o1
        have Ho2 := Lib.hid o2
        have Ho3 := Lib.hid o3
        have Hu := Lib.hid hu
        have Hv := Lib.hid hv
        obtain ⟨L, hL⟩ : ∃ L, L = m0 + j := ⟨_, rfl⟩
        have HL := Lib.hid hL
        rw [← hL] at hd3 Ho1 Ho2
        have hL1 : L ≤ 1000000 := by have := Hmn.out; omega
        clear o1 o2 o3 hu hv hL
        gi_upto_region 9 with (fail)
        refine seg_begin_r (fun W => W.cell? ⟨s + 3, 0, none⟩ = some (.slice A1 L c1) ∧ W.cell? ⟨fb, j, none⟩ = some (.int .u8 u) ∧ W.cell? ⟨wb, j, none⟩ = some (.int .u8 v)) [0, 1, 2, 3, 4, 5, 6, 7, 8] (by kernel_rfl) (by kernel_rfl) ?_
        have HS : Hid (wo.drew.cell? ⟨s + 3, 0, none⟩ = some (.slice A1 L c1) ∧ wo.drew.cell? ⟨fb, j, none⟩ = some (.int .u8 u) ∧ wo.drew.cell? ⟨wb, j, none⟩ = some (.int .u8 v)) := Lib.hid ⟨hd3, hdx, hdk⟩
        clear hd3 hdx hdk
        have hj16 : j < 16 := by omega
        have hj16i : (j : Int) < 16 := by omega
        (refine seg_read 1 ?_ rfl (by kernel_rfl) (by kernel_rfl) (by kernel_rfl) (by kernel_rfl) (by kernel_rfl) (by kernel_rfl) (fun _ _ _ h => h) rfl HS.out ?_ ?_; rotate_left; (focus (intro w hSw; (try dsimp only at hSw); go_split_ands; go_simp; try with_reducible rfl)); (try simp only [List.getElem_toArray, List.getElem_cons_zero, List.getElem_cons_succ, Act.put, List.setIfInBounds_toArray, List.set_cons_zero, List.set_cons_succ]); refine seg_read 2 ?_ rfl (by kernel_rfl) (by kernel_rfl) (by kernel_rfl) (by kernel_rfl) (by kernel_rfl) (by kernel_rfl) (fun _ _ _ h => h) rfl HS.out ?_ ?_; rotate_left; (focus (intro w hSw; (try dsimp only at hSw); go_split_ands; go_simp; try with_reducible rfl)); (try simp only [List.getElem_toArray, List.getElem_cons_zero, List.getElem_cons_succ, Act.put, List.setIfInBounds_toArray, List.set_cons_zero, List.set_cons_succ]); refine seg_read 4 ?_ rfl (by kernel_rfl) (by kernel_rfl) (by kernel_rfl) (by kernel_rfl) (by kernel_rfl) (by kernel_rfl) (fun _ _ _ h => h) rfl HS.out ?_ ?_; rotate_left; (focus (intro w hSw; (try dsimp only at hSw); go_split_ands; go_simp; try with_reducible rfl)); (try simp only [List.getElem_toArray, List.getElem_cons_zero, List.getElem_cons_succ, Act.put, List.setIfInBounds_toArray, List.set_cons_zero, List.set_cons_succ]); refine seg_read 5 ?_ rfl (by kernel_rfl) (by kernel_rfl) (by kernel_rfl) (by kernel_rfl) (by kernel_rfl) (by kernel_rfl) (fun _ _ _ h => h) rfl HS.out ?_ ?_; rotate_left; (focus (intro w hSw; (try dsimp only at hSw); go_split_ands; go_simp; try with_reducible rfl)); (try simp only [List.getElem_toArray, List.getElem_cons_zero, List.getElem_cons_succ, Act.put, List.setIfInBounds_toArray, List.set_cons_zero, List.set_cons_succ]); refine seg_read 0 ?_ rfl (by kernel_rfl) (by kernel_rfl) (by kernel_rfl) (by kernel_rfl) (by kernel_rfl) (by kernel_rfl) (fun _ _ _ h => h) rfl HS.out ?_ ?_; rotate_left; (focus (intro w hSw; (try dsimp only at hSw); go_split_ands; go_simp; try with_reducible rfl)); (try simp only [List.getElem_toArray, List.getElem_cons_zero, List.getElem_cons_succ, Act.put, List.setIfInBounds_toArray, List.set_cons_zero, List.set_cons_succ]); refine seg_read 3 ?_ rfl (by kernel_rfl) (by kernel_rfl) (by kernel_rfl) (by kernel_rfl) (by kernel_rfl) (by kernel_rfl) (fun _ _ _ h => h) rfl HS.out ?_ ?_; rotate_left; (focus (intro w hSw; (try dsimp only at hSw); go_split_ands; go_simp; try with_reducible rfl)); (try simp only [List.getElem_toArray, List.getElem_cons_zero, List.getElem_cons_succ, Act.put, List.setIfInBounds_toArray, List.set_cons_zero, List.set_cons_succ]); refine seg_read 6 ?_ rfl (by kernel_rfl) (by kernel_rfl) (by kernel_rfl) (by kernel_rfl) (by kernel_rfl) (by kernel_rfl) (fun _ _ _ h => h) rfl HS.out ?_ ?_; rotate_left; (focus (intro w hSw; (try dsimp only at hSw); go_split_ands; go_simp; try with_reducible rfl)); (try simp only [List.getElem_toArray, List.getElem_cons_zero, List.getElem_cons_succ, Act.put, List.setIfInBounds_toArray, List.set_cons_zero, List.set_cons_succ]); refine seg_read 7 ?_ rfl (by kernel_rfl) (by kernel_rfl) (by kernel_rfl) (by kernel_rfl) (by kernel_rfl) (by kernel_rfl) (fun _ _ _ h => h) rfl HS.out ?_ ?_; rotate_left; (focus (intro w hSw; (try dsimp only at hSw); go_split_ands; go_simp; try with_reducible rfl)); (try simp only [List.getElem_toArray, List.getElem_cons_zero, List.getElem_cons_succ, Act.put, List.setIfInBounds_toArray, List.set_cons_zero, List.set_cons_succ]))
        (refine seg_rest [8, 9, 10] _ _ _ (by kernel_rfl) ?_ _ rfl)
        (refine segs_in rfl ?_; (simp only [pick, List.getElem?_toArray, List.getElem_toArray, List.getElem_cons_zero, List.getElem_cons_succ, List.getElem?_cons_zero, List.getElem?_cons_succ, Act.put, List.setIfInBounds_toArray, List.set_cons_zero, List.set_cons_succ]))
        go_wp2
        have hBd : Below wo.heap.size wo (wo.alloc (.cells #[.int .u8 (bits .xor .u8 u v)] 5)).drew := ((Below.refl _ _).alloc (Nat.le_refl _) _).drew
        refine ⟨fun _ => ⟨?_, ?_, ?_⟩, ?_⟩
        · exact (hBd.cell (p := ⟨s + 3, 0, none⟩) (World.block_lt_of_cell? wo _ HS.out.1)).trans HS.out.1
        · exact (hBd.cell (p := ⟨fb, j, none⟩) (World.block_lt_of_cell? wo _ HS.out.2.1)).trans HS.out.2.1
        · exact (hBd.cell (p := ⟨wb, j, none⟩) (World.block_lt_of_cell? wo _ HS.out.2.2)).trans HS.out.2.2
        (refine segs_out rfl ?_; (simp only [pick, List.getElem?_toArray, List.getElem_toArray, List.getElem_cons_zero, List.getElem_cons_succ, List.getElem?_cons_zero, List.getElem?_cons_succ, Act.put, List.setIfInBounds_toArray, List.set_cons_zero, List.set_cons_succ]))
        have hy : Rd (wo.alloc (.cells #[.int .u8 (bits .xor .u8 u v)] 5)).drew (some ⟨wo.heap.size, 0, none⟩) 1 [x8 u v] :=
          ⟨by simp, by omega, by simp, fun _ => ⟨_, 0, rfl, fun k hk => by
            obtain rfl : k = 0 := by
              have : k < 1 := hk
              omega
            exact cell_new (W := wo) (n := wo.heap.size) (i := 0) rfl rfl⟩⟩
        obtain ⟨wd, hwd⟩ : ∃ wd, wd = (wo.alloc (.cells #[.int .u8 (bits .xor .u8 u v)] 5)).drew := ⟨_, rfl⟩
        rw [← hwd] at hBd hy ⊢
        have hod := Ho2.out.below hBd
        have hszd : s + 2 ≤ wd.heap.size := Nat.le_trans (by have := blk_lt Ho1.out; omega) hBd.size
        have HBd := Lib.hid hBd
        have Hy := Lib.hid hy
        have Hod := Lib.hid hod
        have ht3 : wd.heap[s + 3]? = some (.cells #[.slice A1 L c1] 22 (0, 0)) := below_at hBd Ho1.out (blk_lt Ho1.out)
        have Hne3 : Hid ((Value.slice A1 L c1).ownBlock ≠ some (s + 3)) := Lib.hid (hod.ne ht3 (by decide))
        have Ht3 := Lib.hid ht3
        have Htl : Hid (((hidAll K nonce xs).take L).length = L) := Lib.hid (by rw [List.length_take, hidAll_len, ← Hn.out]; have := Hmn.out; have := HL.out; omega)
        clear hBd hy hod ht3 hwd
        go_wp2_with (at_builtin; go_must (refine app_rd rfl _ _ rfl (s + 2) (.slice A1 L c1) ((hidAll K nonce xs).take L) rfl Hod.out _ _ _ [x8 u v] rfl rfl Hy.out (L + 1) (by rw [Htl.out]; rfl) (by rw [Htl.out]; simp; omega) hszd ?_; intro A5 c5 wz ho hg hat; have hz3 : wz.heap[s + 3]? = some (.cells #[.slice A1 L c1] 22 (0, 0)) := (hg.block _ (blk_lt Ht3.out) (fun e => Hne3.out e.symm)).trans Ht3.out; have Ho5 := Lib.hid ho; have Hg5 := Lib.hid hg; have Hat5 := Lib.hid hat; have hd3 := blk_cell (v := .slice A1 L c1) hz3 0 rfl; have hf3 := frozen_row hz3 0; have Hz3 := Lib.hid hz3; clear ho hg hat hz3))
        try dsimp only [noOut]
        gi_wp2
        have hszo : s + 4 < wo.heap.size := blk_lt HIj.out.nx
        have hs3 : s + 3 < wd.heap.size := by have := HBd.out.size; omega
        have hown1 : ∀ g, (Value.slice A1 L c1).ownBlock = some g → s + 2 ≤ g ∧ g < wo.heap.size := fun g e => Ho2.out.lt g e
        have hkeep : ∀ b, b < wo.heap.size → (Value.slice A1 L c1).ownBlock ≠ some b → b ≠ s + 3 → (wz.setCell ⟨s + 3, 0, none⟩ (.slice A5 (L + 1) c5)).heap[b]? = wo.heap[b]? := fun b h1 h2 h3 => by
          rw [Below.heap_setCell _ _ _ _ h3, Hg5.out.block b (Nat.lt_of_lt_of_le h1 HBd.out.size) (fun e => h2 e.symm), HBd.out.block b h1]
        have hne5 : (Value.slice A5 (L + 1) c5).ownBlock ≠ some (s + 3) := fun e => by
          rcases Hat5.out with h | h
          · exact Hne3.out (h ▸ e)
          · rw [h] at e; simp at e; omega
        have hX1 : ∀ x ∈ Xr, (Value.slice A1 L c1).ownBlock ≠ some x := fun x hx e => by
          cases hA : A1 with
          | none => rw [hA] at e; simp [Value.ownBlock] at e
          | some a => rw [hA] at e; simp only [Value.ownBlock, Option.some.injEq] at e; exact Ho3.out x hx a hA e.symm
        have hszo2 : ∀ x ∈ Xr, x < wo.heap.size := fun x hx => Nat.lt_of_lt_of_le (Hltr.out x hx) HKj.out.size
        have hbel : Below s w (wz.setCell ⟨s + 3, 0, none⟩ (.slice A5 (L + 1) c5)) := ((HIj.out.bel.trans (HBd.out.mono (by omega))).grown Hg5.out (by omega) (fun g e => by have := (hown1 g e).1; omega)).setCell (by simp) _
        have hLx : L < xs.length := by have h1 := Hmn.out; have h2 := HL.out; have h3 := Hn.out; omega
        have hux : u = xs.getD L 0 := by
          rw [Hu.out, Hxe.out, pad16]
          simp only [List.getD_eq_getElem?_getD]
          rw [List.getElem?_append_left (by rw [List.length_take, List.length_drop]; have h1 := HL.out; have h2 := Hm0.out; omega), List.getElem?_take, if_pos hj16, List.getElem?_drop, ← Hm0.out, ← HL.out]
        have hvx : v = (cntBlk K nonce ((2 + L / 16 : Nat) : Int)).getD (L % 16) 0 := by
          have h1 : L / 16 = i := by have h1 := HL.out; have h2 := Hm0.out; omega
          have h2 : L % 16 = j := by have h1 := HL.out; have h2 := Hm0.out; omega
          rw [h1, h2, ← Hks.out]; exact Hv.out
        have htk : (hidAll K nonce xs).take L ++ [x8 u v] = (hidAll K nonce xs).take (m0 + (j + 1)) := by
          rw [show m0 + (j + 1) = L + 1 by have := HL.out; omega, hidAll_snoc K nonce xs L hLx, ← hux, ← hvx]
        refine ⟨⟨j + 1, by omega, by go_num, Lib.hid ⟨?_, ?_, ⟨A5, c5, ?_, ?_, ?_⟩, ?_, HC.out.below (by rw [← Hs.out]; exact hbel), hbel, HIj.out.x, HIj.out.lt⟩, Lib.hid ?_, Lib.hid ?_, Lib.hid ⟨?_, fun x hx => ?_⟩⟩, ?_⟩
        · rw [hkeep s (by omega) (fun e => by have := (hown1 s e).1; omega) (by omega)]; exact HIj.out.fn
        · rw [hkeep (s + 1) (by omega) (fun e => by have := (hown1 _ e).1; omega) (by omega)]; exact HIj.out.bx
        · rw [show m0 + (j + 1) = L + 1 by have := HL.out; omega]
          exact blk_set Hz3.out 0 _
        · rw [← htk, show m0 + (j + 1) = L + 1 by have := HL.out; omega]
          exact Ho5.out.setCell hne5 _
        · intro x hx a ha e
          rcases Hat5.out with h | h
          · rw [ha] at h
            refine hX1 x hx ?_
            rw [← h, e]; rfl
          · rw [ha] at h
            simp only [Value.ownBlock, Option.some.injEq] at h
            have := hszo2 x hx
            have := HBd.out.size
            omega
        · rw [hkeep (s + 4) hszo (Ho2.out.ne HIj.out.nx (by decide)) (by omega)]; exact HIj.out.nx
        · rw [hkeep fb (blk_lt Hfj.out) (Ho2.out.ne Hfj.out (by decide)) (by have := Hsz.out; omega)]; exact Hfj.out
        · rw [hkeep wb (blk_lt Hkj.out) (Ho2.out.ne Hkj.out (by decide)) (by have h1 := HwbX.out; have h2 := blk_lt HIr.out.nx; omega)]; exact Hkj.out
        · exact Nat.le_trans HKj.out.size (Nat.le_trans HBd.out.size (Nat.le_trans Hg5.out.size (by simp [World.setCell])))
        · rw [hkeep x (hszo2 x hx) (hX1 x hx) (HIj.out.x x hx).1]; exact HKj.out.block x hx
        · simp [intOf]; omega
      · obtain rfl : j = m := by omega
        have hd4 := blk_cell (v := .int .i64 ((2 + i : Nat) : Int)) HIj.out.nx 0 rfl
        have hf4 := frozen_row HIj.out.nx 0
        gi_wp2
        have hne4 : ∀ x ∈ Xr, x ≠ s + 4 := fun x hx => (HIj.out.x x hx).2
        obtain ⟨A1, c1, o1, o2, o3⟩ := HIj.out.out
        refine (show _ ∧ _ from ⟨⟨?_, fun x hx => ?_⟩, ⟨blk_far HIj.out.fn (by simp) _, blk_far HIj.out.bx (by simp) _, ⟨A1, c1, ?_, ?_, ?_⟩, ?_, ?_, ?_, HIj.out.x, HIj.out.lt⟩⟩)
        · exact Nat.le_trans HKj.out.size (by simp [World.setCell])
        · rw [Below.heap_setCell _ _ _ _ (hne4 x hx)]; exact HKj.out.block x hx
        · rw [← Hmt.out]; exact blk_far o1 (by simp) _
        · rw [← Hmt.out]; exact o2.setCell (o2.ne HIj.out.nx (by decide)) _
        · rw [← Hmt.out] at *; exact o3
        · have := blk_set HIj.out.nx 0 (.int .i64 ((2 + (i + 1) : Nat) : Int))
          rw [show ((2 + (i + 1) : Nat) : Int) = 2 + (i : Int) + 1 by omega] at this ⊢
          exact this
        · exact HC.out.below (by rw [← Hs.out]; exact HIj.out.bel.setCell (by simp) _)
        · exact HIj.out.bel.setCell (by simp) _
  case done =>
    rintro Xe We hIe hse hme hde
    have hbl : (allBlocks [tx]).length = (n + 15) / 16 := by rw [Hall.out, blocksOf]; simp [Hn.out]
    have hmn : min (16 * (allBlocks [tx]).length) n = n := by rw [hbl]; omega
    rw [hmn] at hIe
    obtain ⟨A1, c1, o1, o2, o3⟩ := hIe.out
    have hd3 := blk_cell (v := .slice A1 n c1) o1 0 rfl
    have HIe := Lib.hid hIe
    have Ho2 := Lib.hid o2
    have Hde := Lib.hid hde
    clear hIe hde o1 o2 o3 hmn hbl hse hme hall htlt
    clear hq0 hq1 hq3 hq4 hq5 hq6 hown htv htok0 htok hI0 hlt0 hl16 hBq hwq hsz hs Hwq
    go_wp2
    refine leaves_marks (dl := [wq.heap.size]) (fun w => results_tmp Tryd.results50 _ _ _) We (by simp) (by simpa using Hde.out) ?_
    intro w' hT hs
    have hT1 := hT wq.heap.size (by simp)
    have hfull : (hidAll K nonce xs).take n = hidAll K nonce xs := by rw [List.take_of_length_le]; rw [hidAll_len, ← Hn.out]; omega
    have hI' : HideI s nb xb cb K nonce bA n bc xs w (allBlocks [tx]).length n [] w' := HIe.out.stable hT1 (by have := Hsz.out; omega) (by simp)
    have hO := Ho2.out.turn hT1
    rw [hfull] at hO
    exact ⟨A1, c1, rfl, hO.lower (by have := Hs.out; omega), by rw [← Hs.out]; exact hI'.bel⟩
end Go.Proofs.YtiboflejmnjdhaaDoor
