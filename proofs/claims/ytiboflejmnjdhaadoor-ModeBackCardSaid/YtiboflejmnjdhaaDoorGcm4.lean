/- Contracts of package gcm: tag. -/
import Derived.Test.YtiboflejmnjdhaaDoorGcm3
set_option linter.unusedVariables false
set_option linter.unusedSimpArgs false
set_option maxRecDepth 100000
namespace Go.Proofs.YtiboflejmnjdhaaDoor
open Go Go.RowKit Go.Shelf
attribute [local go_sem] Oper.semAt_some
/-- A tag's product with the blocks of some texts. -/
def tagUp (h : Int × Int) (bs : List (List Int)) : Int × Int := bs.foldl (fun s b => pMul (pAdd s (pOf b)) h) (0, 0)
def tagH (K : List Int) : Int × Int := pOf (aesBlk K (List.replicate 16 0))
def tagSum (K : List Int) (sent head : List Int) : Int × Int := pMul (pAdd (tagUp (tagH K) (blocksOf head ++ blocksOf sent)) (IntKind.u64.wrap (IntKind.u64.wrap (head.length : Int) * 8), IntKind.u64.wrap (IntKind.u64.wrap (sent.length : Int) * 8))) (tagH K)
def gcmTag (K nonce sent head : List Int) : List Int := pBlk (pAdd (tagSum K sent head) (pOf (cntBlk K nonce 1)))
theorem gcmTag_len (K nonce sent head : List Int) : (gcmTag K nonce sent head).length = 16 := pblkUp_len _ 8
theorem tagUp_snoc (h : Int × Int) (bs : List (List Int)) (b : List Int) : tagUp h (bs ++ [b]) = pMul (pAdd (tagUp h bs) (pOf b)) h := by simp [tagUp]
def pcells (p : Int × Int) : Array Value := #[.int .u64 p.1, .int .u64 p.2]
/-- What holds between two rounds of tag; s: the block of the factor, s + 1 that of the sum. -/
structure TagI (s : Nat) (h : Int × Int) (w0 : World) (sum : Int × Int) (X : List Nat) (w : World) : Prop where
  h : w.heap[s]? = some (.cells (pcells h) 155 (0, 0))
  sum : w.heap[s + 1]? = some (.cells (pcells sum) 155 (0, 0))
  bel : Below s w0 w
  x : ∀ x ∈ X, x ≠ s + 1
theorem TagI.stable {s : Nat} {h : Int × Int} {w0 : World} {sum : Int × Int} {X X' : List Nat} {A A' : World} {B : Nat} (hI : TagI s h w0 sum X A) (hT : Turn B A A') (hB : s ≤ B) (hX : ∀ k ∈ X', (k ∈ X ∨ A.heap.size ≤ k) ∧ k < A'.heap.size) : TagI s h w0 sum X' A' := by
  refine ⟨cells_turn hT hI.h, cells_turn hT hI.sum, hI.bel.trans ⟨hT.os, hT.tape, hT.output, hT.size, fun k hk => ?_⟩, fun x hx => ?_⟩
  · rcases hT.block k (by have := blk_lt hI.h; omega) with h4 | ⟨h4, _⟩
    · exact h4
    · omega
  · rcases (hX x hx).1 with h4 | h4
    · exact hI.x x h4
    · have := blk_lt hI.sum; omega
set_option maxHeartbeats 4000000 in
theorem tag_any (nb xb cb : Nat) (K nonce : List Int) (sA hA : Option Addr) (sn sc hn hc : Nat) (sent head : List Int) (h1 : sn = sent.length) (h2 : hn = head.length) (h3 : sn ≤ 1000000) (h4 : hn ≤ 1000000) (w : World) (hC : IsCnt w nb xb cb K nonce) (hr1 : Rd w sA sc sent) (hr2 : Rd w hA hc head) :
    Calls Tryd.prog 51 #[.pointer (some ⟨cb, 0, none⟩), .func (.func 73) #[] #[.pointer (some ⟨nb, 0, none⟩), .pointer (some ⟨xb, 0, none⟩)], .slice sA sn sc, .slice hA hn hc] w fun e w' => ∃ A c, e = .returned (.slice A 16 c) ∧ Rd w' A c (gcmTag K nonce sent head) ∧ (∀ a, A = some a → w.heap.size ≤ a.block) ∧ Below w.heap.size w w' := by
  have HC := Lib.hid hC
  have Hr1 := Lib.hid hr1
  have Hr2 := Lib.hid hr2
  have H1 := Lib.hid h1
  have H2 := Lib.hid h2
  clear hC hr1 hr2 h1 h2
  refine calls_of_marks Tryd.func51 rfl ?_
  simp only [Tryd.ntmps51, List.size_toArray, List.length_cons, List.length_nil, Nat.reduceAdd, Nat.reduceSub, Array.replicate_succ, Array.replicate_zero, List.push_toArray, List.append_toArray, List.nil_append, List.cons_append]
  have hz16 : (#[.int .u8 0, .int .u8 0, .int .u8 0, .int .u8 0, .int .u8 0, .int .u8 0, .int .u8 0, .int .u8 0, .int .u8 0, .int .u8 0, .int .u8 0, .int .u8 0, .int .u8 0, .int .u8 0, .int .u8 0, .int .u8 0] : Array Value) = w8 (List.replicate 16 0) := rfl
  have hHl : (aesBlk K (List.replicate 16 0)).length = 16 := aesBlk_len K _ (by simp)
  obtain ⟨h0, hh0⟩ : ∃ h0, h0 = aesBlk K (List.replicate 16 0) := ⟨_, rfl⟩
  rw [← hh0] at hHl
  have Hbk : Hid (∀ W, IsC W cb K → Calls Tryd.prog 74 #[.pointer (some ⟨cb, 0, none⟩), .agg #[.int .u8 0, .int .u8 0, .int .u8 0, .int .u8 0, .int .u8 0, .int .u8 0, .int .u8 0, .int .u8 0, .int .u8 0, .int .u8 0, .int .u8 0, .int .u8 0, .int .u8 0, .int .u8 0, .int .u8 0, .int .u8 0]] W fun e w' => e = .returned (.agg (w8 h0)) ∧ Below W.heap.size W w') := Lib.hid (fun W h => by
    rw [hz16, hh0]; exact aesblock_any cb K _ HC.out.K (by simp) W h)
  have Hof : Hid (∀ W, Calls Tryd.prog 76 #[.agg (w8 h0)] W fun e w' => e = .returned (.agg #[.int .u64 (pOf h0).1, .int .u64 (pOf h0).2]) ∧ Below W.heap.size W w') := Lib.hid (fun W => of_any h0 hHl W)
  have Hh0 := Lib.hid hh0
  clear hz16 hHl hh0
  go_wp2_with (first
    | (go_at_call 74; go_must (refine (Hbk.out _ HC.out.c).mono ?_; rintro e w1 ⟨rfl, hb1⟩; have Hb1 := Lib.hid hb1; clear hb1))
    | (go_at_call 76; go_must (refine (Hof.out _).mono ?_; rintro e w2 ⟨rfl, hb2⟩; have Hb2 := Lib.hid hb2; clear hb2))
    | (go_at_call 75; go_must (refine (blocks_any _ 2 2 _).mono ?_; rintro e wq ⟨rfl, hwq⟩; have Hwq := Lib.hid hwq; clear hwq)))
  have hwq := Hwq.out
  simp only [Nat.add_assoc, Nat.reduceAdd] at hwq ⊢
  obtain ⟨s, hs⟩ : ∃ s, s = w2.heap.size := ⟨_, rfl⟩
  rw [← hs] at hwq ⊢
  have hsz : wq.heap.size = s + 4 := by rw [hwq, hs]; simp
  have hBw : Below w.heap.size w w2 := Hb1.out.trans (Hb2.out.mono Hb1.out.size)
  have hBq : Below s w2 wq := by
    rw [hwq, hs]
    exact ((((Below.refl _ _).alloc (Nat.le_refl _) _).alloc (by simp) _).alloc (by simp; omega) _).alloc (by simp; omega) _
  have hq0 : wq.heap[s]? = some (.cells (pcells (tagH K)) 155 (0, 0)) := by
    rw [hwq, tagH, ← Hh0.out]; exact blk_alloc (blk_alloc (blk_alloc (new_at hs) _) _) _
  have hq1 : wq.heap[s + 1]? = some (.cells (pcells (0, 0)) 155 (0, 0)) := by
    rw [hwq]; exact blk_alloc (blk_alloc (new_at (by simp [hs])) _) _
  have hq2 : wq.heap[s + 2]? = some (.cells #[.slice hA hn hc, .slice sA sn sc] 22 (0, 0)) := by
    rw [hwq]; exact blk_alloc (new_at (by simp [hs])) _
  have hq3 : wq.heap[s + 3]? = some (.cells #[.slice (some ⟨s + 2, 0, none⟩) 2 2] 171 (0, 0)) := by
    rw [hwq]; exact new_at (by simp [hs])
  obtain ⟨th, hth⟩ : ∃ tx : Txt, tx = ⟨hA, hc, head⟩ := ⟨_, rfl⟩
  obtain ⟨ts, hts⟩ : ∃ tx : Txt, tx = ⟨sA, sc, sent⟩ := ⟨_, rfl⟩
  have hthv : th.val = .slice hA hn hc := by rw [hth, H2.out]; rfl
  have htsv : ts.val = .slice sA sn sc := by rw [hts, H1.out]; rfl
  have hto1 : th.ok w := by rw [hth]; exact ⟨Hr2.out, by show head.length ≤ _; rw [← H2.out]; omega⟩
  have hto2 : ts.ok w := by rw [hts]; exact ⟨Hr1.out, by show sent.length ≤ _; rw [← H1.out]; omega⟩
  have hBwq : Below w.heap.size w wq := hBw.trans (hBq.mono (by rw [hs]; exact hBw.size))
  have hws : w.heap.size ≤ s := by rw [hs]; exact hBw.size
  have hok : ∀ t ∈ [th, ts], t.ok wq := fun t ht => by
    rcases List.mem_cons.1 ht with rfl | ht
    · exact ⟨hto1.1.below hBwq, hto1.2⟩
    · rw [List.mem_singleton] at ht
      subst ht
      exact ⟨hto2.1.below hBwq, hto2.2⟩
  have htlt : ∀ b ∈ [th, ts].flatMap Txt.blk, b < w.heap.size := fun b hb => by
    simp only [List.flatMap_cons, List.flatMap_nil, List.append_nil, List.mem_append] at hb
    rcases hb with hb | hb
    · exact Txt.blk_lt hto1 b hb
    · exact Txt.blk_lt hto2 b hb
  have hall : allBlocks [th, ts] = blocksOf head ++ blocksOf sent := by rw [hth, hts]; simp [allBlocks]
  obtain ⟨Pr, hPr⟩ : ∃ Pr, Pr = (s + 3) :: (s + 2) :: [th, ts].flatMap Txt.blk := ⟨_, rfl⟩
  have hI0 : TagI s (tagH K) w2 (tagUp (tagH K) []) Pr wq := by
    refine ⟨hq0, hq1, hBq, fun x hx => ?_⟩
    rw [hPr] at hx
    simp only [List.mem_cons] at hx
    rcases hx with rfl | rfl | hx
    · omega
    · omega
    · have := htlt x hx; omega
  have hlt0 : ∀ x ∈ Pr, x < wq.heap.size := fun x hx => by
    rw [hPr] at hx
    simp only [List.mem_cons] at hx
    rcases hx with rfl | rfl | hx
    · omega
    · omega
    · have := htlt x hx; omega
  have hl16 : ∀ x ∈ allBlocks [th, ts], x.length = 16 := fun x hx => by
    rw [hall] at hx
    rcases List.mem_append.1 hx with hx | hx
    · obtain ⟨i, _, rfl⟩ := List.mem_map.1 hx
      simp [pad16]; omega
    · obtain ⟨i, _, rfl⟩ := List.mem_map.1 hx
      simp [pad16]; omega
  have hgv := blocks_gives (s + 3) (s + 2) 2 [th, ts] (by simp) wq hq3 (by rw [hq2]; simp [hthv, htsv]) hok
  rw [← hPr] at hgv
  rw [hall] at hgv hl16
  obtain ⟨bks, hbks⟩ : ∃ bks, bks = blocksOf head ++ blocksOf sent := ⟨_, rfl⟩
  rw [← hbks] at hgv hl16
  have Hsz := Lib.hid hsz
  have Hs := Lib.hid hs
  have Hbks := Lib.hid hbks
  have Hl16 := Lib.hid hl16
  have HBw := Lib.hid hBw
  have Hws := Lib.hid hws
  clear hq0 hq1 hq2 hq3 hthv htsv hto1 hto2 hok htlt hall hPr hBq hwq hsz hs Hwq hBwq hbks hBw hws hth hts Hbk Hof
  refine (wpIn_wide (n := 0)).1 (range_box (gf := 92) (lb := #[.pointer (some ⟨s + 3, 0, none⟩)]) (xs := bks) (Pr := Pr) rfl (enters_of Tryd.func92 (by kernel_rfl) rfl)
    hgv (Below.refl _ _) (by simp) (by simp) (by decide) hl16
    (fun Xi (sl : List (List Int)) W' => TagI s (tagH K) w2 (tagUp (tagH K) sl) Xi W') ?hI Pr (fun _ h => h) hlt0 hI0 ?body ?done)
  case hI => exact fun Xa Xb sl A A' h hT h1 h2 => h.stable hT (by have := Hsz.out; omega) h2
  case body =>
    clear hl16 hlt0 hI0 hgv
    rintro lr Xr i x fb Wr hx hltr hIr hfb hfbX hfbs
    simp only [List.setIfInBounds_toArray, List.set_cons_zero, List.set_cons_succ]
    have hxl16 : x.length = 16 := Hl16.out x (List.mem_of_getElem? hx)
    have htk : tagUp (tagH K) (bks.take (i + 1)) = pMul (pAdd (tagUp (tagH K) (bks.take i)) (pOf x)) (tagH K) := by
      rw [List.take_add_one, hx, Option.toList_some, tagUp_snoc]
    rw [htk]
    obtain ⟨u, hu⟩ : ∃ u, u = tagUp (tagH K) (bks.take i) := ⟨_, rfl⟩
    obtain ⟨h, hh⟩ : ∃ h, h = tagH K := ⟨_, rfl⟩
    rw [← hu, ← hh] at hIr ⊢
    have HIr := Lib.hid hIr
    have Hfb := Lib.hid hfb
    have HfbX := Lib.hid hfbX
    have Hltr := Lib.hid hltr
    have Hxl16 := Lib.hid hxl16
    have Hszx : Hid ((Tryd.prog.info? 50).map (·.size) = some (w8 x).size) := Lib.hid (by rw [w8_size, hxl16]; kernel_rfl)
    clear hx hltr hIr hfb hfbX hxl16 htk hu hh
    refine wpIn_block ?_
    gi_upto_region 5 with (fail)
    obtain ⟨S, hS⟩ : ∃ S : World → Prop, S = fun W => Hid (W.heap[s + 1]? = some (.cells (pcells u) 155 (0, 0))) ∧ Hid (W.heap[s]? = some (.cells (pcells h) 155 (0, 0))) ∧ Hid (W.heap[fb]? = some (.cells (w8 x) 50 (0, 0))) := ⟨_, rfl⟩
    have HSb : Hid (∀ W, Below Wr.heap.size Wr W → S W) := Lib.hid (fun W hW => by
      rw [hS]
      exact ⟨Lib.hid (below_at hW HIr.out.sum (blk_lt HIr.out.sum)), Lib.hid (below_at hW HIr.out.h (blk_lt HIr.out.h)), Lib.hid (below_at hW Hfb.out (blk_lt Hfb.out))⟩)
    refine seg_begin_r S [0, 1, 2, 3, 4] (by kernel_rfl) (by kernel_rfl) ?_
    have HBd : Hid (Below Wr.heap.size Wr Wr.drew) := Lib.hid (Below.refl _ _).drew
    have HS := Lib.hid (HSb.out _ HBd.out)
    generalize Wr.drew = wd at *
    (refine seg_read 0 (.agg #[.int .u64 u.1, .int .u64 u.2]) rfl (by kernel_rfl) (by kernel_rfl) (by kernel_rfl) (by kernel_rfl) (by kernel_rfl) (by kernel_rfl) (fun _ _ _ h => h) rfl HS.out (fun W hW => by rw [hS] at hW; exact yields_load_row 155 _ rfl (s + 1) rfl _ _ _ _ hW.1.out Tryd.underlying155 rfl pinfo) ?_; (try simp only [List.getElem_toArray, List.getElem_cons_zero, List.getElem_cons_succ, Act.put, List.setIfInBounds_toArray, List.set_cons_zero, List.set_cons_succ]))
    (refine seg_read 1 (.agg (w8 x)) rfl (by kernel_rfl) (by kernel_rfl) (by kernel_rfl) (by kernel_rfl) (by kernel_rfl) (by kernel_rfl) (fun _ _ _ h => h) rfl HS.out (fun W hW => by rw [hS] at hW; exact yields_load_row 50 _ rfl fb rfl _ _ _ _ hW.2.2.out Tryd.underlying50 rfl Hszx.out) ?_; (try simp only [List.getElem_toArray, List.getElem_cons_zero, List.getElem_cons_succ, Act.put, List.setIfInBounds_toArray, List.set_cons_zero, List.set_cons_succ]))
    (refine seg_read 4 (.agg #[.int .u64 h.1, .int .u64 h.2]) rfl (by kernel_rfl) (by kernel_rfl) (by kernel_rfl) (by kernel_rfl) (by kernel_rfl) (by kernel_rfl) (fun _ _ _ h => h) rfl HS.out (fun W hW => by rw [hS] at hW; exact yields_load_row 155 _ rfl s rfl _ _ _ _ hW.2.1.out Tryd.underlying155 rfl pinfo) ?_; (try simp only [List.getElem_toArray, List.getElem_cons_zero, List.getElem_cons_succ, Act.put, List.setIfInBounds_toArray, List.set_cons_zero, List.set_cons_succ]))
    (refine seg_rest [2, 3, 5, 6] _ _ _ (by kernel_rfl) ?_ _ rfl)
    (refine segs_in rfl ?_; (simp only [pick, List.getElem?_toArray, List.getElem_toArray, List.getElem_cons_zero, List.getElem_cons_succ, List.getElem?_cons_zero, List.getElem?_cons_succ, Act.put, List.setIfInBounds_toArray, List.set_cons_zero, List.set_cons_succ]))
    go_wp2_with (go_at_call 76; go_must (refine (of_any x Hxl16.out _).mono ?_; rintro e w3 ⟨rfl, hb3⟩; have HB3 : Hid (Below Wr.heap.size Wr w3) := Lib.hid (HBd.out.trans (hb3.mono HBd.out.size)); clear hb3))
    refine ⟨fun _ => HSb.out _ HB3.out, ?_⟩
    (refine segs_in rfl ?_; (simp only [pick, List.getElem?_toArray, List.getElem_toArray, List.getElem_cons_zero, List.getElem_cons_succ, List.getElem?_cons_zero, List.getElem?_cons_succ, Act.put, List.setIfInBounds_toArray, List.set_cons_zero, List.set_cons_succ]))
    go_wp2_with (go_at_call 77; go_must (refine (padd_any u (pOf x) _).mono ?_; rintro e w4 ⟨rfl, hb4⟩; have HB4 : Hid (Below Wr.heap.size Wr w4) := Lib.hid (HB3.out.trans (hb4.mono HB3.out.size)); clear hb4))
    refine ⟨fun _ => HSb.out _ HB4.out, ?_⟩
    (refine segs_out rfl ?_; (simp only [pick, List.getElem?_toArray, List.getElem_toArray, List.getElem_cons_zero, List.getElem_cons_succ, List.getElem?_cons_zero, List.getElem?_cons_succ, Act.put, List.setIfInBounds_toArray, List.set_cons_zero, List.set_cons_succ]))
    go_wp2_with (first
      | (go_at_call 78; go_must (refine (pmul_any (pAdd u (pOf x)) h _).mono ?_; rintro e w5 ⟨rfl, hb5⟩; have HB5 : Hid (Below Wr.heap.size Wr w5) := Lib.hid (HB4.out.trans (hb5.mono HB4.out.size)); have H5 : Hid (w5.heap[s + 1]? = some (.cells #[.int .u64 u.1, .int .u64 u.2] 155 (0, 0))) := Lib.hid (below_at HB5.out HIr.out.sum (blk_lt HIr.out.sum)); clear hb5))
      | (with_reducible refine wpList_store_row rfl 155 _ _ rfl (s + 1) _ rfl rfl _ _ H5.out pinfo psize pone ?_))
    try dsimp only [noOut]
    have hB1 := below_setRow (Below.refl (s + 1) w5) (Nat.le_refl (s + 1)) #[.int .u64 (pMul (pAdd u (pOf x)) h).1, .int .u64 (pMul (pAdd u (pOf x)) h).2]
    have hr1 := blk_lt HIr.out.sum
    refine (show _ ∧ _ from ⟨⟨?_, fun k hk => ?_⟩, ⟨?_, setRow_heap _ _ _ _ _ _ H5.out, ?_, HIr.out.x⟩⟩)
    · exact Nat.le_trans HB5.out.size hB1.size
    · rw [setRow_other _ _ _ _ (HIr.out.x k hk)]
      exact HB5.out.block k (Hltr.out k hk)
    · exact below_at hB1 (below_at HB5.out HIr.out.h (by omega)) (by omega)
    · exact below_setRow (HIr.out.bel.trans (HB5.out.mono (by omega))) (by omega) _
  case done =>
    clear hl16 hlt0 hI0 hgv
    rintro Xe We hIe hse hme hde
    obtain ⟨h, hh⟩ : ∃ h, h = tagH K := ⟨_, rfl⟩
    obtain ⟨u, hu⟩ : ∃ u, u = tagUp (tagH K) bks := ⟨_, rfl⟩
    rw [← hu, ← hh] at hIe
    have HIe := Lib.hid hIe
    have Hde := Lib.hid hde
    have Hh := Lib.hid hh
    have Hu := Lib.hid hu
    have HWl : Hid (wq.heap.size < We.heap.size) := Lib.hid (blk_lt hde)
    clear hIe hde hse hme hh hu
    obtain ⟨wQ, hwQ⟩ : ∃ wQ, wQ = wq.heap.size := ⟨_, rfl⟩
    rw [← hwQ] at Hde HWl Hsz ⊢
    clear hwQ
    go_upto_region 6 with (fail)
    obtain ⟨S, hS⟩ : ∃ S : World → Prop, S = fun W => Hid (W.heap[s + 1]? = some (.cells (pcells u) 155 (0, 0))) ∧ Hid (W.heap[s]? = some (.cells (pcells h) 155 (0, 0))) := ⟨_, rfl⟩
    have HSb : Hid (∀ W, Below We.heap.size We W → S W) := Lib.hid (fun W hW => by
      rw [hS]
      exact ⟨Lib.hid (below_at hW HIe.out.sum (blk_lt HIe.out.sum)), Lib.hid (below_at hW HIe.out.h (blk_lt HIe.out.h))⟩)
    refine seg_begin S [0, 10, 11] (by kernel_rfl) ?_
    have HBd : Hid (Below We.heap.size We We.drew) := Lib.hid (Below.refl _ _).drew
    have HS := Lib.hid (HSb.out _ HBd.out)
    generalize We.drew = wd at *
    (refine seg_take 1 ?_ rfl (by kernel_rfl) (by kernel_rfl) (by kernel_rfl) (by kernel_rfl) (by kernel_rfl) rfl (fun _ _ _ h => h) rfl ?_ ?_; rotate_left; (focus (intro w; go_simp; try with_reducible rfl)); (try simp only [List.getElem_toArray, List.getElem_cons_zero, List.getElem_cons_succ, Act.put, List.setIfInBounds_toArray, List.set_cons_zero, List.set_cons_succ]); refine seg_take 2 ?_ rfl (by kernel_rfl) (by kernel_rfl) (by kernel_rfl) (by kernel_rfl) (by kernel_rfl) rfl (fun _ _ _ h => h) rfl ?_ ?_; rotate_left; (focus (intro w; go_simp; try with_reducible rfl)); (try simp only [List.getElem_toArray, List.getElem_cons_zero, List.getElem_cons_succ, Act.put, List.setIfInBounds_toArray, List.set_cons_zero, List.set_cons_succ]); refine seg_take 3 ?_ rfl (by kernel_rfl) (by kernel_rfl) (by kernel_rfl) (by kernel_rfl) (by kernel_rfl) rfl (fun _ _ _ h => h) rfl ?_ ?_; rotate_left; (focus (intro w; go_simp; try with_reducible rfl)); (try simp only [List.getElem_toArray, List.getElem_cons_zero, List.getElem_cons_succ, Act.put, List.setIfInBounds_toArray, List.set_cons_zero, List.set_cons_succ]); refine seg_take 4 ?_ rfl (by kernel_rfl) (by kernel_rfl) (by kernel_rfl) (by kernel_rfl) (by kernel_rfl) rfl (fun _ _ _ h => h) rfl ?_ ?_; rotate_left; (focus (intro w; go_simp; try with_reducible rfl)); (try simp only [List.getElem_toArray, List.getElem_cons_zero, List.getElem_cons_succ, Act.put, List.setIfInBounds_toArray, List.set_cons_zero, List.set_cons_succ]); refine seg_take 5 ?_ rfl (by kernel_rfl) (by kernel_rfl) (by kernel_rfl) (by kernel_rfl) (by kernel_rfl) rfl (fun _ _ _ h => h) rfl ?_ ?_; rotate_left; (focus (intro w; go_simp; try with_reducible rfl)); (try simp only [List.getElem_toArray, List.getElem_cons_zero, List.getElem_cons_succ, Act.put, List.setIfInBounds_toArray, List.set_cons_zero, List.set_cons_succ]); refine seg_take 6 ?_ rfl (by kernel_rfl) (by kernel_rfl) (by kernel_rfl) (by kernel_rfl) (by kernel_rfl) rfl (fun _ _ _ h => h) rfl ?_ ?_; rotate_left; (focus (intro w; go_simp; try with_reducible rfl)); (try simp only [List.getElem_toArray, List.getElem_cons_zero, List.getElem_cons_succ, Act.put, List.setIfInBounds_toArray, List.set_cons_zero, List.set_cons_succ]); refine seg_take 7 ?_ rfl (by kernel_rfl) (by kernel_rfl) (by kernel_rfl) (by kernel_rfl) (by kernel_rfl) rfl (fun _ _ _ h => h) rfl ?_ ?_; rotate_left; (focus (intro w; go_simp; try with_reducible rfl)); (try simp only [List.getElem_toArray, List.getElem_cons_zero, List.getElem_cons_succ, Act.put, List.setIfInBounds_toArray, List.set_cons_zero, List.set_cons_succ]); refine seg_take 8 ?_ rfl (by kernel_rfl) (by kernel_rfl) (by kernel_rfl) (by kernel_rfl) (by kernel_rfl) rfl (fun _ _ _ h => h) rfl ?_ ?_; rotate_left; (focus (intro w; go_simp; try with_reducible rfl)); (try simp only [List.getElem_toArray, List.getElem_cons_zero, List.getElem_cons_succ, Act.put, List.setIfInBounds_toArray, List.set_cons_zero, List.set_cons_succ]); refine seg_take 9 ?_ rfl (by kernel_rfl) (by kernel_rfl) (by kernel_rfl) (by kernel_rfl) (by kernel_rfl) rfl (fun _ _ _ h => h) rfl ?_ ?_; rotate_left; (focus (intro w; go_simp; try with_reducible rfl)); (try simp only [List.getElem_toArray, List.getElem_cons_zero, List.getElem_cons_succ, Act.put, List.setIfInBounds_toArray, List.set_cons_zero, List.set_cons_succ]))
    (refine seg_read 0 (.agg #[.int .u64 u.1, .int .u64 u.2]) rfl (by kernel_rfl) (by kernel_rfl) (by kernel_rfl) (by kernel_rfl) (by kernel_rfl) (by kernel_rfl) (fun _ _ _ h => h) rfl HS.out (fun W hW => by rw [hS] at hW; exact yields_load_row 155 _ rfl (s + 1) rfl _ _ _ _ hW.1.out Tryd.underlying155 rfl pinfo) ?_; (try simp only [List.getElem_toArray, List.getElem_cons_zero, List.getElem_cons_succ, Act.put, List.setIfInBounds_toArray, List.set_cons_zero, List.set_cons_succ]))
    (refine seg_read 11 (.agg #[.int .u64 h.1, .int .u64 h.2]) rfl (by kernel_rfl) (by kernel_rfl) (by kernel_rfl) (by kernel_rfl) (by kernel_rfl) (by kernel_rfl) (fun _ _ _ h => h) rfl HS.out (fun W hW => by rw [hS] at hW; exact yields_load_row 155 _ rfl s rfl _ _ _ _ hW.2.out Tryd.underlying155 rfl pinfo) ?_; (try simp only [List.getElem_toArray, List.getElem_cons_zero, List.getElem_cons_succ, Act.put, List.setIfInBounds_toArray, List.set_cons_zero, List.set_cons_succ]))
    generalize hva : IntKind.u64.wrap (hn : Int) = va
    generalize hvb : IntKind.u64.wrap (sn : Int) = vb
    generalize hqa : IntKind.u64.wrap (va * 8) = qa
    generalize hqb : IntKind.u64.wrap (vb * 8) = qb
    obtain ⟨u2, hu2⟩ : ∃ u2, u2 = pMul (pAdd u (qa, qb)) h := ⟨_, rfl⟩
    have hT : u2 = tagSum K sent head := by rw [hu2, tagSum, Hu.out, Hh.out, ← Hbks.out, ← hqa, ← hqb, ← hva, ← hvb, H1.out, H2.out]
    have HT := Lib.hid hT
    have Hu2 := Lib.hid hu2
    clear hqa hqb hva hvb hT hu2
    (refine seg_rest [10, 12, 13] _ _ _ (by kernel_rfl) ?_ _ rfl)
    (refine segs_in rfl ?_; (simp only [pick, List.getElem?_toArray, List.getElem_toArray, List.getElem_cons_zero, List.getElem_cons_succ, List.getElem?_cons_zero, List.getElem?_cons_succ, Act.put, List.setIfInBounds_toArray, List.set_cons_zero, List.set_cons_succ]))
    go_wp2_with (go_at_call 77; go_must (refine (padd_any u (qa, qb) _).mono ?_; rintro e w4 ⟨rfl, hb4⟩; have HB4 : Hid (Below We.heap.size We w4) := Lib.hid (HBd.out.trans (hb4.mono HBd.out.size)); clear hb4))
    refine ⟨fun _ => HSb.out _ HB4.out, ?_⟩
    (refine segs_out rfl ?_; (simp only [pick, List.getElem?_toArray, List.getElem_toArray, List.getElem_cons_zero, List.getElem_cons_succ, List.getElem?_cons_zero, List.getElem?_cons_succ, Act.put, List.setIfInBounds_toArray, List.set_cons_zero, List.set_cons_succ]))
    go_upto_region 7 with (first
      | (go_at_call 78; go_must (refine (pmul_any (pAdd u (qa, qb)) h _).mono ?_; rw [← Hu2.out]; rintro e w5 ⟨rfl, hb5⟩; have HB5 : Hid (Below We.heap.size We w5) := Lib.hid (HB4.out.trans (hb5.mono HB4.out.size)); have H5 : Hid (w5.heap[s + 1]? = some (.cells #[.int .u64 u.1, .int .u64 u.2] 155 (0, 0))) := Lib.hid (below_at HB5.out HIe.out.sum (blk_lt HIe.out.sum)); clear hb5))
      | (with_reducible refine wpList_store_row rfl 155 _ _ rfl (s + 1) _ rfl rfl _ _ H5.out pinfo psize pone ?_))
    have hB6 : Below s w2 (w5.setRow (s + 1) #[.int .u64 u2.1, .int .u64 u2.2]) := below_setRow (HIe.out.bel.trans (HB5.out.mono (by have := blk_lt HIe.out.h; omega))) (by omega) _
    have h6 : (w5.setRow (s + 1) #[.int .u64 u2.1, .int .u64 u2.2]).heap[s + 1]? = some (.cells #[.int .u64 u2.1, .int .u64 u2.2] 155 (0, 0)) := setRow_heap _ _ _ _ _ _ H5.out
    have h6Q : (w5.setRow (s + 1) #[.int .u64 u2.1, .int .u64 u2.2]).heap[wQ]? = some (.deferred (some [])) := by
      rw [setRow_other _ _ _ _ (by have := Hsz.out; omega)]
      exact below_at HB5.out Hde.out HWl.out
    obtain ⟨w6, hw6⟩ : ∃ w6, w6 = w5.setRow (s + 1) #[.int .u64 u2.1, .int .u64 u2.2] := ⟨_, rfl⟩
    rw [← hw6] at hB6 h6 h6Q ⊢
    have HB6 := Lib.hid hB6
    have H6 := Lib.hid h6
    have H6Q := Lib.hid h6Q
    clear hB6 h6 h6Q hw6 HSb HS HBd HB4 HB5 H5 hS HIe Hde HWl
    clear S
    obtain ⟨k1, hk1⟩ : ∃ k1, k1 = cntBlk K nonce 1 := ⟨_, rfl⟩
    have hk1l : k1.length = 16 := by rw [hk1]; exact cntBlk_len K nonce HC.out.len 1
    have Hk1 := Lib.hid hk1
    have Hk1l := Lib.hid hk1l
    clear hk1 hk1l
    have hs6 : s + 1 < w6.heap.size := blk_lt H6.out
    simp only [Act.put]
    obtain ⟨tg, htg⟩ : ∃ tg, tg = gcmTag K nonce sent head := ⟨_, rfl⟩
    have htl : tg.length = 16 := by rw [htg]; exact gcmTag_len _ _ _ _
    have hte : pBlk (pAdd u2 (pOf k1)) = tg := by rw [htg, gcmTag, HT.out, Hk1.out]
    have Hte := Lib.hid hte
    have Htg := Lib.hid htg
    have Htl := Lib.hid htl
    clear htg htl hte
    go_cut [12] from 41 to 47 (fun s12 wx => ∃ ab, s12 = .pointer (some ⟨ab, 0, none⟩) ∧ Hid (s ≤ ab ∧ wx.heap[ab]? = some (.cells (w8 tg) 50 (0, 0)) ∧ Below s w2 wx ∧ wx.heap[wQ]? = some (.deferred (some []))))
    case first =>
      have Hszt : Hid ((Tryd.prog.info? 50).map (·.size) = some (w8 tg).size) := Lib.hid (by rw [w8_size, Htl.out]; kernel_rfl)
      have Holdt : Hid ((#[.int .u8 0, .int .u8 0, .int .u8 0, .int .u8 0, .int .u8 0, .int .u8 0, .int .u8 0, .int .u8 0, .int .u8 0, .int .u8 0, .int .u8 0, .int .u8 0, .int .u8 0, .int .u8 0, .int .u8 0, .int .u8 0] : Array Value).size = (w8 tg).size) := Lib.hid (by rw [w8_size, Htl.out]; rfl)
      have Hcnt : Hid (∀ W, Below s w2 W → Calls Tryd.prog 73 #[.int .i64 1, .pointer (some ⟨nb, 0, none⟩), .pointer (some ⟨xb, 0, none⟩)] W fun e w' => e = .returned (.agg (w8 k1)) ∧ Below W.heap.size W w') := Lib.hid (fun W hW => by
        rw [Hk1.out]
        exact count_any nb xb cb K nonce 1 (by omega) W (HC.out.below (HBw.out.trans (hW.mono Hws.out))))
      have Hblk : Hid (∀ W, Calls Tryd.prog 79 #[.agg #[.int .u64 (pAdd u2 (pOf k1)).1, .int .u64 (pAdd u2 (pOf k1)).2]] W fun e w' => e = .returned (.agg (w8 tg)) ∧ Below W.heap.size W w') := Lib.hid (fun W => by
        have := pblock_any (pAdd u2 (pOf k1)) W
        rwa [Hte.out] at this)
      obtain ⟨S, hS⟩ : ∃ S : World → Prop, S = fun W => Hid (W.heap[s + 1]? = some (.cells #[.int .u64 u2.1, .int .u64 u2.2] 155 (0, 0))) := ⟨_, rfl⟩
      have HSb : Hid (∀ W, Below w6.heap.size w6 W → S W) := Lib.hid (fun W hW => by
        rw [hS]
        exact Lib.hid (below_at hW H6.out (blk_lt H6.out)))
      refine seg_begin S [0, 2, 3, 6] (by kernel_rfl) ?_
      have HBd : Hid (Below w6.heap.size w6 w6.drew) := Lib.hid (Below.refl _ _).drew
      have HS := Lib.hid (HSb.out _ HBd.out)
      generalize w6.drew = wd at *
      (refine seg_take 1 ?_ rfl (by kernel_rfl) (by kernel_rfl) (by kernel_rfl) (by kernel_rfl) (by kernel_rfl) rfl (fun _ _ _ h => h) rfl ?_ ?_; rotate_left; (focus (intro w; go_simp; try with_reducible rfl)); (try simp only [List.getElem_toArray, List.getElem_cons_zero, List.getElem_cons_succ, Act.put, List.setIfInBounds_toArray, List.set_cons_zero, List.set_cons_succ]))
      (refine seg_read 0 (.agg #[.int .u64 u2.1, .int .u64 u2.2]) rfl (by kernel_rfl) (by kernel_rfl) (by kernel_rfl) (by kernel_rfl) (by kernel_rfl) (by kernel_rfl) (fun _ _ _ h => h) rfl HS.out (fun W hW => by rw [hS] at hW; exact yields_load_row 155 _ rfl (s + 1) rfl _ _ _ _ hW.out Tryd.underlying155 rfl pinfo) ?_; (try simp only [List.getElem_toArray, List.getElem_cons_zero, List.getElem_cons_succ, Act.put, List.setIfInBounds_toArray, List.set_cons_zero, List.set_cons_succ]))
      --ARMS<
      refine anyB_two 2 6 rfl rfl (by kernel_rfl) ?_ ?_
      · skip
        go_wp2_with (go_at_call 73; go_must (refine (Hcnt.out _ (HB6.out.trans (HBd.out.mono (by omega)))).mono ?_; rintro e v0 ⟨rfl, hb⟩; have HB0 : Hid (Below w6.heap.size w6 v0) := Lib.hid (HBd.out.trans (hb.mono HBd.out.size)); clear hb))
        refine ⟨fun _ => HSb.out _ HB0.out, ?_⟩
        refine anyB_two 3 6 rfl rfl (by kernel_rfl) ?_ ?_
        · skip
          go_wp2_with (go_at_call 76; go_must (refine (of_any k1 Hk1l.out _).mono ?_; rintro e v1 ⟨rfl, hb⟩; have HB1 : Hid (Below w6.heap.size w6 v1) := Lib.hid (HB0.out.trans (hb.mono HB0.out.size)); clear hb))
          refine ⟨fun _ => HSb.out _ HB1.out, ?_⟩
          refine anyB_two 4 6 rfl rfl (by kernel_rfl) ?_ ?_
          · skip
            go_wp2_with (go_at_call 77; go_must (refine (padd_any u2 (pOf k1) _).mono ?_; rintro e v2 ⟨rfl, hb⟩; have HB2 : Hid (Below w6.heap.size w6 v2) := Lib.hid (HB1.out.trans (hb.mono HB1.out.size)); clear hb))
            refine ⟨nofun, ?_⟩
            refine anyB_two 5 6 rfl rfl (by kernel_rfl) ?_ ?_
            · skip
              go_wp2_with (go_at_call 79; go_must (refine (Hblk.out _).mono ?_; rintro e v3 ⟨rfl, hb⟩; have HB3 : Hid (Below w6.heap.size w6 v3) := Lib.hid (HB2.out.trans (hb.mono HB2.out.size)); clear hb))
              refine ⟨nofun, ?_⟩
              (refine seg_rest [6, 7] _ _ _ (by kernel_rfl) ?_ _ rfl)
              (refine segs_in rfl ?_; (simp only [pick, List.getElem?_toArray, List.getElem_toArray, List.getElem_cons_zero, List.getElem_cons_succ, List.getElem?_cons_zero, List.getElem?_cons_succ, Act.put, List.setIfInBounds_toArray, List.set_cons_zero, List.set_cons_succ]))
              go_wp2
              refine ⟨fun _ => HSb.out _ (HB3.out.alloc HB3.out.size _), ?_⟩
              have HnA := Lib.hid (new_at (W := v3) (o := .cells #[.int .u8 0, .int .u8 0, .int .u8 0, .int .u8 0, .int .u8 0, .int .u8 0, .int .u8 0, .int .u8 0, .int .u8 0, .int .u8 0, .int .u8 0, .int .u8 0, .int .u8 0, .int .u8 0, .int .u8 0, .int .u8 0] 50) rfl)
              have HBA : Hid (Below w6.heap.size w6 (v3.alloc (.cells #[.int .u8 0, .int .u8 0, .int .u8 0, .int .u8 0, .int .u8 0, .int .u8 0, .int .u8 0, .int .u8 0, .int .u8 0, .int .u8 0, .int .u8 0, .int .u8 0, .int .u8 0, .int .u8 0, .int .u8 0, .int .u8 0] 50))) := Lib.hid (HB3.out.alloc HB3.out.size _)
              have Hab : Hid (w6.heap.size ≤ v3.heap.size) := Lib.hid HB3.out.size
              (refine segs_out rfl ?_; (simp only [pick, List.getElem?_toArray, List.getElem_toArray, List.getElem_cons_zero, List.getElem_cons_succ, List.getElem?_cons_zero, List.getElem?_cons_succ, Act.put, List.setIfInBounds_toArray, List.set_cons_zero, List.set_cons_succ]))
              go_wp2_with (with_reducible refine wpList_store_row rfl 50 _ _ rfl v3.heap.size _ rfl rfl _ _ HnA.out Hszt.out Holdt.out (w8_one _) ?_)
              go_meet
              exact ⟨v3.heap.size, rfl, Lib.hid ⟨by have := Hab.out; omega, setRow_heap _ _ _ _ _ _ HnA.out, below_setRow (HB6.out.trans (HBA.out.mono (by omega))) (by have := Hab.out; omega) _, (setRow_other _ _ _ _ (by have := Hab.out; have := blk_lt H6Q.out; omega)).trans (below_at HBA.out H6Q.out (blk_lt H6Q.out))⟩⟩
            · skip
              go_wp2
              refine ⟨fun _ => HSb.out _ (HB2.out.alloc HB2.out.size _), ?_⟩
              have HnA := Lib.hid (new_at (W := v2) (o := .cells #[.int .u8 0, .int .u8 0, .int .u8 0, .int .u8 0, .int .u8 0, .int .u8 0, .int .u8 0, .int .u8 0, .int .u8 0, .int .u8 0, .int .u8 0, .int .u8 0, .int .u8 0, .int .u8 0, .int .u8 0, .int .u8 0] 50) rfl)
              have HBA : Hid (Below w6.heap.size w6 (v2.alloc (.cells #[.int .u8 0, .int .u8 0, .int .u8 0, .int .u8 0, .int .u8 0, .int .u8 0, .int .u8 0, .int .u8 0, .int .u8 0, .int .u8 0, .int .u8 0, .int .u8 0, .int .u8 0, .int .u8 0, .int .u8 0, .int .u8 0] 50))) := Lib.hid (HB2.out.alloc HB2.out.size _)
              have Hab : Hid (w6.heap.size ≤ v2.heap.size) := Lib.hid HB2.out.size
              (refine seg_rest [5, 7] _ _ _ (by kernel_rfl) ?_ _ rfl)
              (refine segs_out rfl ?_; (simp only [pick, List.getElem?_toArray, List.getElem_toArray, List.getElem_cons_zero, List.getElem_cons_succ, List.getElem?_cons_zero, List.getElem?_cons_succ, Act.put, List.setIfInBounds_toArray, List.set_cons_zero, List.set_cons_succ]))
              go_wp2_with (first | (go_at_call 79; go_must (refine (Hblk.out _).mono ?_; rintro e v3 ⟨rfl, hb⟩; have HB3 : Hid (Below w6.heap.size w6 v3) := Lib.hid (HBA.out.trans (hb.mono HBA.out.size)); have Hn3 := Lib.hid (below_at hb HnA.out (blk_lt HnA.out)); clear hb)) | (with_reducible refine wpList_store_row rfl 50 _ _ rfl v2.heap.size _ rfl rfl _ _ Hn3.out Hszt.out Holdt.out (w8_one _) ?_))
              go_meet
              exact ⟨v2.heap.size, rfl, Lib.hid ⟨by have := Hab.out; omega, setRow_heap _ _ _ _ _ _ Hn3.out, below_setRow (HB6.out.trans (HB3.out.mono (by omega))) (by have := Hab.out; omega) _, (setRow_other _ _ _ _ (by have := Hab.out; have := blk_lt H6Q.out; omega)).trans (below_at HB3.out H6Q.out (blk_lt H6Q.out))⟩⟩
          · skip
            go_wp2
            refine ⟨fun _ => HSb.out _ (HB1.out.alloc HB1.out.size _), ?_⟩
            have HnA := Lib.hid (new_at (W := v1) (o := .cells #[.int .u8 0, .int .u8 0, .int .u8 0, .int .u8 0, .int .u8 0, .int .u8 0, .int .u8 0, .int .u8 0, .int .u8 0, .int .u8 0, .int .u8 0, .int .u8 0, .int .u8 0, .int .u8 0, .int .u8 0, .int .u8 0] 50) rfl)
            have HBA : Hid (Below w6.heap.size w6 (v1.alloc (.cells #[.int .u8 0, .int .u8 0, .int .u8 0, .int .u8 0, .int .u8 0, .int .u8 0, .int .u8 0, .int .u8 0, .int .u8 0, .int .u8 0, .int .u8 0, .int .u8 0, .int .u8 0, .int .u8 0, .int .u8 0, .int .u8 0] 50))) := Lib.hid (HB1.out.alloc HB1.out.size _)
            have Hab : Hid (w6.heap.size ≤ v1.heap.size) := Lib.hid HB1.out.size
            (refine seg_rest [4, 5, 7] _ _ _ (by kernel_rfl) ?_ _ rfl)
            (refine segs_out rfl ?_; (simp only [pick, List.getElem?_toArray, List.getElem_toArray, List.getElem_cons_zero, List.getElem_cons_succ, List.getElem?_cons_zero, List.getElem?_cons_succ, Act.put, List.setIfInBounds_toArray, List.set_cons_zero, List.set_cons_succ]))
            go_wp2_with (first | (go_at_call 77; go_must (refine (padd_any u2 (pOf k1) _).mono ?_; rintro e v2 ⟨rfl, hb⟩; have HB2 : Hid (Below w6.heap.size w6 v2) := Lib.hid (HBA.out.trans (hb.mono HBA.out.size)); have Hn2 := Lib.hid (below_at hb HnA.out (blk_lt HnA.out)); clear hb)) | (go_at_call 79; go_must (refine (Hblk.out _).mono ?_; rintro e v3 ⟨rfl, hb⟩; have HB3 : Hid (Below w6.heap.size w6 v3) := Lib.hid (HB2.out.trans (hb.mono HB2.out.size)); have Hn3 := Lib.hid (below_at hb Hn2.out (blk_lt Hn2.out)); clear hb)) | (with_reducible refine wpList_store_row rfl 50 _ _ rfl v1.heap.size _ rfl rfl _ _ Hn3.out Hszt.out Holdt.out (w8_one _) ?_))
            go_meet
            exact ⟨v1.heap.size, rfl, Lib.hid ⟨by have := Hab.out; omega, setRow_heap _ _ _ _ _ _ Hn3.out, below_setRow (HB6.out.trans (HB3.out.mono (by omega))) (by have := Hab.out; omega) _, (setRow_other _ _ _ _ (by have := Hab.out; have := blk_lt H6Q.out; omega)).trans (below_at HB3.out H6Q.out (blk_lt H6Q.out))⟩⟩
        · skip
          go_wp2
          refine ⟨fun _ => HSb.out _ (HB0.out.alloc HB0.out.size _), ?_⟩
          have HnA := Lib.hid (new_at (W := v0) (o := .cells #[.int .u8 0, .int .u8 0, .int .u8 0, .int .u8 0, .int .u8 0, .int .u8 0, .int .u8 0, .int .u8 0, .int .u8 0, .int .u8 0, .int .u8 0, .int .u8 0, .int .u8 0, .int .u8 0, .int .u8 0, .int .u8 0] 50) rfl)
          have HBA : Hid (Below w6.heap.size w6 (v0.alloc (.cells #[.int .u8 0, .int .u8 0, .int .u8 0, .int .u8 0, .int .u8 0, .int .u8 0, .int .u8 0, .int .u8 0, .int .u8 0, .int .u8 0, .int .u8 0, .int .u8 0, .int .u8 0, .int .u8 0, .int .u8 0, .int .u8 0] 50))) := Lib.hid (HB0.out.alloc HB0.out.size _)
          have Hab : Hid (w6.heap.size ≤ v0.heap.size) := Lib.hid HB0.out.size
          (refine seg_rest [3, 4, 5, 7] _ _ _ (by kernel_rfl) ?_ _ rfl)
          (refine segs_in rfl ?_; (simp only [pick, List.getElem?_toArray, List.getElem_toArray, List.getElem_cons_zero, List.getElem_cons_succ, List.getElem?_cons_zero, List.getElem?_cons_succ, Act.put, List.setIfInBounds_toArray, List.set_cons_zero, List.set_cons_succ]))
          go_wp2_with (go_at_call 76; go_must (refine (of_any k1 Hk1l.out _).mono ?_; rintro e v1 ⟨rfl, hb⟩; have HB1 : Hid (Below w6.heap.size w6 v1) := Lib.hid (HBA.out.trans (hb.mono HBA.out.size)); have Hn1 := Lib.hid (below_at hb HnA.out (blk_lt HnA.out)); clear hb))
          refine ⟨fun _ => HSb.out _ HB1.out, ?_⟩
          (refine segs_out rfl ?_; (simp only [pick, List.getElem?_toArray, List.getElem_toArray, List.getElem_cons_zero, List.getElem_cons_succ, List.getElem?_cons_zero, List.getElem?_cons_succ, Act.put, List.setIfInBounds_toArray, List.set_cons_zero, List.set_cons_succ]))
          go_wp2_with (first | (go_at_call 77; go_must (refine (padd_any u2 (pOf k1) _).mono ?_; rintro e v2 ⟨rfl, hb⟩; have HB2 : Hid (Below w6.heap.size w6 v2) := Lib.hid (HB1.out.trans (hb.mono HB1.out.size)); have Hn2 := Lib.hid (below_at hb Hn1.out (blk_lt Hn1.out)); clear hb)) | (go_at_call 79; go_must (refine (Hblk.out _).mono ?_; rintro e v3 ⟨rfl, hb⟩; have HB3 : Hid (Below w6.heap.size w6 v3) := Lib.hid (HB2.out.trans (hb.mono HB2.out.size)); have Hn3 := Lib.hid (below_at hb Hn2.out (blk_lt Hn2.out)); clear hb)) | (with_reducible refine wpList_store_row rfl 50 _ _ rfl v0.heap.size _ rfl rfl _ _ Hn3.out Hszt.out Holdt.out (w8_one _) ?_))
          go_meet
          exact ⟨v0.heap.size, rfl, Lib.hid ⟨by have := Hab.out; omega, setRow_heap _ _ _ _ _ _ Hn3.out, below_setRow (HB6.out.trans (HB3.out.mono (by omega))) (by have := Hab.out; omega) _, (setRow_other _ _ _ _ (by have := Hab.out; have := blk_lt H6Q.out; omega)).trans (below_at HB3.out H6Q.out (blk_lt H6Q.out))⟩⟩
      · skip
        go_wp2
        refine ⟨fun _ => HSb.out _ (HBd.out.alloc HBd.out.size _), ?_⟩
        have HnA := Lib.hid (new_at (W := wd) (o := .cells #[.int .u8 0, .int .u8 0, .int .u8 0, .int .u8 0, .int .u8 0, .int .u8 0, .int .u8 0, .int .u8 0, .int .u8 0, .int .u8 0, .int .u8 0, .int .u8 0, .int .u8 0, .int .u8 0, .int .u8 0, .int .u8 0] 50) rfl)
        have HBA : Hid (Below w6.heap.size w6 (wd.alloc (.cells #[.int .u8 0, .int .u8 0, .int .u8 0, .int .u8 0, .int .u8 0, .int .u8 0, .int .u8 0, .int .u8 0, .int .u8 0, .int .u8 0, .int .u8 0, .int .u8 0, .int .u8 0, .int .u8 0, .int .u8 0, .int .u8 0] 50))) := Lib.hid (HBd.out.alloc HBd.out.size _)
        have Hab : Hid (w6.heap.size ≤ wd.heap.size) := Lib.hid HBd.out.size
        (refine seg_rest [2, 3, 4, 5, 7] _ _ _ (by kernel_rfl) ?_ _ rfl)
        (refine segs_in rfl ?_; (simp only [pick, List.getElem?_toArray, List.getElem_toArray, List.getElem_cons_zero, List.getElem_cons_succ, List.getElem?_cons_zero, List.getElem?_cons_succ, Act.put, List.setIfInBounds_toArray, List.set_cons_zero, List.set_cons_succ]))
        go_wp2_with (go_at_call 73; go_must (refine (Hcnt.out _ (HB6.out.trans (HBA.out.mono (by omega)))).mono ?_; rintro e v0 ⟨rfl, hb⟩; have HB0 : Hid (Below w6.heap.size w6 v0) := Lib.hid (HBA.out.trans (hb.mono HBA.out.size)); have Hn0 := Lib.hid (below_at hb HnA.out (blk_lt HnA.out)); clear hb))
        refine ⟨fun _ => HSb.out _ HB0.out, ?_⟩
        (refine segs_in rfl ?_; (simp only [pick, List.getElem?_toArray, List.getElem_toArray, List.getElem_cons_zero, List.getElem_cons_succ, List.getElem?_cons_zero, List.getElem?_cons_succ, Act.put, List.setIfInBounds_toArray, List.set_cons_zero, List.set_cons_succ]))
        go_wp2_with (go_at_call 76; go_must (refine (of_any k1 Hk1l.out _).mono ?_; rintro e v1 ⟨rfl, hb⟩; have HB1 : Hid (Below w6.heap.size w6 v1) := Lib.hid (HB0.out.trans (hb.mono HB0.out.size)); have Hn1 := Lib.hid (below_at hb Hn0.out (blk_lt Hn0.out)); clear hb))
        refine ⟨fun _ => HSb.out _ HB1.out, ?_⟩
        (refine segs_out rfl ?_; (simp only [pick, List.getElem?_toArray, List.getElem_toArray, List.getElem_cons_zero, List.getElem_cons_succ, List.getElem?_cons_zero, List.getElem?_cons_succ, Act.put, List.setIfInBounds_toArray, List.set_cons_zero, List.set_cons_succ]))
        go_wp2_with (first | (go_at_call 77; go_must (refine (padd_any u2 (pOf k1) _).mono ?_; rintro e v2 ⟨rfl, hb⟩; have HB2 : Hid (Below w6.heap.size w6 v2) := Lib.hid (HB1.out.trans (hb.mono HB1.out.size)); have Hn2 := Lib.hid (below_at hb Hn1.out (blk_lt Hn1.out)); clear hb)) | (go_at_call 79; go_must (refine (Hblk.out _).mono ?_; rintro e v3 ⟨rfl, hb⟩; have HB3 : Hid (Below w6.heap.size w6 v3) := Lib.hid (HB2.out.trans (hb.mono HB2.out.size)); have Hn3 := Lib.hid (below_at hb Hn2.out (blk_lt Hn2.out)); clear hb)) | (with_reducible refine wpList_store_row rfl 50 _ _ rfl wd.heap.size _ rfl rfl _ _ Hn3.out Hszt.out Holdt.out (w8_one _) ?_))
        go_meet
        exact ⟨wd.heap.size, rfl, Lib.hid ⟨by have := Hab.out; omega, setRow_heap _ _ _ _ _ _ Hn3.out, below_setRow (HB6.out.trans (HB3.out.mono (by omega))) (by have := Hab.out; omega) _, (setRow_other _ _ _ _ (by have := Hab.out; have := blk_lt H6Q.out; omega)).trans (below_at HB3.out H6Q.out (blk_lt H6Q.out))⟩⟩
      -->ARMS
    case rest =>
      rename World => wx
      obtain ⟨ab, rfl, Hab⟩ := hcut
      go_wp2
      refine leaves_marks (dl := [wQ]) (fun w => results_tmp Tryd.results51 _ _ _) wx (by simp) (by simpa using Hab.out.2.2.2) ?_
      intro w' hT hs
      have hT1 := hT wQ (by simp)
      have h1 := cells_turn hT1 Hab.out.2.1
      have hb : Below s w2 w' := by
        refine Hab.out.2.2.1.trans ⟨hT1.os, hT1.tape, hT1.output, hT1.size, fun k hk => ?_⟩
        rcases hT1.block k (by have := Hab.out.2.2.1.size; have := blk_lt H6.out; have := blk_lt Hab.out.2.1; have := Hab.out.1; omega) with h4 | ⟨h4, _⟩
        · exact h4
        · have := Hsz.out; omega
      rw [← Htg.out]
      refine ⟨_, _, rfl, ⟨by rw [Htl.out]; omega, by omega, by simp, fun _ => ⟨ab, 0, rfl, fun j hj => ?_⟩⟩, fun a ha => ?_, HBw.out.trans (hb.mono Hws.out)⟩
      · rw [Nat.zero_add]
        exact cell_w8 h1 j hj
      · cases ha
        have := Hab.out.1
        have := Hws.out
        simp only
        omega
end Go.Proofs.YtiboflejmnjdhaaDoor
