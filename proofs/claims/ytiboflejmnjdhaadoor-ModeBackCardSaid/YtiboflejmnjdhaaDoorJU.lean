/- Contracts of package mac: pads, Mac. -/
import Derived.Test.YtiboflejmnjdhaaDoorGcm5
section
set_option linter.unusedVariables false
set_option linter.unusedSimpArgs false
set_option maxRecDepth 100000
namespace Go.Proofs.YtiboflejmnjdhaaDoor
open Go Go.RowKit Go.Shelf
attribute [local go_sem] Oper.semAt_some
/-- A padded key, k bytes of it turned. -/
def padUp (own : List Int) (x : Int) : Nat → List Int
  | 0 => own
  | k + 1 => (padUp own x k).set k (x8 ((padUp own x k).getD k 0) x)
theorem padUp_len (own : List Int) (x : Int) : ∀ k, (padUp own x k).length = own.length
  | 0 => rfl
  | k + 1 => by rw [padUp, List.length_set, padUp_len own x k]
/-- One half of a mac. -/
def macIn (F R own : List Int) (x : Int) (b : List Int) : List Int :=
  shaEnd F R (hV F R (hV F R [0, 0, 0, 0, 0, 0, 0, 0] [] 0 (padUp own x 64)) (hLeft [] (padUp own x 64)) 64 b) (hLeft (hLeft [] (padUp own x 64)) b) (64 + b.length)
theorem macIn_len (F R own : List Int) (x : Int) (b : List Int) : (macIn F R own x b).length = 32 := shaBytes_len _ _
/-- What one half has captured. -/
structure PadK (w : World) (ob xb : Nat) (own : List Int) (x : Int) : Prop where
  o : w.heap[ob]? = some (.cells (w8 own) 136 (0, 0))
  x : w.heap[xb]? = some (.cells #[.int .u8 x] 5 (0, 0))
  len : own.length = 64
theorem PadK.below {w w' : World} {ob xb : Nat} {own : List Int} {x : Int} (h : PadK w ob xb own x) (hb : Below w.heap.size w w') : PadK w' ob xb own x :=
  ⟨below_at hb h.o (blk_lt h.o), below_at hb h.x (blk_lt h.x), h.len⟩
set_option maxHeartbeats 2000000 in
theorem padfn_any (F R : List Int) (ob xb : Nat) (own : List Int) (x : Int) (A : Option Addr) (n c : Nat) (b : List Int) (hn : n = b.length) (hn2 : n ≤ 1000000) (w : World) (hT : Tabs F R w) (hK : PadK w ob xb own x) (hr : Rd w A c b) :
    Calls Tryd.prog 64 #[.slice A n c, .pointer (some ⟨ob, 0, none⟩), .pointer (some ⟨xb, 0, none⟩)] w fun e w' => e = .returned (.agg (w8 (macIn F R own x b))) ∧ Below w.heap.size w w' := by
  have HT := Lib.hid hT
  have HK := Lib.hid hK
  have Hr := Lib.hid hr
  have Hn := Lib.hid hn
  have Hg : Hid (2 < w.heap.size ∧ 1 < w.heap.size) := Lib.hid ⟨blk_lt hT.r, blk_lt hT.f⟩
  have Hszo : Hid ((Tryd.prog.info? 136).map (·.size) = some (w8 own).size) := Lib.hid (by rw [w8_size, hK.len]; kernel_rfl)
  have Holdo : Hid ((#[.int .u8 0, .int .u8 0, .int .u8 0, .int .u8 0, .int .u8 0, .int .u8 0, .int .u8 0, .int .u8 0, .int .u8 0, .int .u8 0, .int .u8 0, .int .u8 0, .int .u8 0, .int .u8 0, .int .u8 0, .int .u8 0, .int .u8 0, .int .u8 0, .int .u8 0, .int .u8 0, .int .u8 0, .int .u8 0, .int .u8 0, .int .u8 0, .int .u8 0, .int .u8 0, .int .u8 0, .int .u8 0, .int .u8 0, .int .u8 0, .int .u8 0, .int .u8 0, .int .u8 0, .int .u8 0, .int .u8 0, .int .u8 0, .int .u8 0, .int .u8 0, .int .u8 0, .int .u8 0, .int .u8 0, .int .u8 0, .int .u8 0, .int .u8 0, .int .u8 0, .int .u8 0, .int .u8 0, .int .u8 0, .int .u8 0, .int .u8 0, .int .u8 0, .int .u8 0, .int .u8 0, .int .u8 0, .int .u8 0, .int .u8 0, .int .u8 0, .int .u8 0, .int .u8 0, .int .u8 0, .int .u8 0, .int .u8 0, .int .u8 0, .int .u8 0] : Array Value).size = (w8 own).size) := Lib.hid (by rw [w8_size, hK.len]; rfl)
  obtain ⟨kx, hkx⟩ : ∃ kx, kx = padUp own x 64 := ⟨_, rfl⟩
  have hkl : kx.length = 64 := by rw [hkx, padUp_len, hK.len]
  obtain ⟨m, hm⟩ : ∃ m, m = macIn F R own x b := ⟨_, rfl⟩
  have hml : m.length = 32 := by rw [hm]; exact macIn_len _ _ _ _ _
  rw [← hm]
  rw [macIn, ← hkx] at hm
  have Hkx := Lib.hid hkx
  have Hm := Lib.hid hm
  have Hkl := Lib.hid hkl
  have Hszm : Hid ((Tryd.prog.info? 45).map (·.size) = some (w8 m).size) := Lib.hid (by rw [w8_size, hml]; kernel_rfl)
  clear hkx hkl hm
  obtain ⟨z32, hz32⟩ : ∃ z32 : Array Value, z32 = #[.int .u8 0, .int .u8 0, .int .u8 0, .int .u8 0, .int .u8 0, .int .u8 0, .int .u8 0, .int .u8 0, .int .u8 0, .int .u8 0, .int .u8 0, .int .u8 0, .int .u8 0, .int .u8 0, .int .u8 0, .int .u8 0, .int .u8 0, .int .u8 0, .int .u8 0, .int .u8 0, .int .u8 0, .int .u8 0, .int .u8 0, .int .u8 0, .int .u8 0, .int .u8 0, .int .u8 0, .int .u8 0, .int .u8 0, .int .u8 0, .int .u8 0, .int .u8 0] := ⟨_, rfl⟩
  obtain ⟨w1, hw1⟩ : ∃ w1, w1 = ((w.alloc (.cells z32 45)).alloc (.cells #[.int .u8 0, .int .u8 0, .int .u8 0, .int .u8 0, .int .u8 0, .int .u8 0, .int .u8 0, .int .u8 0, .int .u8 0, .int .u8 0, .int .u8 0, .int .u8 0, .int .u8 0, .int .u8 0, .int .u8 0, .int .u8 0, .int .u8 0, .int .u8 0, .int .u8 0, .int .u8 0, .int .u8 0, .int .u8 0, .int .u8 0, .int .u8 0, .int .u8 0, .int .u8 0, .int .u8 0, .int .u8 0, .int .u8 0, .int .u8 0, .int .u8 0, .int .u8 0, .int .u8 0, .int .u8 0, .int .u8 0, .int .u8 0, .int .u8 0, .int .u8 0, .int .u8 0, .int .u8 0, .int .u8 0, .int .u8 0, .int .u8 0, .int .u8 0, .int .u8 0, .int .u8 0, .int .u8 0, .int .u8 0, .int .u8 0, .int .u8 0, .int .u8 0, .int .u8 0, .int .u8 0, .int .u8 0, .int .u8 0, .int .u8 0, .int .u8 0, .int .u8 0, .int .u8 0, .int .u8 0, .int .u8 0, .int .u8 0, .int .u8 0, .int .u8 0] 136)).setRow (w.heap.size + 1) (w8 own) := ⟨_, rfl⟩
  have hz1 : ((w.alloc (.cells z32 45)).alloc (.cells #[.int .u8 0, .int .u8 0, .int .u8 0, .int .u8 0, .int .u8 0, .int .u8 0, .int .u8 0, .int .u8 0, .int .u8 0, .int .u8 0, .int .u8 0, .int .u8 0, .int .u8 0, .int .u8 0, .int .u8 0, .int .u8 0, .int .u8 0, .int .u8 0, .int .u8 0, .int .u8 0, .int .u8 0, .int .u8 0, .int .u8 0, .int .u8 0, .int .u8 0, .int .u8 0, .int .u8 0, .int .u8 0, .int .u8 0, .int .u8 0, .int .u8 0, .int .u8 0, .int .u8 0, .int .u8 0, .int .u8 0, .int .u8 0, .int .u8 0, .int .u8 0, .int .u8 0, .int .u8 0, .int .u8 0, .int .u8 0, .int .u8 0, .int .u8 0, .int .u8 0, .int .u8 0, .int .u8 0, .int .u8 0, .int .u8 0, .int .u8 0, .int .u8 0, .int .u8 0, .int .u8 0, .int .u8 0, .int .u8 0, .int .u8 0, .int .u8 0, .int .u8 0, .int .u8 0, .int .u8 0, .int .u8 0, .int .u8 0, .int .u8 0, .int .u8 0] 136)).heap[w.heap.size + 1]? = some (.cells #[.int .u8 0, .int .u8 0, .int .u8 0, .int .u8 0, .int .u8 0, .int .u8 0, .int .u8 0, .int .u8 0, .int .u8 0, .int .u8 0, .int .u8 0, .int .u8 0, .int .u8 0, .int .u8 0, .int .u8 0, .int .u8 0, .int .u8 0, .int .u8 0, .int .u8 0, .int .u8 0, .int .u8 0, .int .u8 0, .int .u8 0, .int .u8 0, .int .u8 0, .int .u8 0, .int .u8 0, .int .u8 0, .int .u8 0, .int .u8 0, .int .u8 0, .int .u8 0, .int .u8 0, .int .u8 0, .int .u8 0, .int .u8 0, .int .u8 0, .int .u8 0, .int .u8 0, .int .u8 0, .int .u8 0, .int .u8 0, .int .u8 0, .int .u8 0, .int .u8 0, .int .u8 0, .int .u8 0, .int .u8 0, .int .u8 0, .int .u8 0, .int .u8 0, .int .u8 0, .int .u8 0, .int .u8 0, .int .u8 0, .int .u8 0, .int .u8 0, .int .u8 0, .int .u8 0, .int .u8 0, .int .u8 0, .int .u8 0, .int .u8 0, .int .u8 0] 136 (0, 0)) := new_at (by simp)
  have Hz1 := Lib.hid hz1
  have hB1 : Below w.heap.size w w1 := by rw [hw1]; exact below_setRow (((Below.refl _ _).alloc (Nat.le_refl _) _).alloc (by simp) _) (by omega) _
  have h10 : w1.heap[w.heap.size]? = some (.cells z32 45 (0, 0)) := by rw [hw1, setRow_other _ _ _ _ (by omega)]; exact blk_alloc (new_at rfl) _
  have h11 : w1.heap[w.heap.size + 1]? = some (.cells (w8 (padUp own x 0)) 136 (0, 0)) := by rw [hw1]; exact setRow_heap _ _ _ _ _ _ hz1
  have Hz32 : Hid (z32.size = 32) := Lib.hid (by rw [hz32]; rfl)
  have Holdm : Hid (z32.size = (w8 m).size) := Lib.hid (by rw [w8_size, hml]; exact Hz32.out)
  clear hml
  have HB1 := Lib.hid hB1
  have H10 := Lib.hid h10
  have H11 := Lib.hid h11
  have Hw1 := Lib.hid hw1
  have hob : ob < w.heap.size := blk_lt hK.o
  have hxb : xb < w.heap.size := blk_lt hK.x
  have Hbx : Hid ((w.alloc (.cells z32 45)).heap[ob]? = some (.cells (w8 own) 136 (0, 0))) := Lib.hid (blk_alloc hK.o _)
  clear hT hK hr hn hB1 h10 h11 hw1 hz1
  go_enter Tryd.func64, Tryd.ntmps64
  go_upto_region 1 with (fail)
  rw [← hz32]
  clear hz32
  go_upto_region 2 with (first
    | (with_reducible refine wpList_load_row rfl 136 _ rfl ob rfl _ _ (0, 0) _ Hbx.out Tryd.underlying136 rfl Hszo.out ?_)
    | (with_reducible refine wpList_store_row rfl 136 _ _ rfl (w.heap.size + 1) _ rfl rfl _ _ Hz1.out Hszo.out Holdo.out (w8_one _) ?_))
  try simp only [Act.put]
  rw [← Hw1.out]
  clear Hw1 Hbx Holdo Hz1
  go_wp2
  go_loopw [8] (fun i wr => ∃ k : Nat, k ≤ 64 ∧ i = .int .i64 k ∧ Hid (wr.heap[w.heap.size]? = some (.cells z32 45 (0, 0))) ∧ Hid (wr.heap[w.heap.size + 1]? = some (.cells (w8 (padUp own x k)) 136 (0, 0))) ∧ Hid (Below w.heap.size w wr))
    (fun i _ => 64 - (intOf i).toNat)
  case atStart => exact ⟨0, by omega, rfl, H10, H11, HB1⟩
  case round =>
    clear H10 H11 HB1
    obtain ⟨k, hk, rfl, H0, H1, HB⟩ := hrel
    by_cases hlt : k < 64
    · obtain ⟨u, hu⟩ : ∃ u, u = (padUp own x k).getD k 0 := ⟨_, rfl⟩
      have c1 := cell_w8 H1.out k (by rw [padUp_len, HK.out.len]; exact hlt)
      have f1 := frozen_row H1.out k
      have cx := blk_cell (v := .int .u8 x) (HK.out.below HB.out).x 0 rfl
      rw [← hu] at c1
      have Hu := Lib.hid hu
      clear hu
      go_upto_region 5 with (fail)
      refine wp_region_quiet_tail_lit 6 (by kernel_rfl) (by kernel_rfl) ?_
      simp only [List.take_succ_cons, List.take_zero, List.drop_succ_cons, List.drop_zero]
      repeat (go_big_quiet_step (fail))
      refine wpQuiet_nil ?_
      rintro _ ⟨nq, rfl⟩
      go_wp2
      go_roundw
      case rel =>
        refine ⟨k + 1, by omega, by go_num, Lib.hid (blk_far (w := wr.drewN nq) H0.out (by simp) _), Lib.hid ?_, Lib.hid ((below_drewN HB.out nq).setCell (by simp) _)⟩
        rw [padUp, ← Hu.out]
        exact set_w8 (W := wr.drewN nq) H1.out k _
      case measure => simp [intOf]; omega
    · obtain rfl : k = 64 := by omega
      rw [← Hkx.out] at H1
      go_upto_region 7 with (fail)
      refine seg_begin (fun _ => True) [] (by kernel_rfl) ?_
      have HBd : Hid (Below w.heap.size w wr.drew) := Lib.hid HB.out.drew
      have H0d : Hid (wr.drew.heap[w.heap.size]? = some (.cells z32 45 (0, 0))) := Lib.hid H0.out
      have H1d : Hid (wr.drew.heap[w.heap.size + 1]? = some (.cells (w8 kx) 136 (0, 0))) := Lib.hid H1.out
      clear H0 H1 HB
      generalize wr.drew = wd at *
      (refine seg_take 1 ?_ rfl (by kernel_rfl) (by kernel_rfl) (by kernel_rfl) (by kernel_rfl) (by kernel_rfl) rfl (fun _ _ _ h => h) rfl ?_ ?_; rotate_left; (focus (intro w; go_simp; try with_reducible rfl)); (try simp only [List.getElem_toArray, List.getElem_cons_zero, List.getElem_cons_succ, Act.put, List.setIfInBounds_toArray, List.set_cons_zero, List.set_cons_succ]); refine seg_take 3 ?_ rfl (by kernel_rfl) (by kernel_rfl) (by kernel_rfl) (by kernel_rfl) (by kernel_rfl) rfl (fun _ _ _ h => h) rfl ?_ ?_; rotate_left; (focus (intro w; go_simp; try with_reducible rfl)); (try simp only [List.getElem_toArray, List.getElem_cons_zero, List.getElem_cons_succ, Act.put, List.setIfInBounds_toArray, List.set_cons_zero, List.set_cons_succ]))
      (refine seg_rest [0, 2, 4, 5, 6] _ _ _ (by kernel_rfl) ?_ _ rfl)
      (refine segs_out rfl ?_; (simp only [pick, List.getElem?_toArray, List.getElem_toArray, List.getElem_cons_zero, List.getElem_cons_succ, List.getElem?_cons_zero, List.getElem?_cons_succ, Act.put, List.setIfInBounds_toArray, List.set_cons_zero, List.set_cons_succ]))
      have hs0 : w.heap.size + 1 < wd.heap.size := blk_lt H1d.out
      go_wp2_with (first
        | (go_at_call 65; go_must (refine (sha_new2 _).mono ?_; rintro e w2 ⟨rfl, h1, h2⟩; have Hn2 := Lib.hid h1; have HB2 : Hid (Below w.heap.size w w2) := Lib.hid (HBd.out.trans (h2.mono HBd.out.size)); have Hs2 := Lib.hid h2; have Hrk : Hid (Rd w2 (some ⟨w.heap.size + 1, 0, none⟩) 64 kx) := Lib.hid ⟨by rw [Hkl.out]; omega, by omega, by simp, fun _ => ⟨_, 0, rfl, fun j hj => by rw [Nat.zero_add]; exact cell_w8 (below_at h2 H1d.out (blk_lt H1d.out)) j hj⟩⟩; clear h1 h2))
        | (go_at_call_of 66 (Value.slice A n c); go_must (refine (hwrite_any F R wd.heap.size _ _ _ A c n b w3 (HT.out.below HB3.out) Hn3.out Hn.out (Hr.out.below HB3.out) (by have := hLeft_len [] kx; have := Hn.out; omega) (by omega) (by omega) (by have := Hg.out; have := HBd.out.size; omega)).mono ?_; rintro e w4 ⟨rfl, h1, h2⟩; have Hn4 := Lib.hid h1; have Hk4 := Lib.hid h2; clear h1 h2; have HB4 : Hid (Below w.heap.size w w4) := Lib.hid (((Kp.of_below HB3.out).trans Hk4.out (T := [wd.heap.size]) (S := []) (by have := HBd.out.size; simp <;> omega)).nil)))
        | (go_at_call 66; go_must (refine (hwrite_any F R wd.heap.size _ _ _ (some ⟨w.heap.size + 1, 0, none⟩) 64 64 kx w2 (HT.out.below HB2.out) Hn2.out Hkl.out.symm Hrk.out (by simp [Hkl.out]) (by omega) (by omega) (by have := Hg.out; have := HBd.out.size; omega)).mono ?_; rintro e w3 ⟨rfl, h1, h2⟩; rw [Hkl.out, show (0 : Int) + ((64 : Nat) : Int) = 64 from rfl] at h1; have Hn3 := Lib.hid h1; have Hk3 := Lib.hid h2; clear h1 h2; have HB3 : Hid (Below w.heap.size w w3) := Lib.hid (((Kp.of_below HB2.out).trans Hk3.out (T := [wd.heap.size]) (S := []) (by have := HBd.out.size; simp <;> omega)).nil)))
        | (go_at_call 67; go_must (refine (hsum_any F R wd.heap.size _ _ _ w4 (HT.out.below HB4.out) Hn4.out (by have := hLeft_len (hLeft [] kx) b; omega) (by omega) (by have := Hn.out; omega)).mono ?_; rintro e w5 ⟨he, h2⟩; obtain rfl : e = .returned (.agg (w8 m)) := (by rw [he, Hm.out]); have HB5 : Hid (Below w.heap.size w w5) := Lib.hid (HB4.out.trans (h2.mono HB4.out.size)); have e1 := below_at Hs2.out H0d.out (blk_lt H0d.out); have e2 := Hk3.out.at_ e1 (by simp <;> omega); have e3 := Hk4.out.at_ e2 (by simp <;> omega); have H5 := Lib.hid (below_at h2 e3 (blk_lt e3)); clear e1 e2 e3; clear h2 he))
        | (with_reducible refine wpList_store_row rfl 45 _ _ rfl w.heap.size _ rfl rfl _ _ H5.out Hszm.out Holdm.out (w8_one _) ?_))
      refine bodyPost_ret (results_cell_row Tryd.results64 _ _ w.heap.size _ _ (0, 0) _ rfl (setRow_heap _ _ _ _ _ _ H5.out) Tryd.underlying45 rfl Hszm.out) rfl ⟨rfl, ?_⟩
      exact below_setRow HB5.out (Nat.le_refl _) _
theorem padmk_any (ob : Nat) (x : Int) (w : World) : Calls Tryd.prog 63 #[.int .u8 x, .pointer (some ⟨ob, 0, none⟩)] w fun e w' => e = .returned (.func (.func 64) #[] #[.pointer (some ⟨ob, 0, none⟩), .pointer (some ⟨w.heap.size, 0, none⟩)]) ∧ w' = w.alloc (.cells #[.int .u8 x] 5) := by
  go_enter Tryd.func63, Tryd.ntmps63
  go_wp2
  go_ret
  exact ⟨rfl, rfl⟩
/-- A key, as it is padded. -/
def padKey (F R key : List Int) : List Int := if 64 < key.length then shaSum F R key else key
def padOwn (F R key : List Int) : List Int := padKey F R key ++ List.replicate (64 - (padKey F R key).length) 0
theorem padKey_len (F R key : List Int) : (padKey F R key).length ≤ 64 := by
  unfold padKey
  split
  · rw [shaSum_len]; omega
  · omega
theorem padOwn_len (F R key : List Int) : (padOwn F R key).length = 64 := by
  have := padKey_len F R key
  rw [padOwn, List.length_append, List.length_replicate]; omega
end Go.Proofs.YtiboflejmnjdhaaDoor
end
section
set_option linter.unusedVariables false
set_option linter.unusedSimpArgs false
set_option maxRecDepth 100000
namespace Go.Proofs.YtiboflejmnjdhaaDoor
open Go Go.RowKit Go.Shelf
attribute [local go_sem] Oper.semAt_some
set_option maxHeartbeats 1000000 in
theorem pads_any (F R : List Int) (A : Option Addr) (n c : Nat) (key : List Int) (hn : n = key.length) (hn2 : n ≤ 1000000) (w : World) (hT : Tabs F R w) (hr : Rd w A c key) :
    Calls Tryd.prog 39 #[.slice A n c] w fun e w' => ∃ ob x1 x2, e = .returned (.tuple #[.func (.func 64) #[] #[.pointer (some ⟨ob, 0, none⟩), .pointer (some ⟨x1, 0, none⟩)], .func (.func 64) #[] #[.pointer (some ⟨ob, 0, none⟩), .pointer (some ⟨x2, 0, none⟩)]]) ∧
      PadK w' ob x1 (padOwn F R key) 54 ∧ PadK w' ob x2 (padOwn F R key) 92 ∧ Below w.heap.size w w' := by
  have HT := Lib.hid hT
  have Hr := Lib.hid hr
  have Hn := Lib.hid hn
  clear hT hr hn
  obtain ⟨k, hk⟩ : ∃ k, k = padKey F R key := ⟨_, rfl⟩
  have hkl : k.length ≤ 64 := by rw [hk]; exact padKey_len F R key
  have Hk := Lib.hid hk
  clear hk
  go_enter Tryd.func39, Tryd.ntmps39
  go_upto_if 9 with (fail)
  go_cut [0, 4] from 9 to 12 (fun s0 s4 wx => ∃ A1 m c1, s0 = .slice A1 m c1 ∧ m = k.length ∧ Hid (Rd wx A1 c1 k) ∧ Hid (Below w.heap.size w wx))
  case first =>
    by_cases h64 : 64 < n
    · have hke : k = shaSum F R key := by rw [Hk.out, padKey, if_pos (by rw [← Hn.out]; exact h64)]
      have hsl : (shaSum F R key).length = 32 := shaSum_len _ _ _
      obtain ⟨d, hd⟩ : ∃ d, d = shaSum F R key := ⟨_, rfl⟩
      rw [← hd] at hke hsl
      have Hsz : Hid ((Tryd.prog.info? 45).map (·.size) = some (w8 d).size) := Lib.hid (by rw [w8_size, hsl]; kernel_rfl)
      have Hold : Hid ((#[.int .u8 0, .int .u8 0, .int .u8 0, .int .u8 0, .int .u8 0, .int .u8 0, .int .u8 0, .int .u8 0, .int .u8 0, .int .u8 0, .int .u8 0, .int .u8 0, .int .u8 0, .int .u8 0, .int .u8 0, .int .u8 0, .int .u8 0, .int .u8 0, .int .u8 0, .int .u8 0, .int .u8 0, .int .u8 0, .int .u8 0, .int .u8 0, .int .u8 0, .int .u8 0, .int .u8 0, .int .u8 0, .int .u8 0, .int .u8 0, .int .u8 0, .int .u8 0] : Array Value).size = (w8 d).size) := Lib.hid (by rw [w8_size, hsl]; rfl)
      have Hsum : Hid (Calls Tryd.prog 62 #[.slice A n c] w fun e w' => e = .returned (.agg (w8 d)) ∧ Below w.heap.size w w') := Lib.hid (by rw [hd]; exact sum_any F R A c n key w HT.out Hn.out Hr.out (by have := Hn.out; omega))
      have Hke := Lib.hid hke
      have Hsl := Lib.hid hsl
      clear hke hsl hd
      go_wp2_with (first
        | (go_at_call 62; go_must (refine Hsum.out.mono ?_; rintro e w1 ⟨rfl, hb1⟩; have Hb1 := Lib.hid hb1; clear hb1))
        | (with_reducible refine wpList_store_new rfl 45 _ _ rfl _ rfl rfl 45 _ Hsz.out Hold.out (w8_one _) ?_))
      go_meet
      refine ⟨_, _, _, rfl, by rw [Hke.out, Hsl.out], Lib.hid ?_, Lib.hid (Hb1.out.alloc Hb1.out.size _)⟩
      rw [Hke.out]
      exact ⟨by rw [Hsl.out]; omega, by omega, by simp, fun _ => ⟨_, 0, rfl, fun j hj => by rw [Nat.zero_add]; exact cell_w8 (new_at rfl) j hj⟩⟩
    · have hke : k = key := by rw [Hk.out, padKey, if_neg (by rw [← Hn.out]; exact h64)]
      have Hke := Lib.hid hke
      clear hke
      go_wp2
      go_meet
      exact ⟨_, _, _, rfl, by rw [Hke.out]; exact Hn.out, Lib.hid (by rw [Hke.out]; exact Hr.out), Lib.hid (Below.refl _ _)⟩
  case rest =>
    rename World => wx
    obtain ⟨A1, m, c1, rfl, hm, Hr1, Hb⟩ := hcut
    have Hm := Lib.hid hm
    have hm64 : m ≤ 64 := by omega
    have Hcb : Hid (Below wx.heap.size wx (wx.alloc (.cells (w8 (List.replicate 64 0)) 136))) := Lib.hid ((Below.refl _ _).alloc (Nat.le_refl _) _)
    have Hr2 : Hid (Rd (wx.alloc (.cells (w8 (List.replicate 64 0)) 136)) A1 c1 k) := Lib.hid (Hr1.out.below Hcb.out)
    have Hcur : Hid ((wx.alloc (.cells (w8 (List.replicate 64 0)) 136)).heap[wx.heap.size]? = some (.cells (w8 (List.replicate 64 0)) 136 (0, 0))) := Lib.hid (new_at rfl)
    clear hm
    go_upto_region 5 with (fail)
    simp only [show (#[.int .u8 0, .int .u8 0, .int .u8 0, .int .u8 0, .int .u8 0, .int .u8 0, .int .u8 0, .int .u8 0, .int .u8 0, .int .u8 0, .int .u8 0, .int .u8 0, .int .u8 0, .int .u8 0, .int .u8 0, .int .u8 0, .int .u8 0, .int .u8 0, .int .u8 0, .int .u8 0, .int .u8 0, .int .u8 0, .int .u8 0, .int .u8 0, .int .u8 0, .int .u8 0, .int .u8 0, .int .u8 0, .int .u8 0, .int .u8 0, .int .u8 0, .int .u8 0, .int .u8 0, .int .u8 0, .int .u8 0, .int .u8 0, .int .u8 0, .int .u8 0, .int .u8 0, .int .u8 0, .int .u8 0, .int .u8 0, .int .u8 0, .int .u8 0, .int .u8 0, .int .u8 0, .int .u8 0, .int .u8 0, .int .u8 0, .int .u8 0, .int .u8 0, .int .u8 0, .int .u8 0, .int .u8 0, .int .u8 0, .int .u8 0, .int .u8 0, .int .u8 0, .int .u8 0, .int .u8 0, .int .u8 0, .int .u8 0, .int .u8 0, .int .u8 0] : Array Value) = w8 (List.replicate 64 0) from rfl]
    go_wp2_with (first
      | (refine wp_copy8 rfl (.tmp 13) (.tmp 14) rfl wx.heap.size 64 64 rfl A1 m c1 rfl k Hm.out Hr2.out (List.replicate 64 0) 136 Hcur.out (by decide) hm64 wx.heap.size wx Hcb.out (Nat.le_refl _) ?_; intro w3 hw3 hb3; have Hw3 := Lib.hid hw3; have HB3 := Lib.hid hb3; clear hw3 hb3)
      | (go_at_call_of 63 (Value.int IntKind.u8 54); go_must (refine (padmk_any _ 54 _).mono ?_; rintro e w4 ⟨rfl, h4⟩; have Hw4 := Lib.hid h4; clear h4))
      | (go_at_call 63; go_must (refine (padmk_any _ 92 _).mono ?_; rintro e w5 ⟨rfl, h5⟩; have Hw5 := Lib.hid h5; clear h5)))
    go_ret2
    have ho : w3.heap[wx.heap.size]? = some (.cells (w8 (padOwn F R key)) 136 (0, 0)) := by
      rw [Hw3.out, padOwn, ← Hk.out, List.drop_replicate]
    have hpl := padOwn_len F R key
    have hb4 : Below w3.heap.size w3 w4 := by rw [Hw4.out]; exact (Below.refl _ _).alloc (Nat.le_refl _) _
    have hb5 : Below w4.heap.size w4 w5 := by rw [Hw5.out]; exact (Below.refl _ _).alloc (Nat.le_refl _) _
    have ho4 := below_at hb4 ho (blk_lt ho)
    have hx4 : w4.heap[w3.heap.size]? = some (.cells #[.int .u8 54] 5 (0, 0)) := by rw [Hw4.out]; exact new_at rfl
    have hx5 : w5.heap[w4.heap.size]? = some (.cells #[.int .u8 92] 5 (0, 0)) := by rw [Hw5.out]; exact new_at rfl
    refine ⟨_, _, _, rfl, ⟨below_at hb5 ho4 (blk_lt ho4), below_at hb5 hx4 (blk_lt hx4), hpl⟩, ⟨below_at hb5 ho4 (blk_lt ho4), hx5, hpl⟩, ?_⟩
    have h1 := Hb.out.size
    have h2 := HB3.out.size
    exact Hb.out.trans ((HB3.out.trans ((hb4.trans (hb5.mono hb4.size)).mono h2)).mono h1)
/-- A mac. -/
def mac (F R key b : List Int) : List Int := macIn F R (padOwn F R key) 92 (macIn F R (padOwn F R key) 54 b)
theorem mac_len (F R key b : List Int) : (mac F R key b).length = 32 := macIn_len _ _ _ _ _
set_option maxHeartbeats 1000000 in
theorem mac_any (F R : List Int) (A : Option Addr) (n c : Nat) (key : List Int) (hn : n = key.length) (hn2 : n ≤ 1000000) (B : Option Addr) (m d : Nat) (b : List Int) (hm : m = b.length) (hm2 : m ≤ 1000000) (w : World) (hT : Tabs F R w) (hr : Rd w A c key) (hb : Rd w B d b) :
    Calls Tryd.prog 18 #[.slice A n c, .slice B m d] w fun e w' => e = .returned (.agg (w8 (mac F R key b))) ∧ Below w.heap.size w w' := by
  have HT := Lib.hid hT
  have Hr := Lib.hid hr
  have Hb := Lib.hid hb
  have Hn := Lib.hid hn
  have Hm := Lib.hid hm
  clear hT hr hb hn hm
  obtain ⟨own, hown⟩ : ∃ own, own = padOwn F R key := ⟨_, rfl⟩
  obtain ⟨d1, hd1⟩ : ∃ d1, d1 = macIn F R own 54 b := ⟨_, rfl⟩
  obtain ⟨d2, hd2⟩ : ∃ d2, d2 = macIn F R own 92 d1 := ⟨_, rfl⟩
  have hd : mac F R key b = d2 := by rw [hd2, hd1, hown]; rfl
  have hl1 : d1.length = 32 := by rw [hd1]; exact macIn_len _ _ _ _ _
  have hl2 : d2.length = 32 := by rw [hd2]; exact macIn_len _ _ _ _ _
  rw [hd]
  have Hp := Lib.hid (pads_any F R A n c key Hn.out hn2)
  rw [← hown] at Hp
  have H1 : Hid (∀ ob x1 W, Tabs F R W → PadK W ob x1 own 54 → Rd W B d b → Calls Tryd.prog 64 #[.slice B m d, .pointer (some ⟨ob, 0, none⟩), .pointer (some ⟨x1, 0, none⟩)] W fun e w' => e = .returned (.agg (w8 d1)) ∧ Below W.heap.size W w') := Lib.hid (fun ob x1 W h1 h2 h3 => by
    rw [hd1]; exact padfn_any F R ob x1 own 54 B m d b Hm.out hm2 W h1 h2 h3)
  have H2 : Hid (∀ ob x2 W B d, Tabs F R W → PadK W ob x2 own 92 → Rd W B d d1 → Calls Tryd.prog 64 #[.slice B 32 d, .pointer (some ⟨ob, 0, none⟩), .pointer (some ⟨x2, 0, none⟩)] W fun e w' => e = .returned (.agg (w8 d2)) ∧ Below W.heap.size W w') := Lib.hid (fun ob x2 W B d h1 h2 h3 => by
    rw [hd2]; exact padfn_any F R ob x2 own 92 B 32 d d1 hl1.symm (by omega) W h1 h2 h3)
  have Hsz1 : Hid ((Tryd.prog.info? 45).map (·.size) = some (w8 d1).size) := Lib.hid (by rw [w8_size, hl1]; kernel_rfl)
  have Hsz2 : Hid ((Tryd.prog.info? 45).map (·.size) = some (w8 d2).size) := Lib.hid (by rw [w8_size, hl2]; kernel_rfl)
  have Hold1 : Hid ((#[.int .u8 0, .int .u8 0, .int .u8 0, .int .u8 0, .int .u8 0, .int .u8 0, .int .u8 0, .int .u8 0, .int .u8 0, .int .u8 0, .int .u8 0, .int .u8 0, .int .u8 0, .int .u8 0, .int .u8 0, .int .u8 0, .int .u8 0, .int .u8 0, .int .u8 0, .int .u8 0, .int .u8 0, .int .u8 0, .int .u8 0, .int .u8 0, .int .u8 0, .int .u8 0, .int .u8 0, .int .u8 0, .int .u8 0, .int .u8 0, .int .u8 0, .int .u8 0] : Array Value).size = (w8 d1).size) := Lib.hid (by rw [w8_size, hl1]; rfl)
  have Hold2 : Hid ((#[.int .u8 0, .int .u8 0, .int .u8 0, .int .u8 0, .int .u8 0, .int .u8 0, .int .u8 0, .int .u8 0, .int .u8 0, .int .u8 0, .int .u8 0, .int .u8 0, .int .u8 0, .int .u8 0, .int .u8 0, .int .u8 0, .int .u8 0, .int .u8 0, .int .u8 0, .int .u8 0, .int .u8 0, .int .u8 0, .int .u8 0, .int .u8 0, .int .u8 0, .int .u8 0, .int .u8 0, .int .u8 0, .int .u8 0, .int .u8 0, .int .u8 0, .int .u8 0] : Array Value).size = (w8 d2).size) := Lib.hid (by rw [w8_size, hl2]; rfl)
  have Hl1 := Lib.hid hl1
  have HB0 : Hid (Below w.heap.size w (w.alloc (.cells #[.int .u8 0, .int .u8 0, .int .u8 0, .int .u8 0, .int .u8 0, .int .u8 0, .int .u8 0, .int .u8 0, .int .u8 0, .int .u8 0, .int .u8 0, .int .u8 0, .int .u8 0, .int .u8 0, .int .u8 0, .int .u8 0, .int .u8 0, .int .u8 0, .int .u8 0, .int .u8 0, .int .u8 0, .int .u8 0, .int .u8 0, .int .u8 0, .int .u8 0, .int .u8 0, .int .u8 0, .int .u8 0, .int .u8 0, .int .u8 0, .int .u8 0, .int .u8 0] 45))) := Lib.hid ((Below.refl _ _).alloc (Nat.le_refl _) _)
  have Hz0 : Hid ((w.alloc (.cells #[.int .u8 0, .int .u8 0, .int .u8 0, .int .u8 0, .int .u8 0, .int .u8 0, .int .u8 0, .int .u8 0, .int .u8 0, .int .u8 0, .int .u8 0, .int .u8 0, .int .u8 0, .int .u8 0, .int .u8 0, .int .u8 0, .int .u8 0, .int .u8 0, .int .u8 0, .int .u8 0, .int .u8 0, .int .u8 0, .int .u8 0, .int .u8 0, .int .u8 0, .int .u8 0, .int .u8 0, .int .u8 0, .int .u8 0, .int .u8 0, .int .u8 0, .int .u8 0] 45)).heap[w.heap.size]? = some (.cells #[.int .u8 0, .int .u8 0, .int .u8 0, .int .u8 0, .int .u8 0, .int .u8 0, .int .u8 0, .int .u8 0, .int .u8 0, .int .u8 0, .int .u8 0, .int .u8 0, .int .u8 0, .int .u8 0, .int .u8 0, .int .u8 0, .int .u8 0, .int .u8 0, .int .u8 0, .int .u8 0, .int .u8 0, .int .u8 0, .int .u8 0, .int .u8 0, .int .u8 0, .int .u8 0, .int .u8 0, .int .u8 0, .int .u8 0, .int .u8 0, .int .u8 0, .int .u8 0] 45 (0, 0))) := Lib.hid (new_at rfl)
  clear hown hd1 hd2 hd hl1 hl2
  go_enter Tryd.func18, Tryd.ntmps18
  go_wp2_with (first
    | (go_at_call 39; go_must (refine (Hp.out _ (HT.out.below HB0.out) (Hr.out.below HB0.out)).mono ?_; rintro e w1 ⟨ob, x1, x2, rfl, hp1, hp2, hb1⟩; have Hp1 := Lib.hid hp1; have Hp2 := Lib.hid hp2; have HB1 : Hid (Below w.heap.size w w1) := Lib.hid (HB0.out.trans (hb1.mono HB0.out.size)); have Hz1 := Lib.hid (below_at hb1 Hz0.out (blk_lt Hz0.out)); clear hp1 hp2 hb1))
    | (go_at_call_of 64 (Value.slice B m d); go_must (refine (H1.out _ _ _ (HT.out.below HB1.out) Hp1.out (Hb.out.below HB1.out)).mono ?_; rintro e w2 ⟨rfl, hb2⟩; have HB2 : Hid (Below w.heap.size w w2) := Lib.hid (HB1.out.trans (hb2.mono HB1.out.size)); have Hp3 := Lib.hid (Hp2.out.below hb2); have Hz2 := Lib.hid (below_at hb2 Hz1.out (blk_lt Hz1.out)); clear hb2))
    | (with_reducible refine wpList_store_new rfl 45 _ _ rfl _ rfl rfl 45 _ Hsz1.out Hold1.out (w8_one _) ?_)
    | (go_at_call 64; go_must (refine (H2.out _ _ _ _ _ ((HT.out.below HB2.out).below ((Below.refl _ _).alloc (Nat.le_refl _) _)) (Hp3.out.below ((Below.refl _ _).alloc (Nat.le_refl _) _)) ⟨by rw [Hl1.out]; omega, by omega, by simp, fun _ => ⟨_, 0, rfl, fun j hj => by rw [Nat.zero_add]; exact cell_w8 (new_at rfl) j hj⟩⟩).mono ?_; rintro e w3 ⟨rfl, hb3⟩; have HB3 : Hid (Below w.heap.size w w3) := Lib.hid ((HB2.out.alloc HB2.out.size _).trans (hb3.mono (by have := HB2.out.size; simp; omega))); have Hz3 := Lib.hid (below_at hb3 (blk_alloc Hz2.out _) (by have := blk_lt Hz2.out; simp; omega)); clear hb3))
    | (with_reducible refine wpList_store_row rfl 45 _ _ rfl w.heap.size _ rfl rfl _ _ Hz3.out Hsz2.out Hold2.out (w8_one _) ?_))
  refine bodyPost_ret (results_cell_row Tryd.results18 _ _ w.heap.size _ _ (0, 0) _ rfl (setRow_heap _ _ _ _ _ _ Hz3.out) Tryd.underlying45 rfl Hsz2.out) rfl ⟨rfl, ?_⟩
  exact below_setRow HB3.out (Nat.le_refl _) _
end Go.Proofs.YtiboflejmnjdhaaDoor
end
