/- The block cipher: Rounds, Block. -/
import Derived.Test.YtiboflejmnjdhaaDoorJR
import Derived.Test.YtiboflejmnjdhaaDoorJK
import Derived.Deep.Cut
import Derived.Deep.CutRange
import Derived.Deep.CutBlock
set_option linter.unusedVariables false
set_option linter.unusedSimpArgs false
set_option maxRecDepth 100000
namespace Go.Proofs.YtiboflejmnjdhaaDoor
open Go Go.RowKit
/-- a, the first k bytes of which went through the box, in their places. -/
def subUp (a : List Int) : Nat → List Int
  | 0 => List.replicate 16 0
  | k + 1 => (subUp a k).set k (aesBox.getD (a.getD ((k + 4 * (k % 4)) % 16) 0).toNat 0)
theorem subUp_len (a : List Int) : ∀ k, (subUp a k).length = 16
  | 0 => by simp [subUp]
  | k + 1 => by simp [subUp, subUp_len a k]
def colAll (b : List Int) (i : Nat) : Int := x8 (x8 (x8 (b.getD i 0) (b.getD (i + 1) 0)) (b.getD (i + 2) 0)) (b.getD (i + 3) 0)
/-- A column under way: j bytes of it are mixed. -/
def mixJ (b : List Int) (i : Nat) (all first : Int) : Nat → List Int
  | 0 => b
  | j + 1 => (mixJ b i all first j).set (i + j) (x8 ((mixJ b i all first j).getD (i + j) 0) (x8 all (double8 (x8 ((mixJ b i all first j).getD (i + j) 0) (if j < 3 then (mixJ b i all first j).getD (i + j + 1) 0 else first)))))
theorem mixJ_len (b : List Int) (i : Nat) (all first : Int) : ∀ j, (mixJ b i all first j).length = b.length
  | 0 => rfl
  | j + 1 => by simp [mixJ, mixJ_len b i all first j]
def mixUp (b : List Int) : Nat → List Int
  | 0 => b
  | c + 1 => mixJ (mixUp b c) (4 * c) (colAll (mixUp b c) (4 * c)) ((mixUp b c).getD (4 * c) 0) 4
theorem mixUp_len (b : List Int) : ∀ c, (mixUp b c).length = b.length
  | 0 => rfl
  | c + 1 => by rw [mixUp, mixJ_len, mixUp_len b c]
def rndB (a : List Int) (r : Nat) : List Int := if r < 9 then mixUp (subUp a 16) 4 else subUp a 16
theorem rndB_len (a : List Int) (r : Nat) : (rndB a r).length = 16 := by
  unfold rndB; split
  · rw [mixUp_len, subUp_len]
  · exact subUp_len _ _
/-- A block behind r rounds. -/
def rndA (K inp : List Int) : Nat → List Int
  | 0 => xorUp inp ((cKeys K).getD 0 []) 16
  | r + 1 => xorUp (rndB (rndA K inp r) r) ((cKeys K).getD (r + 1) []) 16
theorem rndA_len (K inp : List Int) (h : inp.length = 16) : ∀ r, (rndA K inp r).length = 16
  | 0 => by rw [rndA, xorUp_len, h]
  | r + 1 => by rw [rndA, xorUp_len, rndB_len]
theorem rndA_by8 (K inp : List Int) (h : inp.length = 16) : ∀ r, By8 (rndA K inp r)
  | 0 => by have := xorUp_by8 inp ((cKeys K).getD 0 []); rw [h] at this; exact this
  | r + 1 => by have := xorUp_by8 (rndB (rndA K inp r) r) ((cKeys K).getD (r + 1) []); rw [rndB_len] at this; exact this
def aesBlk (K inp : List Int) : List Int := rndA K inp 10
theorem aesBlk_len (K inp : List Int) (h : inp.length = 16) : (aesBlk K inp).length = 16 := rndA_len K inp h 10
theorem aesBlk_by8 (K inp : List Int) (h : inp.length = 16) : By8 (aesBlk K inp) := rndA_by8 K inp h 10
theorem crow_box (sv : Value) (j : Nat) (hj : j < 256) : (crow sv)[1 + j]? = some (.int .u8 (aesBox.getD j 0)) := by
  rw [crow, Array.getElem?_append_right (by simp)]
  simp only [List.size_toArray, List.length_cons, List.length_nil, Nat.zero_add, Nat.add_sub_cancel_left]
  exact w8_get _ _ (by rw [aesBox, boxUp_len]; exact hj)
theorem key_getD (K : List Int) (hK : K.length = 16) (j : Nat) (hj : j < 11) : ((cKeys K).getD j []).length = 16 := by
  have h : j < (cKeys K).length := by rw [cKeys_len]; exact hj
  rw [List.getD_eq_getElem?_getD, List.getElem?_eq_getElem h]
  exact cKeys_16 K hK _ (List.getElem_mem h)
theorem flat16_get (ks : List (List Int)) (h : ∀ k ∈ ks, k.length = 16) : ∀ (j i : Nat), j < ks.length → i < 16 → (flat16 ks)[j * 16 + i]? = some (.int .u8 ((ks.getD j []).getD i 0)) := by
  induction ks with
  | nil => intro j i hj; simp at hj
  | cons k ks ih =>
    intro j i hj hi
    have h1 := h k (by simp)
    have e : flat16 (k :: ks) = k.map (Value.int .u8) ++ flat16 ks := by simp [flat16]
    rw [e]
    cases j with
    | zero =>
      rw [Nat.zero_mul, Nat.zero_add, List.getElem?_append_left (by simp [h1]; exact hi)]
      simp [show i < k.length by omega]
    | succ j =>
      rw [List.getElem?_append_right (by simp [h1]; omega), List.length_map, h1, show (j + 1) * 16 + i - 16 = j * 16 + i by omega, ih (fun x hx => h x (by simp [hx])) j i (by simpa using hj) hi]
      simp
/-- What a cipher reads as. -/
structure CRead (w : World) (cb : Nat) (K : List Int) (g c : Nat) : Prop where
  c0 : w.cell? ⟨cb, 0, none⟩ = some (.slice (some ⟨g, 0, none⟩) 11 c)
  le : 11 ≤ c ∧ c ≤ 9223372036854775807
  key : ∀ j, j < 11 → w.rangeAt g (j * 16) (w8 ((cKeys K).getD j [])).toList
  box : ∀ j, j < 256 → w.cell? ⟨cb, 1 + j, none⟩ = some (.int .u8 (aesBox.getD j 0))
  lt : cb < w.heap.size ∧ g < w.heap.size
theorem IsC.read {w : World} {cb : Nat} {K : List Int} (h : IsC w cb K) (hK : K.length = 16) : ∃ g c, CRead w cb K g c := by
  obtain ⟨A, c, base, h1, h2⟩ := h
  have hl := cKeys_len K
  rcases h2.2 with ⟨_, h0⟩ | ⟨g, cap, cur, e, hb, hg, hle, hmx, hs, htk⟩
  · omega
  · injection e with e1 e2 e3
    subst e1 e3
    refine ⟨g, c, blk_cell h1 0 (crow_get _), ⟨by omega, by simpa [maxLen] using hmx⟩, fun j hj i v hv => ?_, fun j hj => blk_cell h1 _ (crow_box _ j hj), blk_lt h1, blk_lt hg⟩
    have hi : i < 16 := by
      have := (List.getElem?_eq_some_iff.1 hv).1
      rw [Array.length_toList, w8_size, key_getD K hK j hj] at this
      exact this
    have h3 := flat16_get (cKeys K) (cKeys_16 K hK) j i (by omega) hi
    rw [← htk, List.getElem?_take] at h3
    split at h3
    · have h4 : (w8 ((cKeys K).getD j []))[i]? = some v := by simpa using hv
      rw [w8_get _ _ (by rw [key_getD K hK j hj]; exact hi)] at h4
      rw [← h4]
      exact blk_cell hg _ (by simpa using h3)
    · cases h3
theorem CRead.below {w w' : World} {cb g c : Nat} {K : List Int} (h : CRead w cb K g c) (hB : Below w.heap.size w w') : CRead w' cb K g c :=
  ⟨(hB.cell (p := ⟨cb, 0, none⟩) h.lt.1).trans h.c0, h.le, fun j hj i v hv => (hB.cell (p := ⟨g, j * 16 + i, none⟩) h.lt.2).trans (h.key j hj i v hv), fun j hj => (hB.cell (p := ⟨cb, 1 + j, none⟩) h.lt.1).trans (h.box j hj),
   Nat.lt_of_lt_of_le h.lt.1 hB.size, Nat.lt_of_lt_of_le h.lt.2 hB.size⟩
theorem rounds_any (cb : Nat) (K : List Int) (g c : Nat) (w : World) (h : CRead w cb K g c) : Calls Tryd.prog 90 #[.pointer (some ⟨cb, 0, none⟩)] w fun e w' => e = .returned (.int .i64 10) ∧ w = w' := by
  have hc := h.c0
  clear h
  go_enter Tryd.func90, Tryd.ntmps90
  go_wp2
  go_ret
  exact ⟨rfl, rfl⟩
theorem double_q (x : Int) (w : World) : Calls Tryd.prog 46 #[.int .u8 x] w fun e w' => e = .returned (.int .u8 (double8 x)) ∧ ∃ m, w' = w.drewN m :=
  (double_any x w).mono fun e w' h => ⟨h.1, 0, by rw [← h.2]; rfl⟩
set_option maxHeartbeats 2000000 in
theorem aesblock_any (cb : Nat) (K inp : List Int) (hK : K.length = 16) (hin : inp.length = 16) (w : World) (hC : IsC w cb K) :
    Calls Tryd.prog 74 #[.pointer (some ⟨cb, 0, none⟩), .agg (w8 inp)] w fun e w' => e = .returned (.agg (w8 (aesBlk K inp))) ∧ Below w.heap.size w w' := by
  obtain ⟨g, c, hR⟩ := hC.read hK
  have HR := Lib.hid hR
  have HK := Lib.hid hK
  have Hin := Lib.hid hin
  clear hR hK hin hC
  go_enter Tryd.func74, Tryd.ntmps74
  go_upto_region 4 with (go_at_call 90; go_must (refine (rounds_any cb K g c _ (HR.out.below (((Below.refl _ _).alloc (Nat.le_refl _) _).alloc (by simp) _))).mono ?_; rintro e w1 ⟨rfl, hw1⟩; have Hw1 := Lib.hid hw1; clear hw1))
  have hB1 : Below w.heap.size w w1 := by rw [← Hw1.out]; exact ((Below.refl _ _).alloc (Nat.le_refl _) _).alloc (by simp) _
  have h10 : w1.heap[w.heap.size]? = some (.cells (w8 inp) 50 (0, 0)) := by rw [← Hw1.out]; exact blk_alloc (new_at rfl) _
  have h11 : w1.heap[w.heap.size + 1]? = some (.cells (w8 (List.replicate 16 0)) 50 (0, 0)) := by rw [← Hw1.out]; exact new_at (by simp)
  have HB1 := Lib.hid hB1
  have H10 := Lib.hid h10
  have H11 := Lib.hid h11
  have HR1 : Hid (CRead w1 cb K g c) := Lib.hid (HR.out.below hB1)
  clear hB1 h10 h11 Hw1
  obtain ⟨k0, hk0⟩ : ∃ k0, k0 = (cKeys K).getD 0 [] := ⟨_, rfl⟩
  have hk0l : k0.length = 16 := by rw [hk0]; exact key_getD K HK.out 0 (by omega)
  have Hk0 := Lib.hid hk0
  have Hk0l := Lib.hid hk0l
  have Hszi : Hid ((Tryd.prog.info? 50).map (·.size) = some (w8 inp).size) := Lib.hid (by rw [w8_size, Hin.out]; kernel_rfl)
  have Hszk : Hid ((Tryd.prog.info? 50).map (·.size) = some k0.length) := Lib.hid (by rw [Hk0l.out]; kernel_rfl)
  have Hsza : Hid ((Tryd.prog.info? 50).map (·.size) = some (w8 (xorUp inp k0 16)).size) := Lib.hid (by rw [w8_size, xorUp_len, Hin.out]; kernel_rfl)
  have Holda : Hid ((#[.int .u8 0, .int .u8 0, .int .u8 0, .int .u8 0, .int .u8 0, .int .u8 0, .int .u8 0, .int .u8 0, .int .u8 0, .int .u8 0, .int .u8 0, .int .u8 0, .int .u8 0, .int .u8 0, .int .u8 0, .int .u8 0] : Array Value).size = (w8 (xorUp inp k0 16)).size) := Lib.hid (by rw [w8_size, xorUp_len, Hin.out]; rfl)
  clear hk0 hk0l
  go_cut [6] from 20 to 27 (fun s6 wx => ∃ ab, s6 = .pointer (some ⟨ab, 0, none⟩) ∧ Hid (w1.heap.size ≤ ab ∧ wx.heap[ab]? = some (.cells (w8 (xorUp inp k0 16)) 50 (0, 0)) ∧ Below w1.heap.size w1 wx))
  case first =>
    --[
    have hle := HR1.out.le
    refine seg_begin (fun W => W.cell? ⟨cb, 0, none⟩ = some (.slice (some ⟨g, 0, none⟩) 11 c) ∧ Hid (W.heap[w.heap.size]? = some (.cells (w8 inp) 50 (0, 0))) ∧ Hid (W.rangeAt g 0 (w8 k0).toList)) [0, 2, 3, 4, 5, 6, 8] (by kernel_rfl) ?_
    have HS : Hid (w1.drew.cell? ⟨cb, 0, none⟩ = some (.slice (some ⟨g, 0, none⟩) 11 c) ∧ Hid (w1.drew.heap[w.heap.size]? = some (.cells (w8 inp) 50 (0, 0))) ∧ Hid (w1.drew.rangeAt g 0 (w8 k0).toList)) := Lib.hid ⟨HR1.out.c0, H10, Lib.hid (by rw [Hk0.out]; have := HR1.out.key 0 (by omega); rwa [Nat.zero_mul] at this)⟩
    (refine seg_take 1 ?_ rfl (by kernel_rfl) (by kernel_rfl) (by kernel_rfl) (by kernel_rfl) (by kernel_rfl) rfl (fun _ _ _ h => h) rfl ?_ ?_; rotate_left; (focus (intro w; go_simp; try with_reducible rfl)); (try simp only [List.getElem_toArray, List.getElem_cons_zero, List.getElem_cons_succ, Act.put, List.setIfInBounds_toArray, List.set_cons_zero, List.set_cons_succ]); refine seg_read 2 ?_ rfl (by kernel_rfl) (by kernel_rfl) (by kernel_rfl) (by kernel_rfl) (by kernel_rfl) (by kernel_rfl) (fun _ _ _ h => h) rfl HS.out ?_ ?_; rotate_left; (focus (intro w hSw; (try dsimp only at hSw); go_split_ands; go_simp; try with_reducible rfl)); (try simp only [List.getElem_toArray, List.getElem_cons_zero, List.getElem_cons_succ, Act.put, List.setIfInBounds_toArray, List.set_cons_zero, List.set_cons_succ]); refine seg_read 3 ?_ rfl (by kernel_rfl) (by kernel_rfl) (by kernel_rfl) (by kernel_rfl) (by kernel_rfl) (by kernel_rfl) (fun _ _ _ h => h) rfl HS.out ?_ ?_; rotate_left; (focus (intro w hSw; (try dsimp only at hSw); go_split_ands; go_simp; try with_reducible rfl)); (try simp only [List.getElem_toArray, List.getElem_cons_zero, List.getElem_cons_succ, Act.put, List.setIfInBounds_toArray, List.set_cons_zero, List.set_cons_succ]); refine seg_read 4 ?_ rfl (by kernel_rfl) (by kernel_rfl) (by kernel_rfl) (by kernel_rfl) (by kernel_rfl) (by kernel_rfl) (fun _ _ _ h => h) rfl HS.out ?_ ?_; rotate_left; (focus (intro w hSw; (try dsimp only at hSw); go_split_ands; go_simp; try with_reducible rfl)); (try simp only [List.getElem_toArray, List.getElem_cons_zero, List.getElem_cons_succ, Act.put, List.setIfInBounds_toArray, List.set_cons_zero, List.set_cons_succ]); refine seg_read 5 ?_ rfl (by kernel_rfl) (by kernel_rfl) (by kernel_rfl) (by kernel_rfl) (by kernel_rfl) (by kernel_rfl) (fun _ _ _ h => h) rfl HS.out ?_ ?_; rotate_left; (focus (intro w hSw; (try dsimp only at hSw); go_split_ands; go_simp; try with_reducible rfl)); (try simp only [List.getElem_toArray, List.getElem_cons_zero, List.getElem_cons_succ, Act.put, List.setIfInBounds_toArray, List.set_cons_zero, List.set_cons_succ]))
    have Hadd : Hid (∀ W, Calls Tryd.prog 91 #[.agg (w8 inp), .agg (w8 k0)] W fun e w' => e = .returned (.agg (w8 (xorUp inp k0 16))) ∧ Below W.heap.size W w') := Lib.hid (fun W => add16_any inp k0 Hin.out Hk0l.out W)
    (refine seg_read 0 (.agg (w8 inp)) rfl (by kernel_rfl) (by kernel_rfl) (by kernel_rfl) (by kernel_rfl) (by kernel_rfl) (by kernel_rfl) (fun _ _ _ h => h) rfl HS.out (fun W hW => yields_load_row 50 _ rfl w.heap.size rfl _ _ _ _ hW.2.1.out Tryd.underlying50 rfl Hszi.out) ?_; (try simp only [List.getElem_toArray, List.getElem_cons_zero, List.getElem_cons_succ, Act.put, List.setIfInBounds_toArray, List.set_cons_zero, List.set_cons_succ]))
    (refine seg_read 6 (.agg (w8 k0)) rfl (by kernel_rfl) (by kernel_rfl) (by kernel_rfl) (by kernel_rfl) (by kernel_rfl) (by kernel_rfl) (fun _ _ _ h => h) rfl HS.out (fun W hW => yields_load_mid8 50 _ rfl g 0 rfl k0 _ hW.2.2.out Tryd.underlying50 rfl Hszk.out) ?_; (try simp only [List.getElem_toArray, List.getElem_cons_zero, List.getElem_cons_succ, Act.put, List.setIfInBounds_toArray, List.set_cons_zero, List.set_cons_succ]))
    have HSb : Hid (∀ W, Below w1.heap.size w1 W → W.cell? ⟨cb, 0, none⟩ = some (.slice (some ⟨g, 0, none⟩) 11 c) ∧ Hid (W.heap[w.heap.size]? = some (.cells (w8 inp) 50 (0, 0))) ∧ Hid (W.rangeAt g 0 (w8 k0).toList)) := Lib.hid (fun W hW => by
      have h := HR1.out.below hW
      exact ⟨h.c0, Lib.hid (below_at hW H10.out (blk_lt H10.out)), Lib.hid (by rw [Hk0.out]; have := h.key 0 (by omega); rwa [Nat.zero_mul] at this)⟩)
    have HBd : Hid (Below w1.heap.size w1 w1.drew) := Lib.hid (Below.refl _ _).drew
    clear hle
    generalize w1.drew = wd at *
    refine anyB_two 7 8 rfl rfl (by kernel_rfl) ?_ ?_
    · go_wp2_with (go_at_call 91; go_must (refine (Hadd.out _).mono ?_; rintro e w3 ⟨rfl, hb3⟩; have HB3 := Lib.hid hb3; clear hb3))
      refine ⟨nofun, ?_⟩
      (refine seg_rest [8, 9] _ _ _ (by kernel_rfl) ?_ _ rfl)
      (refine segs_in rfl ?_; (simp only [pick, List.getElem?_toArray, List.getElem_toArray, List.getElem_cons_zero, List.getElem_cons_succ, List.getElem?_cons_zero, List.getElem?_cons_succ, Act.put, List.setIfInBounds_toArray, List.set_cons_zero, List.set_cons_succ]))
      have HB4 : Hid (Below w1.heap.size w1 w3) := Lib.hid (HBd.out.trans (HB3.out.mono HBd.out.size))
      go_wp2
      refine ⟨fun _ => HSb.out _ (HB4.out.alloc HB4.out.size _), ?_⟩
      (refine segs_out rfl ?_; (simp only [pick, List.getElem?_toArray, List.getElem_toArray, List.getElem_cons_zero, List.getElem_cons_succ, List.getElem?_cons_zero, List.getElem?_cons_succ, Act.put, List.setIfInBounds_toArray, List.set_cons_zero, List.set_cons_succ]))
      go_wp2_with (with_reducible refine wpList_store_new rfl 50 _ _ rfl _ rfl rfl _ _ Hsza.out Holda.out (w8_one _) ?_)
      go_meet
      exact ⟨w3.heap.size, rfl, Lib.hid ⟨HB4.out.size, new_at rfl, HB4.out.alloc HB4.out.size _⟩⟩
    · go_wp2
      refine ⟨fun _ => HSb.out _ (HBd.out.alloc HBd.out.size _), ?_⟩
      have Hnew := Lib.hid (new_at (W := wd) (o := .cells #[.int .u8 0, .int .u8 0, .int .u8 0, .int .u8 0, .int .u8 0, .int .u8 0, .int .u8 0, .int .u8 0, .int .u8 0, .int .u8 0, .int .u8 0, .int .u8 0, .int .u8 0, .int .u8 0, .int .u8 0, .int .u8 0] 50) rfl)
      have HBn := Lib.hid (HBd.out.alloc HBd.out.size (.cells #[.int .u8 0, .int .u8 0, .int .u8 0, .int .u8 0, .int .u8 0, .int .u8 0, .int .u8 0, .int .u8 0, .int .u8 0, .int .u8 0, .int .u8 0, .int .u8 0, .int .u8 0, .int .u8 0, .int .u8 0, .int .u8 0] 50))
      have HBs := HBd.out.size
      generalize hwn : wd.alloc (.cells #[.int .u8 0, .int .u8 0, .int .u8 0, .int .u8 0, .int .u8 0, .int .u8 0, .int .u8 0, .int .u8 0, .int .u8 0, .int .u8 0, .int .u8 0, .int .u8 0, .int .u8 0, .int .u8 0, .int .u8 0, .int .u8 0] 50) = wn at *
      have Hsz : Hid (wd.heap.size < wn.heap.size) := Lib.hid (by rw [← hwn]; simp)
      clear hwn
      (refine seg_rest [7, 9] _ _ _ (by kernel_rfl) ?_ _ rfl)
      (refine segs_out rfl ?_; (simp only [pick, List.getElem?_toArray, List.getElem_toArray, List.getElem_cons_zero, List.getElem_cons_succ, List.getElem?_cons_zero, List.getElem?_cons_succ, Act.put, List.setIfInBounds_toArray, List.set_cons_zero, List.set_cons_succ]))
      go_wp2_with (first
        | (go_at_call 91; go_must (refine (Hadd.out _).mono ?_; rintro e w3 ⟨rfl, hb3⟩; have HB3 := Lib.hid hb3; have Hn3 := Lib.hid (below_at hb3 Hnew.out Hsz.out); clear hb3))
        | (with_reducible refine wpList_store_row rfl 50 _ _ rfl wd.heap.size _ rfl rfl _ _ Hn3.out Hsza.out Holda.out (w8_one _) ?_))
      go_meet
      exact ⟨wd.heap.size, rfl, Lib.hid ⟨HBs, setRow_heap _ _ _ _ _ _ Hn3.out, below_setRow (HBn.out.trans (HB3.out.mono HBn.out.size)) HBs _⟩⟩
    --]
  case rest =>
    rename World => wm
    obtain ⟨ab, rfl, HA⟩ := hcut
    go_wp2
    have H0 : Hid (wm.heap[ab]? = some (.cells (w8 (rndA K inp 0)) 50 (0, 0))) := Lib.hid (by rw [rndA, ← Hk0.out]; exact HA.out.2.1)
    have HBm : Hid (Below w1.heap.size w1 wm) := Lib.hid HA.out.2.2
    have hab : w1.heap.size ≤ ab := HA.out.1
    clear Hsza Holda Hszk Hszi HA Hk0 Hk0l
    go_loopw [29] (fun i wr => ∃ r : Nat, r ≤ 10 ∧ i = .int .i64 r ∧ Hid (wr.heap[ab]? = some (.cells (w8 (rndA K inp r)) 50 (0, 0))) ∧ Hid (Below w1.heap.size w1 wr))
      (fun i _ => 10 - (intOf i).toNat)
    case atStart => exact ⟨0, by omega, rfl, H0, HBm⟩
    case round =>
      clear H0 HBm
      obtain ⟨r, hr, rfl, H0, HBm⟩ := hrel
      obtain ⟨wr0, rfl⟩ : ∃ wr0 : World, wr0 = wr := ⟨_, rfl⟩
      by_cases hlt : r < 10
      · obtain ⟨a, ha⟩ : ∃ a, a = rndA K inp r := ⟨_, rfl⟩
        have hal : a.length = 16 := by rw [ha]; exact rndA_len K inp Hin.out r
        have hab8 : By8 a := by rw [ha]; exact rndA_by8 K inp Hin.out r
        rw [← ha] at H0
        have hablt := blk_lt H0.out
        have Ha := Lib.hid ha
        have Hal := Lib.hid hal
        have Hab8 := Lib.hid hab8
        have HRr : Hid (CRead wr0 cb K g c) := Lib.hid (HR1.out.below HBm.out)
        have hw1r : w1.heap.size ≤ wr0.heap.size := HBm.out.size
        clear ha hal hab8
        go_wp2
        go_loopw [32] (fun i wr => ∃ k : Nat, k ≤ 16 ∧ i = .int .i64 k ∧ Hid (wr.heap[wr0.heap.size]? = some (.cells (w8 (subUp a k)) 50 (0, 0))) ∧ Hid (Below wr0.heap.size wr0 wr))
          (fun i _ => 16 - (intOf i).toNat)
        case atStart => exact ⟨0, by omega, rfl, Lib.hid (new_at rfl), Lib.hid ((Below.refl _ _).alloc (Nat.le_refl _) _)⟩
        case round =>
          obtain ⟨k, hk, rfl, Hb, HB⟩ := hrel
          by_cases hk16 : k < 16
          · obtain ⟨q, hq⟩ : ∃ q, q = (k + 4 * (k % 4)) % 16 := ⟨_, rfl⟩
            have hq16 : q < 16 := by omega
            have hqi : ((k : Int) + 4 * ((k : Int) % 4)) % 16 = (q : Int) := by omega
            obtain ⟨z, hz⟩ : ∃ z, z = a.getD q 0 := ⟨_, rfl⟩
            have hzr : 0 ≤ z ∧ z < 256 := by rw [hz]; exact Hab8.out.get q
            obtain ⟨zn, rfl⟩ := Int.eq_ofNat_of_zero_le hzr.1
            have hzn : zn < 256 := by have := hzr.2; omega
            obtain ⟨u, hu⟩ : ∃ u, u = aesBox.getD zn 0 := ⟨_, rfl⟩
            have hca := cell_w8 (below_at HB.out H0.out hablt) q (by rw [Hal.out]; exact hq16)
            rw [← hz] at hca
            have hcx := (HRr.out.below HB.out).box zn hzn
            rw [← hu] at hcx
            have hcb := cell_w8 Hb.out k (by rw [subUp_len]; exact hk16)
            have hfb := frozen_row Hb.out k
            have Hq := Lib.hid hq
            have Hz := Lib.hid hz
            have Hu := Lib.hid hu
            clear hq hz hu hzr
            go_upto_region 12 with (fail)
            refine wp_region_quiet_tail_lit 15 (by kernel_rfl) (by kernel_rfl) ?_
            simp only [List.take_succ_cons, List.take_zero, List.drop_succ_cons, List.drop_zero]
            repeat (go_big_quiet_step (fail))
            refine wpQuiet_nil ?_
            rintro _ ⟨nq, rfl⟩
            go_wp2
            go_roundw
            case rel =>
              refine ⟨k + 1, by omega, by go_num, Lib.hid ?_, Lib.hid ((below_drewN HB.out nq).setCell (Nat.le_refl _) _)⟩
              rw [subUp, ← Hq.out, ← Hz.out, Int.toNat_natCast, ← Hu.out]
              exact set_w8 (W := wr.drewN nq) Hb.out k u
            case measure => simp [intOf]; omega
          · obtain rfl : k = 16 := by omega
            obtain ⟨ws, rfl⟩ : ∃ ws : World, ws = wr := ⟨_, rfl⟩
            go_upto_if 54 with (fail)
            go_cut [10, 11, 12, 13, 14] from 55 to 109 (fun s10 s11 s12 s13 s14 wx => Hid (wx.heap[wr0.heap.size]? = some (.cells (w8 (rndB a r)) 50 (0, 0))) ∧ Hid (Below wr0.heap.size wr0 wx))
            case first =>
              --[
              by_cases h9 : r < 9
              · have hrb : rndB a r = mixUp (subUp a 16) 4 := by rw [rndB, if_pos h9]
                have Hrb := Lib.hid hrb
                clear hrb
                have Hb0 : Hid (ws.heap[wr0.heap.size]? = some (.cells (w8 (mixUp (subUp a 16) 0)) 50 (0, 0))) := Hb
                obtain ⟨s, hs⟩ : ∃ s, s = subUp a 16 := ⟨_, rfl⟩
                have hsl : s.length = 16 := by rw [hs]; exact subUp_len a 16
                rw [← hs] at Hb0 Hrb
                have Hsl := Lib.hid hsl
                clear hs hsl Hb
                go_wp2
                go_loopw [10] (fun i wr => ∃ k : Nat, k ≤ 4 ∧ i = .int .i64 (4 * (k : Int)) ∧ Hid (wr.heap[wr0.heap.size]? = some (.cells (w8 (mixUp s k)) 50 (0, 0))) ∧ Hid (Below wr0.heap.size wr0 wr))
                  (fun i _ => 16 - (intOf i).toNat)
                case atStart => exact ⟨0, by omega, rfl, Hb0, HB⟩
                case round =>
                  clear Hb0 HB
                  obtain ⟨k, hk, rfl, Hb, HB⟩ := hrel
                  by_cases hk4 : k < 4
                  · obtain ⟨m, hm⟩ : ∃ m, m = mixUp s k := ⟨_, rfl⟩
                    have hml : m.length = 16 := by rw [hm, mixUp_len]; exact Hsl.out
                    rw [← hm] at Hb
                    have Hm := Lib.hid hm
                    have Hml := Lib.hid hml
                    obtain ⟨m0, hm0⟩ : ∃ m0, m0 = m.getD (4 * k) 0 := ⟨_, rfl⟩
                    obtain ⟨m1, hm1⟩ : ∃ m1, m1 = m.getD (4 * k + 1) 0 := ⟨_, rfl⟩
                    obtain ⟨m2, hm2⟩ : ∃ m2, m2 = m.getD (4 * k + 2) 0 := ⟨_, rfl⟩
                    obtain ⟨m3, hm3⟩ : ∃ m3, m3 = m.getD (4 * k + 3) 0 := ⟨_, rfl⟩
                    have c0 := cell_w8 Hb.out (4 * k) (by omega)
                    have c1 := cell_w8 Hb.out (4 * k + 1) (by omega)
                    have c2 := cell_w8 Hb.out (4 * k + 2) (by omega)
                    have c3 := cell_w8 Hb.out (4 * k + 3) (by omega)
                    rw [← hm0] at c0
                    rw [← hm1] at c1
                    rw [← hm2] at c2
                    rw [← hm3] at c3
                    have Hc : Hid (colAll m (4 * k) = x8 (x8 (x8 m0 m1) m2) m3) := Lib.hid (by rw [colAll, ← hm0, ← hm1, ← hm2, ← hm3])
                    have Hm0 := Lib.hid hm0
                    clear hm hml hm0 hm1 hm2 hm3
                    obtain ⟨wc, rfl⟩ : ∃ wc : World, wc = wr := ⟨_, rfl⟩
                    go_wp2
                    go_quiet (fail)
                    go_wp2
                    generalize hal2 : bits .xor .u8 (bits .xor .u8 (bits .xor .u8 m0 m1) m2) m3 = al
                    have Hal2 : Hid (colAll m (4 * k) = al) := Lib.hid (Hc.out.trans hal2)
                    have Hb1 : Hid ((wc.drewN nq).heap[wr0.heap.size]? = some (.cells (w8 (mixJ m (4 * k) al m0 0)) 50 (0, 0))) := Hb
                    have HB1c : Hid (Below wr0.heap.size wr0 (wc.drewN nq)) := Lib.hid (below_drewN HB.out nq)
                    clear hal2 Hc c0 c1 c2 c3 Hb HB
                    go_loopw [80] (fun i wr => ∃ j : Nat, j ≤ 4 ∧ i = .int .i64 j ∧ Hid (wr.heap[wr0.heap.size]? = some (.cells (w8 (mixJ m (4 * k) al m0 j)) 50 (0, 0))) ∧ Hid (Below wr0.heap.size wr0 wr))
                      (fun i _ => 4 - (intOf i).toNat)
                    case atStart => exact ⟨0, by omega, rfl, Hb1, HB1c⟩
                    case round =>
                      clear Hb1 HB1c
                      obtain ⟨j, hj, rfl, Hb, HB⟩ := hrel
                      by_cases hj4 : j < 4
                      · obtain ⟨p, hp⟩ : ∃ p, p = (mixJ m (4 * k) al m0 j).getD (4 * k + j) 0 := ⟨_, rfl⟩
                        have cp := cell_w8 Hb.out (4 * k + j) (by rw [mixJ_len, Hml.out]; omega)
                        have cf := frozen_row Hb.out (4 * k + j)
                        rw [← hp] at cp
                        have Hp := Lib.hid hp
                        clear hp
                        by_cases hj3 : j < 3
                        · obtain ⟨nx, hnx⟩ : ∃ nx, nx = (mixJ m (4 * k) al m0 j).getD (4 * k + j + 1) 0 := ⟨_, rfl⟩
                          have cn := cell_w8 Hb.out (4 * k + j + 1) (by rw [mixJ_len, Hml.out]; omega)
                          rw [← hnx] at cn
                          have Hnx := Lib.hid hnx
                          clear hnx
                          go_upto_region 26 with (fail)
                          refine wp_region_quiet_tail_lit 17 (by kernel_rfl) (by kernel_rfl) ?_
                          simp only [List.take_succ_cons, List.take_zero, List.drop_succ_cons, List.drop_zero]
                          repeat (go_big_quiet_step ((go_at_call 46; exact Calls.quiet_of (double_q _ _))))
                          refine wpQuiet_nil ?_
                          rintro _ ⟨nq2, rfl⟩
                          go_wp2
                          go_roundw
                          case rel =>
                            refine ⟨j + 1, by omega, by go_num, Lib.hid ?_, Lib.hid ((below_drewN HB.out nq2).setCell (Nat.le_refl _) _)⟩
                            rw [mixJ, ← Hp.out, if_pos hj3, ← Hnx.out]
                            exact set_w8 (W := wr.drewN nq2) Hb.out (4 * k + j) _
                          case measure => simp [intOf]; omega
                        · go_upto_region 26 with (fail)
                          refine wp_region_quiet_tail_lit 17 (by kernel_rfl) (by kernel_rfl) ?_
                          simp only [List.take_succ_cons, List.take_zero, List.drop_succ_cons, List.drop_zero]
                          repeat (go_big_quiet_step ((go_at_call 46; exact Calls.quiet_of (double_q _ _))))
                          refine wpQuiet_nil ?_
                          rintro _ ⟨nq2, rfl⟩
                          go_wp2
                          go_roundw
                          case rel =>
                            refine ⟨j + 1, by omega, by go_num, Lib.hid ?_, Lib.hid ((below_drewN HB.out nq2).setCell (Nat.le_refl _) _)⟩
                            rw [mixJ, ← Hp.out, if_neg hj3]
                            exact set_w8 (W := wr.drewN nq2) Hb.out (4 * k + j) _
                          case measure => simp [intOf]; omega
                      · obtain rfl : j = 4 := by omega
                        go_wp2
                        go_roundw
                        case rel => exact ⟨k + 1, by omega, by go_num, Lib.hid (by rw [mixUp, ← Hm.out, Hal2.out, ← Hm0.out]; exact Hb.out), HB⟩
                        case measure => simp [intOf]; omega
                  · obtain rfl : k = 4 := by omega
                    go_wp2
                    go_meet
                    exact ⟨by rw [Hrb.out]; exact Hb, HB⟩
              · have hrb : rndB a r = subUp a 16 := by rw [rndB, if_neg h9]
                have Hrb := Lib.hid hrb
                clear hrb
                go_wp2
                go_meet
                exact ⟨by rw [Hrb.out]; exact Hb, HB⟩
              --]
            case rest =>
              rename World => wt
              obtain ⟨Hb2, HB2⟩ := hcut
              obtain ⟨bb, hbb⟩ : ∃ bb, bb = rndB a r := ⟨_, rfl⟩
              have hbbl : bb.length = 16 := by rw [hbb]; exact rndB_len a r
              obtain ⟨kr, hkr⟩ : ∃ kr, kr = (cKeys K).getD (r + 1) [] := ⟨_, rfl⟩
              have hkrl : kr.length = 16 := by rw [hkr]; exact key_getD K HK.out (r + 1) (by omega)
              rw [← hbb] at Hb2
              have Hbb := Lib.hid hbb
              have Hbbl := Lib.hid hbbl
              have Hkr := Lib.hid hkr
              have Hkrl := Lib.hid hkrl
              have HRt : Hid (CRead wt cb K g c) := Lib.hid (HRr.out.below HB2.out)
              have Hat : Hid (wt.heap[ab]? = some (.cells (w8 a) 50 (0, 0))) := Lib.hid (below_at HB2.out H0.out hablt)
              have Hszb : Hid ((Tryd.prog.info? 50).map (·.size) = some (w8 bb).size) := Lib.hid (by rw [w8_size, hbbl]; kernel_rfl)
              have Hszk : Hid ((Tryd.prog.info? 50).map (·.size) = some kr.length) := Lib.hid (by rw [hkrl]; kernel_rfl)
              have Hszx : Hid ((Tryd.prog.info? 50).map (·.size) = some (w8 (xorUp bb kr 16)).size) := Lib.hid (by rw [w8_size, xorUp_len, hbbl]; kernel_rfl)
              have Hold : Hid ((w8 a).size = (w8 (xorUp bb kr 16)).size) := Lib.hid (by rw [w8_size, w8_size, xorUp_len, hbbl]; exact Hal.out)
              have hle := HRt.out.le
              clear hbb hbbl hkr hkrl Hb HB
              have hi1 : (0 : Int) ≤ (r : Int) + 1 := by omega
              have hi2 : (r : Int) + 1 < 11 := by omega
              have hi3 : IntKind.i64.wrap ((r : Int) + 1) = (r : Int) + 1 := IntWalk.i64_in _ (by omega)
              have hi4 : ((r : Int) + 1).toNat = r + 1 := by omega
              go_upto_region 28 with (fail)
              refine seg_begin (fun W => W.cell? ⟨cb, 0, none⟩ = some (.slice (some ⟨g, 0, none⟩) 11 c) ∧ Hid (W.heap[wr0.heap.size]? = some (.cells (w8 bb) 50 (0, 0))) ∧ Hid (W.rangeAt g ((r + 1) * 16) (w8 kr).toList)) [0, 2, 3, 4, 7, 8] (by kernel_rfl) ?_
              have HS : Hid (wt.drew.cell? ⟨cb, 0, none⟩ = some (.slice (some ⟨g, 0, none⟩) 11 c) ∧ Hid (wt.drew.heap[wr0.heap.size]? = some (.cells (w8 bb) 50 (0, 0))) ∧ Hid (wt.drew.rangeAt g ((r + 1) * 16) (w8 kr).toList)) := Lib.hid ⟨HRt.out.c0, Hb2, Lib.hid (by rw [Hkr.out]; exact HRt.out.key (r + 1) (by omega))⟩
              (refine seg_take 1 ?_ rfl (by kernel_rfl) (by kernel_rfl) (by kernel_rfl) (by kernel_rfl) (by kernel_rfl) rfl (fun _ _ _ h => h) rfl ?_ ?_; rotate_left; (focus (intro w; go_simp; try with_reducible rfl)); (try simp only [List.getElem_toArray, List.getElem_cons_zero, List.getElem_cons_succ, Act.put, List.setIfInBounds_toArray, List.set_cons_zero, List.set_cons_succ]); refine seg_take 5 ?_ rfl (by kernel_rfl) (by kernel_rfl) (by kernel_rfl) (by kernel_rfl) (by kernel_rfl) rfl (fun _ _ _ h => h) rfl ?_ ?_; rotate_left; (focus (intro w; go_simp; try with_reducible rfl)); (try simp only [List.getElem_toArray, List.getElem_cons_zero, List.getElem_cons_succ, Act.put, List.setIfInBounds_toArray, List.set_cons_zero, List.set_cons_succ]); refine seg_take 6 ?_ rfl (by kernel_rfl) (by kernel_rfl) (by kernel_rfl) (by kernel_rfl) (by kernel_rfl) rfl (fun _ _ _ h => h) rfl ?_ ?_; rotate_left; (focus (intro w; go_simp; try with_reducible rfl)); (try simp only [List.getElem_toArray, List.getElem_cons_zero, List.getElem_cons_succ, Act.put, List.setIfInBounds_toArray, List.set_cons_zero, List.set_cons_succ]); refine seg_read 2 ?_ rfl (by kernel_rfl) (by kernel_rfl) (by kernel_rfl) (by kernel_rfl) (by kernel_rfl) (by kernel_rfl) (fun _ _ _ h => h) rfl HS.out ?_ ?_; rotate_left; (focus (intro w hSw; (try dsimp only at hSw); go_split_ands; go_simp; try with_reducible rfl)); (try simp only [List.getElem_toArray, List.getElem_cons_zero, List.getElem_cons_succ, Act.put, List.setIfInBounds_toArray, List.set_cons_zero, List.set_cons_succ]); refine seg_read 3 ?_ rfl (by kernel_rfl) (by kernel_rfl) (by kernel_rfl) (by kernel_rfl) (by kernel_rfl) (by kernel_rfl) (fun _ _ _ h => h) rfl HS.out ?_ ?_; rotate_left; (focus (intro w hSw; (try dsimp only at hSw); go_split_ands; go_simp; try with_reducible rfl)); (try simp only [List.getElem_toArray, List.getElem_cons_zero, List.getElem_cons_succ, Act.put, List.setIfInBounds_toArray, List.set_cons_zero, List.set_cons_succ]); refine seg_read 4 ?_ rfl (by kernel_rfl) (by kernel_rfl) (by kernel_rfl) (by kernel_rfl) (by kernel_rfl) (by kernel_rfl) (fun _ _ _ h => h) rfl HS.out ?_ ?_; rotate_left; (focus (intro w hSw; (try dsimp only at hSw); go_split_ands; go_simp; try with_reducible rfl)); (try simp only [List.getElem_toArray, List.getElem_cons_zero, List.getElem_cons_succ, Act.put, List.setIfInBounds_toArray, List.set_cons_zero, List.set_cons_succ]); refine seg_read 7 ?_ rfl (by kernel_rfl) (by kernel_rfl) (by kernel_rfl) (by kernel_rfl) (by kernel_rfl) (by kernel_rfl) (fun _ _ _ h => h) rfl HS.out ?_ ?_; rotate_left; (focus (intro w hSw; (try dsimp only at hSw); go_split_ands; go_simp; try with_reducible rfl)); (try simp only [List.getElem_toArray, List.getElem_cons_zero, List.getElem_cons_succ, Act.put, List.setIfInBounds_toArray, List.set_cons_zero, List.set_cons_succ]))
              clear hi1 hi2 hi3 hi4 hle
              (refine seg_read 0 (.agg (w8 bb)) rfl (by kernel_rfl) (by kernel_rfl) (by kernel_rfl) (by kernel_rfl) (by kernel_rfl) (by kernel_rfl) (fun _ _ _ h => h) rfl HS.out (fun W hW => yields_load_row 50 _ rfl wr0.heap.size rfl _ _ _ _ hW.2.1.out Tryd.underlying50 rfl Hszb.out) ?_; (try simp only [List.getElem_toArray, List.getElem_cons_zero, List.getElem_cons_succ, Act.put, List.setIfInBounds_toArray, List.set_cons_zero, List.set_cons_succ]))
              (refine seg_read 8 (.agg (w8 kr)) rfl (by kernel_rfl) (by kernel_rfl) (by kernel_rfl) (by kernel_rfl) (by kernel_rfl) (by kernel_rfl) (fun _ _ _ h => h) rfl HS.out (fun W hW => yields_load_mid8 50 _ rfl g ((r + 1) * 16) rfl kr _ hW.2.2.out Tryd.underlying50 rfl Hszk.out) ?_; (try simp only [List.getElem_toArray, List.getElem_cons_zero, List.getElem_cons_succ, Act.put, List.setIfInBounds_toArray, List.set_cons_zero, List.set_cons_succ]))
              have Had : Hid (wt.drew.heap[ab]? = some (.cells (w8 a) 50 (0, 0))) := Lib.hid Hat.out
              have HBd : Hid (Below w1.heap.size w1 wt.drew) := Lib.hid (HBm.out.trans ((HB2.out.mono hw1r).drew))
              clear Hat HRt HB2 Hb2
              generalize wt.drew = wd at *
              (refine seg_rest [9, 10] _ _ _ (by kernel_rfl) ?_ _ rfl)
              (refine segs_out rfl ?_; (simp only [pick, List.getElem?_toArray, List.getElem_toArray, List.getElem_cons_zero, List.getElem_cons_succ, List.getElem?_cons_zero, List.getElem?_cons_succ, Act.put, List.setIfInBounds_toArray, List.set_cons_zero, List.set_cons_succ]))
              go_wp2_with (first
                | (go_at_call 91; go_must (refine (add16_any bb kr Hbbl.out Hkrl.out _).mono ?_; rintro e w3 ⟨rfl, hb3⟩; have HB3 := Lib.hid hb3; have Hn3 := Lib.hid (below_at hb3 Had.out (blk_lt Had.out)); clear hb3))
                | (with_reducible refine wpList_store_row rfl 50 _ _ rfl ab _ rfl rfl _ _ Hn3.out Hszx.out Hold.out (w8_one _) ?_))
              go_roundw
              case rel =>
                refine ⟨r + 1, by omega, by go_num, Lib.hid ?_, Lib.hid (below_setRow (HBd.out.trans (HB3.out.mono HBd.out.size)) hab _)⟩
                rw [rndA, ← Ha.out, ← Hbb.out, ← Hkr.out]
                exact setRow_heap _ _ _ _ _ _ Hn3.out
              case measure => simp [intOf]; omega
      · obtain rfl : r = 10 := by omega
        have hal : (rndA K inp 10).length = 16 := rndA_len K inp Hin.out 10
        have Hsz : Hid ((Tryd.prog.info? 50).map (·.size) = some (w8 (rndA K inp 10)).size) := Lib.hid (by rw [w8_size, hal]; kernel_rfl)
        have Hold : Hid ((w8 (List.replicate 16 0)).size = (w8 (rndA K inp 10)).size) := Lib.hid (by rw [w8_size, w8_size, hal]; rfl)
        have H1r : Hid (wr0.heap[w.heap.size + 1]? = some (.cells (w8 (List.replicate 16 0)) 50 (0, 0))) := Lib.hid (below_at HBm.out H11.out (blk_lt H11.out))
        clear hal
        go_wp2_with (first | (with_reducible refine wpList_load_row rfl 50 _ rfl ab rfl _ _ (0, 0) _ H0.out Tryd.underlying50 rfl Hsz.out ?_) | (with_reducible refine wpList_store_row rfl 50 _ _ rfl (w.heap.size + 1) _ rfl rfl _ _ H1r.out Hsz.out Hold.out (w8_one _) ?_))
        refine bodyPost_ret (results_cell_row Tryd.results74 _ _ (w.heap.size + 1) _ _ (0, 0) _ rfl (setRow_heap _ _ _ _ _ _ H1r.out) Tryd.underlying50 rfl Hsz.out) rfl ⟨rfl, ?_⟩
        exact below_setRow (HB1.out.trans (HBm.out.mono HB1.out.size)) (by omega) _
end Go.Proofs.YtiboflejmnjdhaaDoor
