/- Contracts of package sha: a digest taken in parts, and the digest of a text. -/
import Derived.Test.YtiboflejmnjdhaaDoorProg
import Derived.Test.YtiboflejmnjdhaaDoorJA
import Derived.Test.YtiboflejmnjdhaaDoorJC
import Derived.Test.YtiboflejmnjdhaaDoorJB
import Derived.Deep.RegionHeld3
import Derived.IntWalk
import Derived.Deep.DeepMust
import Derived.Maps.RangeWalk
import Derived.Outline
section
set_option linter.unusedVariables false
set_option linter.unusedSimpArgs false
set_option maxRecDepth 100000
namespace Go.Proofs.YtiboflejmnjdhaaDoor
open Go.RowKit

/-- The package's tables, whatever they hold: eight words, and sixty-four. -/
structure Tabs (F R : List Int) (w : World) : Prop where
  f : w.heap[1]? = some (.cells (w32 F) 161 (0, 0))
  r : w.heap[2]? = some (.cells (w32 R) 176 (0, 0))
  fl : F.length = 8
  rl : R.length = 64
theorem Tabs.kp {F R : List Int} {S : List Nat} {w w' : World} (h : Tabs F R w) (hk : Kp S w w') (h0 : 1 ∉ S) (h1 : 2 ∉ S) : Tabs F R w' := ⟨hk.at_ h.f h0, hk.at_ h.r h1, h.fl, h.rl⟩
theorem Tabs.below {F R : List Int} {w w' : World} (h : Tabs F R w) (hk : Below w.heap.size w w') : Tabs F R w' := h.kp (Kp.of_below (S := []) hk) (by simp) (by simp)
theorem Tabs.drewN {F R : List Int} {w : World} (h : Tabs F R w) (n : Nat) : Tabs F R (w.drewN n) := ⟨h.f, h.r, h.fl, h.rl⟩

/-- The cells of a digest under way. -/
def hrow (V : List Int) (sv : Value) (many : Int) : Array Value := w32 V ++ #[sv, .int .i64 many]
theorem hrow_size (V : List Int) (sv : Value) (many : Int) (h : V.length = 8) : (hrow V sv many).size = 10 := by simp [hrow, w32_size, h]
theorem hrow_one (V : List Int) (A : Option Addr) (n c : Nat) (many : Int) : (hrow V (.slice A n c) many).all (·.oneCell') = true := by
  rw [hrow, Array.all_append, w32_one]; simp [Value.oneCell']
theorem hrow_get8 (V : List Int) (sv : Value) (many : Int) (h : V.length = 8) : (hrow V sv many)[8]? = some sv := by
  rw [hrow, Array.getElem?_append_right (by rw [w32_size]; omega), w32_size, h]; rfl
theorem hrow_get9 (V : List Int) (sv : Value) (many : Int) (h : V.length = 8) : (hrow V sv many)[9]? = some (.int .i64 many) := by
  rw [hrow, Array.getElem?_append_right (by rw [w32_size]; omega), w32_size, h]; rfl
theorem hrow_set8 (V : List Int) (sv u : Value) (many : Int) (h : V.length = 8) : (hrow V sv many).setIfInBounds 8 u = hrow V u many := by
  rw [hrow, hrow, Array.setIfInBounds_append_right (by rw [w32_size]; omega), w32_size, h]; rfl
theorem hrow_set9 (V : List Int) (sv : Value) (many k : Int) (h : V.length = 8) : (hrow V sv many).setIfInBounds 9 (.int .i64 k) = hrow V sv k := by
  rw [hrow, hrow, Array.setIfInBounds_append_right (by rw [w32_size]; omega), w32_size, h]; rfl
/-- A digest under way. -/
structure IsH (w : World) (hb : Nat) (V left : List Int) (many : Int) : Prop where
  len : V.length = 8
  row : ∃ A c, w.heap[hb]? = some (.cells (hrow V (.slice A left.length c) many) 163 (0, 0)) ∧ Rd w A c left
theorem IsH.kp {S : List Nat} {w w' : World} {hb : Nat} {V left : List Int} {many : Int} (h : IsH w hb V left many) (hk : Below w.heap.size w w') : IsH w' hb V left many := by
  obtain ⟨A, c, h1, h2⟩ := h.row
  exact ⟨h.len, A, c, below_at hk h1 (blk_lt h1), h2.below hk⟩

theorem sha_new (w : World) : Calls Tryd.prog 65 #[] w fun e w' => e = .returned (.pointer (some ⟨w.heap.size, 0, none⟩)) ∧ w' = w.alloc (.cells (hrow [0, 0, 0, 0, 0, 0, 0, 0] (.slice none 0 0) 0) 163) := by
  go_enter Tryd.func65, Tryd.ntmps65
  go_wp2
  go_ret
  exact ⟨rfl, rfl⟩
theorem IsH.new (w : World) : IsH (w.alloc (.cells (hrow [0, 0, 0, 0, 0, 0, 0, 0] (.slice none 0 0) 0) 163)) w.heap.size [0, 0, 0, 0, 0, 0, 0, 0] [] 0 := ⟨rfl, none, 0, new_at rfl, Rd.none_ _⟩

/-- words: those at the beginning, if nothing was summed up. -/
theorem words_any (F R : List Int) (hb : Nat) (V left : List Int) (many : Int) (w : World) (hT : Tabs F R w) (hH : IsH w hb V left many) :
    Calls Tryd.prog 82 #[.pointer (some ⟨hb, 0, none⟩)] w fun e w' => e = .returned (.agg (w32 (if many < 64 then F else V))) ∧ Below w.heap.size w w' := by
  obtain ⟨hlen, A, c, hb', hr⟩ := hH
  obtain ⟨hf, _, hfl, _⟩ := hT
  have c9 : w.cell? ⟨hb, 9, none⟩ = some (.int .i64 many) := blk_cell hb' 9 (hrow_get9 _ _ _ hlen)
  by_cases h : many < 64
  · have hsz : (Tryd.prog.info? 161).map (·.size) = some (w32 F).size := by rw [w32_size, hfl]; kernel_rfl
    have hn := new_at (W := w) (o := .cells #[.int .u32 0, .int .u32 0, .int .u32 0, .int .u32 0, .int .u32 0, .int .u32 0, .int .u32 0, .int .u32 0] 161) rfl
    have hf1 := blk_alloc hf (.cells #[.int .u32 0, .int .u32 0, .int .u32 0, .int .u32 0, .int .u32 0, .int .u32 0, .int .u32 0, .int .u32 0] 161)
    have hold : (#[.int .u32 0, .int .u32 0, .int .u32 0, .int .u32 0, .int .u32 0, .int .u32 0, .int .u32 0, .int .u32 0] : Array Value).size = (w32 F).size := by rw [w32_size, hfl]; rfl
    have Hsz := Lib.hid hsz
    have Hn := Lib.hid hn
    have Hf1 := Lib.hid hf1
    have Hold := Lib.hid hold
    have hlt := blk_lt hb'
    rw [if_pos h]
    clear hsz hn hf1 hold hf hfl hb' hr hlen
    go_enter Tryd.func82, Tryd.ntmps82
    go_wp2_with (first | (with_reducible refine wpList_load_row rfl 161 _ rfl 1 rfl _ _ (0, 0) _ Hf1.out Tryd.underlying161 rfl Hsz.out ?_) | (with_reducible refine wpList_store_row rfl 161 _ _ rfl w.heap.size _ rfl rfl _ _ Hn.out Hsz.out Hold.out (w32_one _) ?_))
    refine bodyPost_ret (results_cell_row Tryd.results82 _ _ w.heap.size _ _ (0, 0) _ rfl (setRow_heap _ _ _ _ _ _ Hn.out) Tryd.underlying161 rfl Hsz.out) rfl ⟨rfl, ?_⟩
    exact below_setRow ((Below.refl _ _).alloc (Nat.le_refl _) _) (Nat.le_refl _) _
  · rw [if_neg h]
    obtain ⟨v, rfl⟩ : ∃ v : Eight, v.list = V := ⟨Eight.of V, Eight.of_list V hlen⟩
    have c0 : w.cell? ⟨hb, 0, none⟩ = some (.int .u32 v.a) := blk_cell hb' 0 rfl
    have c1 : w.cell? ⟨hb, 1, none⟩ = some (.int .u32 v.b) := blk_cell hb' 1 rfl
    have c2 : w.cell? ⟨hb, 2, none⟩ = some (.int .u32 v.c) := blk_cell hb' 2 rfl
    have c3 : w.cell? ⟨hb, 3, none⟩ = some (.int .u32 v.d) := blk_cell hb' 3 rfl
    have c4 : w.cell? ⟨hb, 4, none⟩ = some (.int .u32 v.e) := blk_cell hb' 4 rfl
    have c5 : w.cell? ⟨hb, 5, none⟩ = some (.int .u32 v.f) := blk_cell hb' 5 rfl
    have c6 : w.cell? ⟨hb, 6, none⟩ = some (.int .u32 v.g) := blk_cell hb' 6 rfl
    have c7 : w.cell? ⟨hb, 7, none⟩ = some (.int .u32 v.h) := blk_cell hb' 7 rfl
    have hn := new_at (W := w) (o := .cells #[.int .u32 0, .int .u32 0, .int .u32 0, .int .u32 0, .int .u32 0, .int .u32 0, .int .u32 0, .int .u32 0] 161) rfl
    have hlt := blk_lt hb'
    clear hb' hr hf
    go_enter Tryd.func82, Tryd.ntmps82
    go_wp2
    refine bodyPost_ret (results_cell_row Tryd.results82 _ _ w.heap.size _ _ (0, 0) _ rfl (new_at rfl) Tryd.underlying161 rfl (by kernel_rfl)) rfl ⟨rfl, ?_⟩
    exact (Below.refl _ _).alloc (Nat.le_refl _) _

/-- Copy: the same in memory of its own. -/
theorem hcopy_any (hb : Nat) (V left : List Int) (many : Int) (w : World) (hH : IsH w hb V left many) (hl : left.length ≤ 140737488355328) :
    Calls Tryd.prog 84 #[.pointer (some ⟨hb, 0, none⟩)] w fun e w' => e = .returned (.pointer (some ⟨w.heap.size, 0, none⟩)) ∧ IsH w' w.heap.size V left many ∧ Below w.heap.size w w' := by
  obtain ⟨hlen, A, c, hb', hr⟩ := hH
  have hs10 := hrow_size V (.slice A left.length c) many hlen
  have hsz : (Tryd.prog.info? 163).map (·.size) = some (hrow V (.slice A left.length c) many).size := by rw [hs10]; kernel_rfl
  have hone := hrow_one V A left.length c many
  have Hold : Hid ((#[.int .u32 0, .int .u32 0, .int .u32 0, .int .u32 0, .int .u32 0, .int .u32 0, .int .u32 0, .int .u32 0, .slice none 0 0, .int .i64 0] : Array Value).size = (hrow V (.slice A left.length c) many).size) := Lib.hid hs10.symm
  have c8 : w.cell? ⟨hb, 8, none⟩ = some (.slice A left.length c) := blk_cell hb' 8 (hrow_get8 _ _ _ hlen)
  have hlt := blk_lt hb'
  have Hb := Lib.hid hb'
  have Hr := Lib.hid hr
  have Hsz := Lib.hid hsz
  have Hone := Lib.hid hone
  have Hs10 := Lib.hid hs10
  clear hb' hr hsz hs10 hone
  go_enter Tryd.func84, Tryd.ntmps84
  go_wp2_with (first | (with_reducible refine wpList_load_row rfl 163 _ rfl hb rfl _ _ (0, 0) _ Hb.out Tryd.underlying163 rfl Hsz.out ?_) | (with_reducible refine wpList_store_new rfl 163 _ _ rfl _ rfl rfl _ _ Hsz.out Hold.out Hone.out ?_) | (go_at_call 33; go_must (refine (clone_any A c left _ (Hr.out.alloc _) hl).mono ?_; rintro e w' ⟨v, rfl, h1, h2⟩; have hn : w'.heap[w.heap.size]? = some (.cells (hrow V (.slice A left.length c) many) 163 (0, 0)) := below_at h2 (new_at rfl) (by simp); have hc : w'.cell? ⟨w.heap.size, 8, none⟩ = some (.slice A left.length c) := blk_cell hn 8 (hrow_get8 _ _ _ hlen); have hf : w'.frozen? ⟨w.heap.size, 8, none⟩ = false := frozen_row hn 8; obtain ⟨A', c', rfl, hr', _⟩ := h1.rd; have Hn := Lib.hid hn; have Hr' := Lib.hid hr'; have H2 := Lib.hid h2; clear hn hr' h2 h1)))
  go_ret
  refine ⟨rfl, ⟨hlen, A', c', ?_, ?_⟩, ?_⟩
  · rw [blk_set Hn.out 8 _, hrow_set8 _ _ _ _ hlen]
  · exact Hr'.out.setCell hc (by simp) _
  · exact (((Below.refl _ w).alloc (Nat.le_refl _) _).trans (H2.out.mono (by simp))).setCell (p := ⟨w.heap.size, 8, none⟩) (Nat.le_refl _) _

/-- What Write leaves. -/
def hV (F R V left : List Int) (many : Int) (bs : List Int) : List Int := shaV R (if many < 64 then F else V) (left ++ bs) ((left ++ bs).length / 64)
def hLeft (left bs : List Int) : List Int := (left ++ bs).drop (64 * ((left ++ bs).length / 64))

set_option maxHeartbeats 2000000 in
theorem hwrite_any (F R : List Int) (hb : Nat) (V left : List Int) (many : Int) (A : Option Addr) (c m : Nat) (bs : List Int) (w : World) (hT : Tabs F R w) (hH : IsH w hb V left many) (hm : m = bs.length) (hr : Rd w A c bs)
    (hl : left.length + bs.length ≤ 140737488355000) (h0 : 0 ≤ many) (h1 : many ≤ 1000000000000000) (hhb : 2 < hb ∧ 1 < hb) :
    Calls Tryd.prog 66 #[.pointer (some ⟨hb, 0, none⟩), .slice A m c] w fun e w' => e = .returned (.pointer (some ⟨hb, 0, none⟩)) ∧ IsH w' hb (hV F R V left many bs) (hLeft left bs) (many + bs.length) ∧ Kp [hb] w w' := by
  have hH' := Lib.hid hH
  obtain ⟨hlen, A0, c0, hb', hr0⟩ := hH
  have hc8 : w.cell? ⟨hb, 8, none⟩ = some (.slice A0 left.length c0) := blk_cell hb' 8 (hrow_get8 _ _ _ hlen)
  have hlt := blk_lt hb'
  have hlt0 := Lib.hid hlt
  have HT := Lib.hid hT
  have Hr := Lib.hid hr
  have Hr0 := Lib.hid hr0
  have Hb := Lib.hid hb'
  have Hm := Lib.hid hm
  obtain ⟨v0, hv0⟩ : ∃ v0, v0 = if many < 64 then F else V := ⟨_, rfl⟩
  have hv0l : v0.length = 8 := by rw [hv0]; split; exact hT.fl; exact hlen
  have Hsz : Hid ((Tryd.prog.info? 161).map (·.size) = some (w32 v0).size) := Lib.hid (by rw [w32_size, hv0l]; kernel_rfl)
  have Hold : Hid ((#[.int .u32 0, .int .u32 0, .int .u32 0, .int .u32 0, .int .u32 0, .int .u32 0, .int .u32 0, .int .u32 0] : Array Value).size = (w32 v0).size) := Lib.hid (by rw [w32_size, hv0l]; rfl)
  have Hv0 := Lib.hid hv0
  have Hv0l := Lib.hid hv0l
  have hcf := fun W => cut_full A0 left.length c0 hr0.le .i64 .i64 W
  clear hT hr hr0 hb' hm hv0 hv0l
  go_enter Tryd.func66, Tryd.ntmps66
  go_wp2_with (first | (go_at_call 82; go_must (refine (words_any F R hb V left many w HT.out hH'.out).mono ?_; rw [← Hv0.out]; rintro e w1 ⟨rfl, hb1⟩; have Hb1 := Lib.hid hb1; have hc8 : w1.cell? ⟨hb, 8, none⟩ = some (.slice A0 left.length c0) := (hb1.cell (p := ⟨hb, 8, none⟩) hlt).trans hc8; have hlt := Nat.lt_of_lt_of_le hlt hb1.size; clear hb1)) | (with_reducible refine wpList_store_new rfl 161 _ _ rfl _ rfl rfl _ _ Hsz.out Hold.out (w32_one _) ?_))
  go_frame
  refine wp_region_quiet_tail_lit 16 (by kernel_rfl) (by kernel_rfl) ?_
  simp only [List.take_succ_cons, List.take_zero, List.drop_succ_cons, List.drop_zero]
  repeat (go_big_quiet_step (fail))
  refine wpQuiet_nil ?_
  rintro _ ⟨nq, rfl⟩
  go_wp2_with (at_builtin; go_must (refine app_full rfl _ _ rfl A0 left.length left rfl rfl (((Hr0.out.full.below Hb1.out).alloc _).drewN _) A c m bs rfl Hm.out (((Hr.out.below Hb1.out).alloc _).drewN _) (left.length + m) (by rw [Hm.out]) (by omega) ?_; intro A1 c1 w2 hr1 hb2 _; have Hr1 := Lib.hid hr1; have Hb2 := Lib.hid hb2; clear hr1 hb2))
  obtain ⟨all, hall⟩ : ∃ all, all = left ++ bs := ⟨_, rfl⟩
  have hlt1 : hb < w1.heap.size := hlt
  have Hblk : Hid (w2.heap[w1.heap.size]? = some (.cells (w32 v0) 161 (0, 0))) := Lib.hid (below_at Hb2.out (new_at rfl) (by simp))
  have HT2 : Hid (Tabs F R w2) := Lib.hid ((((HT.out.below Hb1.out).below ((Below.refl _ _).alloc (Nat.le_refl _) _)).drewN nq).below Hb2.out)
  have Hb12 : Hid (Below w1.heap.size w1 w2) := Lib.hid ((below_drewN ((Below.refl _ w1).alloc (Nat.le_refl _) _) nq).trans (Hb2.out.mono (by simp)))
  have Hn : Hid (left.length + m = all.length) := Lib.hid (by rw [hall, Hm.out, List.length_append])
  have Hall := Lib.hid hall
  have Hr1' : Hid (Rd w2 A1 c1 all) := Lib.hid (by rw [hall]; exact Hr1.out)
  clear Hb2 Hr1 hcf hall
  go_loopw [6] (fun s wr => ∃ (j n : Nat) (A : Option Addr) (c : Nat), s = .slice A n c ∧ Hid (64 * j + n = all.length) ∧ Hid (Rd wr A c (all.drop (64 * j))) ∧ Hid (wr.heap[w1.heap.size]? = some (.cells (w32 (shaV R v0 all j)) 161 (0, 0))) ∧ Hid (Below w1.heap.size w1 wr))
    (fun s _ => match s with | .slice _ n _ => n | _ => 0)
  case atStart => exact ⟨0, left.length + m, A1, c1, rfl, by rw [Nat.mul_zero, Nat.zero_add]; exact Hn.out, Hr1'.out, Hblk.out, Hb12.out⟩
  case round =>
    clear Hblk Hb12 Hr1' Hn
    obtain ⟨j, n, A2, c2, rfl, Hn, Hr2, Hblk, HB⟩ := hrel
    by_cases h64 : 64 ≤ n
    · have hdl : (all.drop (64 * j)).length = n := by have := Hn.out; rw [List.length_drop]; omega
      obtain ⟨b, off, rfl, hc⟩ := Hr2.out.cells (by omega)
      obtain ⟨A', hcut, hA', _⟩ := cut_lo (some ⟨b, off, none⟩) n c2 64 h64
      have hcut := hcut .i64
      have hn : n ≤ 9223372036854775807 := by have := Hr2.out.len; omega
      have hsz : Hid ((Tryd.prog.info? 161).map (·.size) = some (w32 (shaV R v0 all j)).size) := Lib.hid (by rw [w32_size, shaV_len, Hv0l.out]; kernel_rfl)
      have hold : Hid ((w32 (shaV R v0 all j)).size = (w32 (shaV R v0 all (j + 1))).size) := Lib.hid (by rw [w32_size, w32_size, shaV_len, shaV_len])
      have hsz1 : Hid ((Tryd.prog.info? 161).map (·.size) = some (w32 (shaV R v0 all (j + 1))).size) := Lib.hid (by rw [w32_size, shaV_len, Hv0l.out]; kernel_rfl)
      have HA' := Lib.hid hA'
      have Hc := Lib.hid hc
      clear hc hA' hdl
      go_wp2
      refine region_begin (by kernel_rfl) ?_
      have Hblk1 : Hid (wr.drew.heap[w1.heap.size]? = some (.cells (w32 (shaV R v0 all j)) 161 (0, 0))) := Lib.hid Hblk.out
      have HB1 : Hid (Below w1.heap.size w1 wr.drew) := Lib.hid HB.out.drew
      have Hr3 : Hid (Rd wr.drew (some ⟨b, off, none⟩) c2 (all.drop (64 * j))) := Lib.hid (Hr2.out.drewN 1)
      have HT3 : Hid (Tabs F R wr.drew) := Lib.hid ((HT.out.below Hb1.out).kp (Kp.of_below (S := []) HB1.out) (by simp) (by simp))
      clear Hblk HB Hr2 HT2 Hc
      generalize wr.drew = wd at *
      refine region_take 1 (.slice (some ⟨b, off, none⟩) n c2) rfl (by kernel_rfl) (by kernel_rfl) (by kernel_rfl) (fun _ _ _ h => h) rfl (fun W => rfl) ?_
      refine region_take 3 (.slice (some ⟨b, off, none⟩) n c2) rfl (by kernel_rfl) (by kernel_rfl) (by kernel_rfl) (fun _ _ _ h => h) rfl (fun W => rfl) ?_
      refine region_take 4 (.slice A' (n - 64) (c2 - 64)) rfl (by kernel_rfl) (by kernel_rfl) (by kernel_rfl) (fun _ _ _ h => h) rfl (fun W => yields_slice _ _ Tryd.underlying22 _ _ _ _ rfl _ _ _ rfl (hcut W)) ?_
      (refine region_order [0, 2, 5, 6] _ _ _ (by kernel_rfl) ?_ _ rfl; simp only [pick, List.getElem?_toArray, List.getElem_toArray, List.getElem_cons_zero, List.getElem_cons_succ, List.getElem?_cons_zero, List.getElem?_cons_succ, Act.put, List.setIfInBounds_toArray, List.set_cons_zero, List.set_cons_succ])
      go_wp2_with (first | (with_reducible refine wpList_load_row rfl 161 _ rfl w1.heap.size rfl _ _ (0, 0) _ Hblk1.out Tryd.underlying161 rfl hsz.out ?_) | (with_reducible refine wpList_store_row rfl 161 _ _ rfl w1.heap.size _ rfl rfl _ _ (below_at hbt.out Hblk1.out (blk_lt Hblk1.out)) hsz1.out hold.out (w32_one _) ?_) | (go_at_call 83; go_must (refine (take_list R (shaV R v0 all j) (by rw [shaV_len]; exact Hv0l.out) b off n c2 h64 (all.drop (64 * j)) wd (fun i hi => Hr3.out.cell i (by have := Hn.out; rw [List.length_drop]; omega)) HT3.out.r HT3.out.rl).mono ?_; rintro e wt ⟨he, hbt'⟩; obtain rfl : e = .returned (.agg (w32 (shaV R v0 all (j + 1)))) := he; have hbt := Lib.hid hbt'; clear hbt')))
      go_roundw
      case rel =>
        refine ⟨j + 1, n - 64, A', c2 - 64, rfl, Lib.hid (by have := Hn.out; omega), Lib.hid ?_, Lib.hid (setRow_heap _ _ _ _ _ _ (below_at hbt.out Hblk1.out (blk_lt Hblk1.out))), Lib.hid (below_setRow (HB1.out.trans (hbt.out.mono HB1.out.size)) (Nat.le_refl _) _)⟩
        have h1 := HA'.out _ _ (by have := Hn.out; rw [List.length_drop]; omega) (Hr3.out.below hbt.out)
        rw [List.drop_drop, show 64 * j + 64 = 64 * (j + 1) by omega] at h1
        exact h1.setRow (below_at hbt.out Hblk1.out (blk_lt Hblk1.out)) _
      case measure => show n - 64 < n; omega
    · have hj : Hid (j = all.length / 64) := Lib.hid (by have := Hn.out; omega)
      have hdl : (all.drop (64 * j)).length = n := by have := Hn.out; rw [List.length_drop]; omega
      have hn : n < 64 := by omega
      have Hbr : Hid (wr.drew.heap[hb]? = some (.cells (hrow V (.slice A0 left.length c0) many) 163 (0, 0))) := Lib.hid (below_at HB.out.drew (below_at Hb1.out Hb.out hlt0.out) hlt1)
      go_wp2
      refine seg_begin (fun W => Below w1.heap.size w1 W ∧ W.heap[w1.heap.size]? = some (.cells (w32 (shaV R v0 all j)) 161 (0, 0)) ∧ W.cell? ⟨hb, 9, none⟩ = some (.int .i64 many)) [3, 5, 9] (by kernel_rfl) ?_
      have hS : Below w1.heap.size w1 wr.drew ∧ wr.drew.heap[w1.heap.size]? = some (.cells (w32 (shaV R v0 all j)) 161 (0, 0)) ∧ wr.drew.cell? ⟨hb, 9, none⟩ = some (.int .i64 many) :=
        ⟨HB.out.drew, Hblk.out, blk_cell Hbr.out 9 (hrow_get9 _ _ _ hlen)⟩
      have HS := Lib.hid hS
      have Hr3 : Hid (Rd wr.drew A2 c2 (all.drop (64 * j))) := Lib.hid (Hr2.out.drewN 1)
      clear hS Hr2 Hblk HB
      generalize wr.drew = wd at *
      (refine seg_take 0 ?_ rfl (by kernel_rfl) (by kernel_rfl) (by kernel_rfl) (by kernel_rfl) (by kernel_rfl) rfl (fun _ _ _ h => h) rfl ?_ ?_; rotate_left; (focus (intro w; go_simp; try with_reducible rfl)); (try simp only [List.getElem_toArray, List.getElem_cons_zero, List.getElem_cons_succ, Act.put, List.setIfInBounds_toArray, List.set_cons_zero, List.set_cons_succ]); refine seg_take 1 ?_ rfl (by kernel_rfl) (by kernel_rfl) (by kernel_rfl) (by kernel_rfl) (by kernel_rfl) rfl (fun _ _ _ h => h) rfl ?_ ?_; rotate_left; (focus (intro w; go_simp; try with_reducible rfl)); (try simp only [List.getElem_toArray, List.getElem_cons_zero, List.getElem_cons_succ, Act.put, List.setIfInBounds_toArray, List.set_cons_zero, List.set_cons_succ]); refine seg_take 2 ?_ rfl (by kernel_rfl) (by kernel_rfl) (by kernel_rfl) (by kernel_rfl) (by kernel_rfl) rfl (fun _ _ _ h => h) rfl ?_ ?_; rotate_left; (focus (intro w; go_simp; try with_reducible rfl)); (try simp only [List.getElem_toArray, List.getElem_cons_zero, List.getElem_cons_succ, Act.put, List.setIfInBounds_toArray, List.set_cons_zero, List.set_cons_succ]); refine seg_take 4 ?_ rfl (by kernel_rfl) (by kernel_rfl) (by kernel_rfl) (by kernel_rfl) (by kernel_rfl) rfl (fun _ _ _ h => h) rfl ?_ ?_; rotate_left; (focus (intro w; go_simp; try with_reducible rfl)); (try simp only [List.getElem_toArray, List.getElem_cons_zero, List.getElem_cons_succ, Act.put, List.setIfInBounds_toArray, List.set_cons_zero, List.set_cons_succ]); refine seg_take 6 ?_ rfl (by kernel_rfl) (by kernel_rfl) (by kernel_rfl) (by kernel_rfl) (by kernel_rfl) rfl (fun _ _ _ h => h) rfl ?_ ?_; rotate_left; (focus (intro w; go_simp; try with_reducible rfl)); (try simp only [List.getElem_toArray, List.getElem_cons_zero, List.getElem_cons_succ, Act.put, List.setIfInBounds_toArray, List.set_cons_zero, List.set_cons_succ]); refine seg_take 7 ?_ rfl (by kernel_rfl) (by kernel_rfl) (by kernel_rfl) (by kernel_rfl) (by kernel_rfl) rfl (fun _ _ _ h => h) rfl ?_ ?_; rotate_left; (focus (intro w; go_simp; try with_reducible rfl)); (try simp only [List.getElem_toArray, List.getElem_cons_zero, List.getElem_cons_succ, Act.put, List.setIfInBounds_toArray, List.set_cons_zero, List.set_cons_succ]); refine seg_take 8 ?_ rfl (by kernel_rfl) (by kernel_rfl) (by kernel_rfl) (by kernel_rfl) (by kernel_rfl) rfl (fun _ _ _ h => h) rfl ?_ ?_; rotate_left; (focus (intro w; go_simp; try with_reducible rfl)); (try simp only [List.getElem_toArray, List.getElem_cons_zero, List.getElem_cons_succ, Act.put, List.setIfInBounds_toArray, List.set_cons_zero, List.set_cons_succ]); refine seg_take 10 ?_ rfl (by kernel_rfl) (by kernel_rfl) (by kernel_rfl) (by kernel_rfl) (by kernel_rfl) rfl (fun _ _ _ h => h) rfl ?_ ?_; rotate_left; (focus (intro w; go_simp; try with_reducible rfl)); (try simp only [List.getElem_toArray, List.getElem_cons_zero, List.getElem_cons_succ, Act.put, List.setIfInBounds_toArray, List.set_cons_zero, List.set_cons_succ]); refine seg_take 11 ?_ rfl (by kernel_rfl) (by kernel_rfl) (by kernel_rfl) (by kernel_rfl) (by kernel_rfl) rfl (fun _ _ _ h => h) rfl ?_ ?_; rotate_left; (focus (intro w; go_simp; try with_reducible rfl)); (try simp only [List.getElem_toArray, List.getElem_cons_zero, List.getElem_cons_succ, Act.put, List.setIfInBounds_toArray, List.set_cons_zero, List.set_cons_succ]); refine seg_read 9 ?_ rfl (by kernel_rfl) (by kernel_rfl) (by kernel_rfl) (by kernel_rfl) (by kernel_rfl) (by kernel_rfl) (fun _ _ _ h => h) rfl HS.out ?_ ?_; rotate_left; (focus (intro w hSw; (try dsimp only at hSw); go_split_ands; go_simp; try with_reducible rfl)); (try simp only [List.getElem_toArray, List.getElem_cons_zero, List.getElem_cons_succ, Act.put, List.setIfInBounds_toArray, List.set_cons_zero, List.set_cons_succ]); refine seg_take 12 ?_ rfl (by kernel_rfl) (by kernel_rfl) (by kernel_rfl) (by kernel_rfl) (by kernel_rfl) rfl (fun _ _ _ h => h) rfl ?_ ?_; rotate_left; (focus (intro w; go_simp; try with_reducible rfl)); (try simp only [List.getElem_toArray, List.getElem_cons_zero, List.getElem_cons_succ, Act.put, List.setIfInBounds_toArray, List.set_cons_zero, List.set_cons_succ]))
      have Hsz1 : Hid ((Tryd.prog.info? 161).map (·.size) = some (w32 (shaV R v0 all j)).size) := Lib.hid (by rw [w32_size, shaV_len, Hv0l.out]; kernel_rfl)
      (refine seg_read 3 (.agg (w32 (shaV R v0 all j))) rfl (by kernel_rfl) (by kernel_rfl) (by kernel_rfl) (by kernel_rfl) (by kernel_rfl) (by kernel_rfl) (fun _ _ _ h => h) rfl HS.out (fun W hW => yields_load_row 161 _ rfl w1.heap.size rfl _ _ _ _ hW.2.1 Tryd.underlying161 rfl Hsz1.out) ?_; (try simp only [List.getElem_toArray, List.getElem_cons_zero, List.getElem_cons_succ, Act.put, List.setIfInBounds_toArray, List.set_cons_zero, List.set_cons_succ]))
      (refine seg_rest [5, 13, 14, 15, 16, 17, 18, 19, 20, 21] _ _ _ (by kernel_rfl) ?_ _ rfl)
      (refine segs_in rfl ?_; (simp only [pick, List.getElem?_toArray, List.getElem_toArray, List.getElem_cons_zero, List.getElem_cons_succ, List.getElem?_cons_zero, List.getElem?_cons_succ, Act.put, List.setIfInBounds_toArray, List.set_cons_zero, List.set_cons_succ]))
      have hcl := fun W (hW : Rd W A2 c2 (all.drop (64 * j))) => clone_any A2 c2 (all.drop (64 * j)) W hW (by rw [hdl]; omega)
      simp only [hdl] at hcl
      go_wp2_with (first | (go_at_call 33; go_must (refine (hcl _ Hr3.out).mono ?_; rintro e w' ⟨v, rfl, ho, hb⟩)))
      refine ⟨fun _ => ⟨HS.out.1.trans (hb.mono HS.out.1.size), below_at hb HS.out.2.1 (blk_lt HS.out.2.1), (hb.cell (p := ⟨_, 9, none⟩) (World.block_lt_of_cell? wd _ HS.out.2.2)).trans HS.out.2.2⟩, ?_⟩
      (refine segs_out rfl ?_; (simp only [pick, List.getElem?_toArray, List.getElem_toArray, List.getElem_cons_zero, List.getElem_cons_succ, List.getElem?_cons_zero, List.getElem?_cons_succ, Act.put, List.setIfInBounds_toArray, List.set_cons_zero, List.set_cons_succ]))
      have hbw := below_at hb Hbr.out (blk_lt Hbr.out)
      obtain ⟨A3, c3, rfl, hr3, ha3⟩ := ho.rd
      have Hbw := Lib.hid hbw
      have Hb2 := Lib.hid hb
      have Hr4 := Lib.hid hr3
      have Ha3 := Lib.hid ha3
      clear hbw hb hr3 ha3 ho Hbr hcl
      have hth : Hid (w'.there hb 0 (w32 (shaV R v0 all j)).size) := Lib.hid (there_row Hbw.out 0 _ (by rw [w32_size, shaV_len, Hv0l.out, hrow_size _ _ _ hlen]; omega))
      go_wp2_with (first | ((with_reducible refine wpList_store_mid rfl 161 _ _ rfl hb 0 (w32 (shaV R v0 all j)) rfl rfl hth.out Hsz1.out (w32_one _) ?_); go_must (have hq : (w'.setCells hb 0 (w32 (shaV R v0 all j)).toList).heap[hb]? = some (.cells (hrow (shaV R v0 all j) (.slice A0 left.length c0) many) 163 (0, 0)) := (by have h1 := blk_setCells (w32 (shaV R v0 all j)).toList 0 _ _ Hbw.out; rw [hrow, setAll_head _ _ _ (by rw [w32_size, w32_size, shaV_len, hlen, Hv0l.out])] at h1; exact h1); have hc1 := blk_cell hq 8 (hrow_get8 _ _ _ (by rw [shaV_len]; exact Hv0l.out)); have hf1 := frozen_row hq 8; have hc2 := blk_cell hq 9 (hrow_get9 _ _ _ (by rw [shaV_len]; exact Hv0l.out)); have hf2 := frozen_row hq 9)))
      have Hq := Lib.hid hq
      clear hq hf1 hc2 hf2
      go_ret
      have hsl : (shaV R v0 all j).length = 8 := by rw [shaV_len]; exact Hv0l.out
      have hne : ∀ a, A3 = some a → a.block ≠ hb := fun a e h => by have := (Ha3.out a e).1; have := blk_lt Hbw.out; have h3 := HS.out.1.size; rw [h] at *; omega
      have hwr : wrap64 (many + (m : Int)) = many + bs.length := by rw [Hm.out]; exact IntWalk.wrap64_in _ (by omega)
      refine ⟨rfl, ⟨by rw [hV, shaV_len, ← Hv0.out]; exact Hv0l.out, A3, c3, ?_, ?_⟩, ?_⟩
      · rw [blk_set (blk_set Hq.out 8 _) 9 _, hrow_set8 _ _ _ _ hsl, hrow_set9 _ _ _ _ hsl, hwr]
        have e1 : hV F R V left many bs = shaV R v0 all j := by rw [hV, ← Hv0.out, ← Hall.out, ← hj.out]
        have e2 : (hLeft left bs).length = n := by rw [hLeft, ← Hall.out, ← hj.out]; exact hdl
        rw [e1, e2]
      · have e3 : hLeft left bs = all.drop (64 * j) := by rw [hLeft, ← Hall.out, ← hj.out]
        rw [e3]
        exact Hr4.out.kp (S := [hb]) (((Kp.setCells _ _ (Kp.refl _ _) (by simp)).setCell (p := ⟨hb, 8, none⟩) (by simp) _).setCell (p := ⟨hb, 9, none⟩) (by simp) _) (by simpa using hne)
      · have k1 : Kp [hb] w w' := ((Kp.of_below Hb1.out).then (Kp.of_below HS.out.1)).then (Kp.of_below Hb2.out)
        exact ((k1.setCells _ _ (by simp)).setCell (p := ⟨hb, 8, none⟩) (by simp) _).setCell (p := ⟨hb, 9, none⟩) (by simp) _
end Go.Proofs.YtiboflejmnjdhaaDoor
end
section
set_option linter.unusedVariables false
set_option linter.unusedSimpArgs false
set_option maxRecDepth 100000
namespace Go.Proofs.YtiboflejmnjdhaaDoor
open Go.RowKit
def shaK (many : Int) : Nat := ((55 - many) % 64).toNat
def shaPad (many : Int) : List Int := 128 :: List.replicate (shaK many) 0 ++ beTo (many * 8) 8
/-- The first i bytes of eight words. -/
def shaBytes (V : List Int) (i : Nat) : List Int := (List.range i).map fun k => V.getD (k / 4) 0 / 2 ^ (24 - 8 * (k % 4)) % 256
def shaEnd (F R V left : List Int) (many : Int) : List Int := shaBytes (hV F R V left many (shaPad many)) 32
theorem shaBytes_len (V : List Int) (i : Nat) : (shaBytes V i).length = i := by simp [shaBytes]
def shaOut (V : List Int) (i : Nat) : List Int := shaBytes V i ++ List.replicate (32 - i) 0

theorem shaOut_set (V : List Int) (k : Nat) (hk : k < 32) (x : Int) (hx : x = V.getD (k / 4) 0 / 2 ^ (24 - 8 * (k % 4)) % 256) : (shaOut V k).set k x = shaOut V (k + 1) := by
  have e : List.replicate (32 - k) (0 : Int) = 0 :: List.replicate (32 - (k + 1)) 0 := by rw [← List.replicate_succ]; congr 1; omega
  unfold shaOut
  rw [List.set_append, if_neg (by rw [shaBytes_len]; omega), shaBytes_len, Nat.sub_self, e, List.set_cons_zero]
  rw [show shaBytes V (k + 1) = shaBytes V k ++ [x] by rw [hx]; simp [shaBytes, List.range_succ]]
  simp
theorem Own.rds {w : World} {base : Nat} {A : Option Addr} {n c : Nat} {xs : List Int} (h : Own w base (.slice A n c) xs) : n = xs.length ∧ Rd w A c xs := by
  obtain ⟨A', c', e, hr, _⟩ := h.rd
  injection e with h1 h2 h3
  subst h1 h3
  exact ⟨h2, hr⟩

set_option maxHeartbeats 4000000 in
theorem hsum_any (F R : List Int) (hb : Nat) (V left : List Int) (many : Int) (w : World) (hT : Tabs F R w) (hH : IsH w hb V left many) (hl : left.length ≤ 140737488350000) (h0 : 0 ≤ many) (h1 : many ≤ 100000000000000) :
    Calls Tryd.prog 67 #[.pointer (some ⟨hb, 0, none⟩)] w fun e w' => e = .returned (.agg (w8 (shaEnd F R V left many))) ∧ Below w.heap.size w w' := by
  have HT := Lib.hid hT
  have HH := Lib.hid hH
  have hlt : Hid (hb < w.heap.size) := Lib.hid (by obtain ⟨_, _, _, h, _⟩ := hH; exact blk_lt h)
  clear hT hH
  go_enter Tryd.func67, Tryd.ntmps67
  go_wp2_with (first | (go_at_call 84; go_must (refine (hcopy_any hb V left many _ (HH.out.kp (S := []) ((Below.refl _ _).alloc (Nat.le_refl _) _)) (by omega)).mono ?_; rintro e wc ⟨rfl, hH1, hB1⟩; have HB1 := Lib.hid (((Below.refl w.heap.size w).alloc (Nat.le_refl _) _).trans (hB1.mono (by simp))); have HO1 := Lib.hid (below_at hB1 (new_at rfl) (by simp)); simp only [World.size_alloc] at hH1; have HH1 := Lib.hid hH1; clear hH1 hB1)))
  obtain ⟨hlen, A9, c9, hb9, hr9⟩ := HH1.out
  have Hb9 := Lib.hid hb9
  have hltc : Hid (w.heap.size + 1 < wc.heap.size) := Lib.hid (blk_lt hb9)
  clear hb9 hr9
  go_loopw [4] (fun s wr => ∃ (k : Nat) (A : Option Addr) (c : Nat), k ≤ shaK many ∧ s = .slice A (k + 1) c ∧ Hid (Own wr wc.heap.size (.slice A (k + 1) c) (128 :: List.replicate k 0)) ∧ Hid (Below wc.heap.size wc wr))
    (fun s _ => match s with | .slice _ n _ => shaK many + 1 - n | _ => 0)
  case atStart => exact ⟨0, _, _, by omega, rfl, Lib.hid (Own.new wc _ [128] (Nat.le_refl _) (by simp)), Lib.hid ((Below.refl _ _).alloc (Nat.le_refl _) _)⟩
  case round =>
    obtain ⟨k, A, c, hk, rfl, Ho, hB⟩ := hrel
    have hK : shaK many < 64 := by unfold shaK; omega
    have hcell : wr.cell? ⟨w.heap.size + 1, 9, none⟩ = some (.int .i64 many) := (hB.out.cell (p := ⟨w.heap.size + 1, 9, none⟩) hltc.out).trans (blk_cell Hb9.out 9 (hrow_get9 _ _ _ hlen))
    by_cases hke : k = shaK many
    · subst hke
      have hcond : ((many + ((shaK many : Int) + 1)) % 64 != 56) = false := by rw [bne_eq_false_iff_eq]; unfold shaK; omega
      go_wp2
      obtain ⟨P1, hP1⟩ : ∃ P1, P1 = 128 :: List.replicate (shaK many) (0 : Int) := ⟨_, rfl⟩
      have hPl : P1.length = shaK many + 1 := by rw [hP1]; simp
      rw [← hP1] at Ho
      have HP1 := Lib.hid hP1
      clear hP1 hcell
      obtain ⟨wo, rfl⟩ : ∃ wo : World, wo = wr := ⟨_, rfl⟩
      go_loopw [4, 25] (fun s i wr => ∃ (k : Nat) (A : Option Addr) (c : Nat), k ≤ 8 ∧ i = .int .i64 k ∧ s = .slice A (shaK many + 1 + k) c ∧ Hid (Own wr wc.heap.size (.slice A (shaK many + 1 + k) c) (P1 ++ beTo (many * 8) k)) ∧ Hid (Below wc.heap.size wc wr))
        (fun _ i _ => 8 - (intOf i).toNat)
      case atStart => exact ⟨0, A, c, by omega, rfl, rfl, Lib.hid (by simpa [beTo] using Ho.out), hB⟩
      case round =>
        clear Ho hB hcond hk
        obtain ⟨k, A, c, hk, rfl, rfl, Ho, hB⟩ := hrel
        have hcell : wr.cell? ⟨w.heap.size + 1, 9, none⟩ = some (.int .i64 many) := (hB.out.cell (p := ⟨w.heap.size + 1, 9, none⟩) hltc.out).trans (blk_cell Hb9.out 9 (hrow_get9 _ _ _ hlen))
        by_cases hk8 : k < 8
        · go_wp2_with (at_builtin; go_must (refine app_rd rfl _ _ rfl wc.heap.size (.slice A (shaK many + 1 + k) c) (P1 ++ beTo (many * 8) k) rfl (Ho.out.alloc _) _ _ _ [many * 8 / 2 ^ (56 - 8 * k) % 256] rfl rfl (Rd.new1 wr _ _ _) (shaK many + 1 + k + 1) (by simp [hPl, beTo_len]) (by simp [hPl, beTo_len]; omega) (by simp; have := hB.out.size; omega) ?_; intro A' c' w1 ho hg hat; have Ho2 := Lib.hid ho; have Hg := Lib.hid hg; clear ho hg hat))
          go_roundw
          case rel => exact ⟨k + 1, A', c', by omega, by go_num, rfl, Lib.hid (by have e1 : 8 * (7 - k) = 56 - 8 * k := (by omega); rw [beTo_succ, ← List.append_assoc, e1]; exact Ho2.out), Lib.hid ((hB.out.alloc hB.out.size _).grown Hg.out (by simp; have := hB.out.size; omega) (fun j hj => (Ho.out.lt j hj).1))⟩
          case measure => simp [intOf]; omega
        · obtain rfl : k = 8 := by omega
          have hr := Ho.out.rds.2
          have hpad : P1 ++ beTo (many * 8) 8 = shaPad many := by rw [shaPad, HP1.out]
          have hpl : shaK many + 1 + 8 = (shaPad many).length := by rw [← hpad, List.length_append, hPl, beTo_len]
          rw [hpad] at hr
          have Hr := Lib.hid hr
          have Hpl := Lib.hid hpl
          have HT3 : Hid (Tabs F R wr) := Lib.hid ((HT.out.below HB1.out).below hB.out)
          have HO2 := Lib.hid (below_at hB.out HO1.out (by have := hltc.out; omega))
          have hBo := hB
          obtain ⟨wq, rfl⟩ : ∃ wq : World, wq = wr := ⟨_, rfl⟩
          clear hr hpl hpad Ho HO1 hcell
          go_wp2_with (first | (go_at_call 66; go_must (refine (hwrite_any F R (w.heap.size + 1) V left many A c (shaK many + 1 + 8) (shaPad many) wq HT3.out (HH1.out.kp (S := []) hB.out) Hpl.out Hr.out (by rw [← Hpl.out]; omega) h0 (by omega) ⟨(by have := blk_lt HT.out.r; omega), (by have := blk_lt HT.out.f; omega)⟩).mono ?_; rintro e ww ⟨rfl, hH2, hK2⟩; have HH2 := Lib.hid hH2; have HK2 := Lib.hid hK2; clear hH2 hK2)))
          obtain ⟨hlen2, A4, c4, hb4, hr4⟩ := HH2.out
          obtain ⟨V2, hV2⟩ : ∃ V2, V2 = hV F R V left many (shaPad many) := ⟨_, rfl⟩
          rw [← hV2] at hb4 hlen2
          have Hb4 := Lib.hid hb4
          have HV2 := Lib.hid hV2
          have Hlen2 := Lib.hid hlen2
          have HO3 : Hid (ww.heap[w.heap.size]? = some (.cells (w8 (shaOut V2 0)) 45 (0, 0))) := Lib.hid (by rw [HK2.out.block _ (by have := blk_lt HO2.out; omega) (by simp)]; exact HO2.out)
          clear hb4 hr4 hV2 HO2 HH2 Hr HT3 hlen2
          go_loopw [45] (fun i wr => ∃ k : Nat, k ≤ 32 ∧ i = .int .i64 k ∧ Hid (wr.heap[w.heap.size]? = some (.cells (w8 (shaOut V2 k)) 45 (0, 0))) ∧ Hid (Kp [w.heap.size] ww wr))
            (fun i _ => 32 - (intOf i).toNat)
          case atStart => exact ⟨0, by omega, rfl, HO3, Lib.hid (Kp.refl _ _)⟩
          case round =>
            clear HO3
            obtain ⟨k, hk, rfl, Ho, hK⟩ := hrel
            by_cases hk32 : k < 32
            · have hcv : wr.cell? ⟨w.heap.size + 1, k / 4, none⟩ = some (.int .u32 (V2.getD (k / 4) 0)) := (hK.out.cell (a := ⟨w.heap.size + 1, k / 4, none⟩) (blk_cell Hb4.out (k / 4) (by rw [hrow, Array.getElem?_append_left (by rw [w32_size, Hlen2.out]; omega)]; exact w32_get _ _ (by rw [Hlen2.out]; omega))) (by simp))
              have hco : wr.cell? ⟨w.heap.size, k, none⟩ = some (.int .u8 ((shaOut V2 k).getD k 0)) := cell_w8 Ho.out k (by simp [shaOut, shaBytes_len]; omega)
              have hfo := frozen_row Ho.out k
              go_wp2
              go_roundw
              case rel => exact ⟨k + 1, by omega, by go_num, Lib.hid (by rw [← shaOut_set V2 k hk32 _ rfl]; exact set_w8 Ho.out k _), Lib.hid (hK.out.setCell (p := ⟨w.heap.size, k, none⟩) (by simp) _)⟩
              case measure => simp [intOf]; omega
            · obtain rfl : k = 32 := by omega
              have hsz : Hid ((Tryd.prog.info? 45).map (·.size) = some (w8 (shaOut V2 32)).size) := Lib.hid (by rw [w8_size, shaOut, List.length_append, shaBytes_len]; kernel_rfl)
              go_wp2_with (first | (with_reducible refine wpList_load_row rfl 45 _ rfl w.heap.size rfl _ _ (0, 0) _ Ho.out Tryd.underlying45 rfl hsz.out ?_) | (with_reducible refine wpList_store_row rfl 45 _ _ rfl w.heap.size _ rfl rfl _ _ Ho.out hsz.out rfl (w8_one _) ?_))
              refine bodyPost_ret (results_cell_row Tryd.results67 _ _ w.heap.size _ _ (0, 0) _ rfl (setRow_heap _ _ _ _ _ _ Ho.out) Tryd.underlying45 rfl hsz.out) rfl ⟨?_, ?_⟩
              · rw [shaEnd, ← HV2.out, shaOut]; simp
              · have k1 : Kp [w.heap.size, w.heap.size + 1] w wr := (((Kp.of_below HB1.out).then (Kp.of_below hBo.out)).trans HK2.out (by simp)).trans hK.out (by simp)
                exact (k1.setRow (g := w.heap.size) (by simp) _).below (Nat.le_refl _) (by simp)
    · have hcond : ¬ (many + ((k + 1 : Nat) : Int)) % 64 = 56 := by intro h; apply hke; unfold shaK at hk ⊢; omega
      go_wp2_with (at_builtin; go_must (refine app_rd rfl _ _ rfl wc.heap.size (.slice A (k + 1) c) (128 :: List.replicate k 0) rfl (Ho.out.alloc _) _ _ _ [0] rfl rfl (Rd.new1 wr _ _ _) (k + 2) (by simp) (by simp; omega) (by simp; have := hB.out.size; omega) ?_; intro A' c' w1 ho hg hat; have Ho2 := Lib.hid ho; have Hg := Lib.hid hg; clear ho hg hat))
      go_roundw
      case rel => exact ⟨k + 1, A', c', by omega, rfl, Lib.hid (by simpa [List.replicate_succ'] using Ho2.out), Lib.hid ((hB.out.alloc hB.out.size _).grown Hg.out (by simp; have := hB.out.size; omega) (fun j hj => (Ho.out.lt j hj).1))⟩
      case measure => show shaK many + 1 - (k + 2) < shaK many + 1 - (k + 1); omega

/-- The digest of a text. -/
def shaSum (F R bs : List Int) : List Int := shaEnd F R (hV F R [0, 0, 0, 0, 0, 0, 0, 0] [] 0 bs) (hLeft [] bs) bs.length
theorem shaSum_len (F R bs : List Int) : (shaSum F R bs).length = 32 := shaBytes_len _ _
theorem hLeft_len (left bs : List Int) : (hLeft left bs).length < 64 := by simp only [hLeft, List.length_drop, List.length_append]; omega

theorem sha_new2 (w : World) : Calls Tryd.prog 65 #[] w fun e w' => e = .returned (.pointer (some ⟨w.heap.size, 0, none⟩)) ∧ IsH w' w.heap.size [0, 0, 0, 0, 0, 0, 0, 0] [] 0 ∧ Below w.heap.size w w' :=
  (sha_new w).mono fun e w' h => ⟨h.1, by rw [h.2]; exact IsH.new w, by rw [h.2]; exact (Below.refl _ _).alloc (Nat.le_refl _) _⟩
set_option maxHeartbeats 400000 in
theorem sum_any (F R : List Int) (A : Option Addr) (c m : Nat) (bs : List Int) (w : World) (hT : Tabs F R w) (hm : m = bs.length) (hr : Rd w A c bs) (hl : bs.length ≤ 100000000000000) :
    Calls Tryd.prog 62 #[.slice A m c] w fun e w' => e = .returned (.agg (w8 (shaSum F R bs))) ∧ Below w.heap.size w w' := by
  have HT := Lib.hid hT
  have Hr := Lib.hid hr
  have hg : Hid (2 < w.heap.size ∧ 1 < w.heap.size) := Lib.hid ⟨blk_lt hT.r, blk_lt hT.f⟩
  have Hm := Lib.hid hm
  clear hT hr hm
  go_enter Tryd.func62, Tryd.ntmps62
  go_wp2_with (first
    | (go_at_call 65; go_must (refine (sha_new2 _).mono ?_; rintro e w1 ⟨rfl, h1, h2⟩; have Ho1 := Lib.hid (below_at h2 (new_at rfl) (by simp)); have Hb1 : Hid (Below w.heap.size w w1) := Lib.hid (((Below.refl w.heap.size w).alloc (Nat.le_refl _) _).trans (h2.mono (by simp))); simp only [World.size_alloc] at h1; have Hn := Lib.hid h1; clear h1 h2))
    | (go_at_call 66; go_must (refine (hwrite_any F R (w.heap.size + 1) _ _ _ A c m bs w1 (HT.out.below Hb1.out) Hn.out Hm.out (Hr.out.below Hb1.out) (by simp; omega) (by omega) (by omega) (by have := hg.out; omega)).mono ?_; rintro e w2 ⟨rfl, h1, h2⟩; rw [Int.zero_add] at h1; have HH := Lib.hid h1; have Hb2 : Hid (Below w.heap.size w w2) := Lib.hid (((Kp.of_below Hb1.out).trans h2 (T := [w.heap.size + 1]) (S := []) (by simp)).nil); have Ho2 := Lib.hid (h2.at_ Ho1.out (by simp)); clear h1 h2 Ho1))
    | (go_at_call 67; go_must (refine (hsum_any F R (w.heap.size + 1) _ _ _ w2 (HT.out.below Hb2.out) HH.out (by have := hLeft_len [] bs; omega) (by omega) (by omega)).mono ?_; rintro e w3 ⟨he, h3⟩; obtain rfl : e = .returned (.agg (w8 (shaSum F R bs))) := he; have Hb3 : Hid (Below w.heap.size w w3) := Lib.hid (Hb2.out.trans (h3.mono Hb2.out.size)); obtain ⟨old, Ho3', hold'⟩ : ∃ old, w3.heap[w.heap.size]? = some (.cells old 45 (0, 0)) ∧ old.size = (w8 (shaSum F R bs)).size := ⟨_, below_at h3 Ho2.out (blk_lt Ho2.out), by rw [w8_size, shaSum_len]; rfl⟩; have Ho3 := Lib.hid Ho3'; have hold := Lib.hid hold'; have hsz : Hid ((Tryd.prog.info? 45).map (·.size) = some (w8 (shaSum F R bs)).size) := Lib.hid (by rw [w8_size, shaSum_len]; kernel_rfl); clear h3 Ho2 Ho3' hold'))
    | (with_reducible refine wpList_store_row rfl 45 _ _ rfl w.heap.size _ rfl rfl _ _ Ho3.out hsz.out hold.out (w8_one _) ?_))
  refine bodyPost_ret (results_cell_row Tryd.results62 _ _ w.heap.size _ _ (0, 0) _ rfl (setRow_heap _ _ _ _ _ _ Ho3.out) Tryd.underlying45 rfl hsz.out) rfl ⟨rfl, ?_⟩
  exact below_setRow Hb3.out (Nat.le_refl _) _
end Go.Proofs.YtiboflejmnjdhaaDoor
end
