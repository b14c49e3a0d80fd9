/- Contracts of package sha: a digest taken in parts, and the digest of a text. -/
import Derived.Test.YthgnccgablploaaProg
import Derived.Test.YthgnccgablploaaReg
import Derived.Test.YthgnccgablploaaReg2
import Derived.Test.YthgnccgablploaaRegT
import Derived.Test.YthgnccgablploaaRegS
import Derived.Test.YthgnccgablploaaCells
import Derived.Test.YthgnccgablploaaBase
import Derived.Test.YthgnccgablploaaMem
import Derived.Test.YthgnccgablploaaNum
import Derived.Test.YthgnccgablploaaShaF
import Derived.Test.YthgnccgablploaaShaTake
import Derived.Deep.RegionHeld3
import Derived.IntWalk
import Derived.Deep.DeepMust
import Derived.Deep.DeepMust
import Derived.Maps.RangeWalk
import Derived.Outline
set_option linter.unusedVariables false
set_option linter.unusedSimpArgs false
set_option maxRecDepth 100000
namespace Go.Proofs.Ythgnccgablploaa
open Go.RowKit

/-- The package's tables, whatever they hold: eight words, and sixty-four. -/
structure Tabs (F R : List Int) (w : World) : Prop where
  f : w.heap[0]? = some (.cells (w32 F) 116 (0, 0))
  r : w.heap[1]? = some (.cells (w32 R) 122 (0, 0))
  fl : F.length = 8
  rl : R.length = 64
theorem Tabs.kp {F R : List Int} {S : List Nat} {w w' : World} (h : Tabs F R w) (hk : Kp S w w') (h0 : 0 ∉ S) (h1 : 1 ∉ S) : Tabs F R w' := ⟨hk.at_ h.f h0, hk.at_ h.r h1, h.fl, h.rl⟩
theorem Tabs.below {F R : List Int} {w w' : World} (h : Tabs F R w) (hk : Below w.heap.size w w') : Tabs F R w' := h.kp (Kp.of_below (S := []) hk) (by simp) (by simp)
theorem Tabs.drewN {F R : List Int} {w : World} (h : Tabs F R w) (n : Nat) : Tabs F R (w.drewN n) := ⟨h.f, h.r, h.fl, h.rl⟩

/-- The cells of a digest under way. -/
def hrow (V : List Int) (sv : Value) (many : Int) : Array Value := w32 V ++ #[sv, .int .i64 many]
theorem hrow_size (V : List Int) (sv : Value) (many : Int) (h : V.length = 8) : (hrow V sv many).size = 10 := by simp [hrow, w32_size, h]
theorem hrow_one (V : List Int) (A : Option Addr) (n c : Nat) (many : Int) : (hrow V (.slice A n c) many).all (·.oneCell') = true := by
  rw [hrow, Array.all_append, w32_one]; simp [Value.oneCell']
theorem hrow_get8 (V : List Int) (sv : Value) (many : Int) (h : V.length = 8) : (hrow V sv many)[8]? = some sv := by
  rw [hrow, Array.getElem?_append_right (by rw [w32_size]; omega), w32_size, h]; rfl
theorem hrow_get9 (V : List Int) (sv : Value) (many : Int) (h : V.length = 8) : (hrow V sv many)[9]? = some (.int .i64 many) := by
  rw [hrow, Array.getElem?_append_right (by rw [w32_size]; omega), w32_size, h]; rfl
theorem hrow_set8 (V : List Int) (sv u : Value) (many : Int) (h : V.length = 8) : (hrow V sv many).setIfInBounds 8 u = hrow V u many := by
  rw [hrow, hrow, Array.setIfInBounds_append_right (by rw [w32_size]; omega), w32_size, h]; rfl
theorem hrow_set9 (V : List Int) (sv : Value) (many k : Int) (h : V.length = 8) : (hrow V sv many).setIfInBounds 9 (.int .i64 k) = hrow V sv k := by
  rw [hrow, hrow, Array.setIfInBounds_append_right (by rw [w32_size]; omega), w32_size, h]; rfl
/-- A digest under way. -/
structure IsH (w : World) (hb : Nat) (V left : List Int) (many : Int) : Prop where
  len : V.length = 8
  row : ∃ A c, w.heap[hb]? = some (.cells (hrow V (.slice A left.length c) many) 118 (0, 0)) ∧ Rd w A c left
theorem IsH.kp {S : List Nat} {w w' : World} {hb : Nat} {V left : List Int} {many : Int} (h : IsH w hb V left many) (hk : Below w.heap.size w w') : IsH w' hb V left many := by
  obtain ⟨A, c, h1, h2⟩ := h.row
  exact ⟨h.len, A, c, below_at hk h1 (blk_lt h1), h2.below hk⟩

theorem sha_new (w : World) : Calls Try.prog 60 #[] w fun e w' => e = .returned (.pointer (some ⟨w.heap.size, 0, none⟩)) ∧ w' = w.alloc (.cells (hrow [0, 0, 0, 0, 0, 0, 0, 0] (.slice none 0 0) 0) 118) := by
  go_enter Try.func60, Try.ntmps60
  go_wp2
  go_ret
  exact ⟨rfl, rfl⟩
theorem IsH.new (w : World) : IsH (w.alloc (.cells (hrow [0, 0, 0, 0, 0, 0, 0, 0] (.slice none 0 0) 0) 118)) w.heap.size [0, 0, 0, 0, 0, 0, 0, 0] [] 0 := ⟨rfl, none, 0, new_at rfl, Rd.none_ _⟩

/-- words: those at the beginning, if nothing was summed up. -/
theorem words_any (F R : List Int) (hb : Nat) (V left : List Int) (many : Int) (w : World) (hT : Tabs F R w) (hH : IsH w hb V left many) :
    Calls Try.prog 64 #[.pointer (some ⟨hb, 0, none⟩)] w fun e w' => e = .returned (.agg (w32 (if many < 64 then F else V))) ∧ Below w.heap.size w w' := by
  obtain ⟨hlen, A, c, hb', hr⟩ := hH
  obtain ⟨hf, _, hfl, _⟩ := hT
  have c9 : w.cell? ⟨hb, 9, none⟩ = some (.int .i64 many) := blk_cell hb' 9 (hrow_get9 _ _ _ hlen)
  by_cases h : many < 64
  · have hsz : (Try.prog.info? 116).map (·.size) = some (w32 F).size := by rw [w32_size, hfl]; kernel_rfl
    have hn := new_at (W := w) (o := .cells #[.int .u32 0, .int .u32 0, .int .u32 0, .int .u32 0, .int .u32 0, .int .u32 0, .int .u32 0, .int .u32 0] 116) rfl
    have hf1 := blk_alloc hf (.cells #[.int .u32 0, .int .u32 0, .int .u32 0, .int .u32 0, .int .u32 0, .int .u32 0, .int .u32 0, .int .u32 0] 116)
    have hold : (#[.int .u32 0, .int .u32 0, .int .u32 0, .int .u32 0, .int .u32 0, .int .u32 0, .int .u32 0, .int .u32 0] : Array Value).size = (w32 F).size := by rw [w32_size, hfl]; rfl
    have Hsz := Lib.hid hsz
    have Hn := Lib.hid hn
    have Hf1 := Lib.hid hf1
    have Hold := Lib.hid hold
    have hlt := blk_lt hb'
    rw [if_pos h]
    clear hsz hn hf1 hold hf hfl hb' hr hlen
    go_enter Try.func64, Try.ntmps64
    go_wp2_with (first | (with_reducible refine wpList_load_row rfl 116 _ rfl 0 rfl _ _ (0, 0) _ Hf1.out Try.underlying116 rfl Hsz.out ?_) | (with_reducible refine wpList_store_row rfl 116 _ _ rfl w.heap.size _ rfl rfl _ _ Hn.out Hsz.out Hold.out (w32_one _) ?_))
    refine bodyPost_ret (results_cell_row Try.results64 _ _ w.heap.size _ _ (0, 0) _ rfl (setRow_heap _ _ _ _ _ _ Hn.out) Try.underlying116 rfl Hsz.out) rfl ⟨rfl, ?_⟩
    exact below_setRow ((Below.refl _ _).alloc (Nat.le_refl _) _) (Nat.le_refl _) _
  · rw [if_neg h]
    obtain ⟨v, rfl⟩ : ∃ v : Eight, v.list = V := ⟨Eight.of V, Eight.of_list V hlen⟩
    have c0 : w.cell? ⟨hb, 0, none⟩ = some (.int .u32 v.a) := blk_cell hb' 0 rfl
    have c1 : w.cell? ⟨hb, 1, none⟩ = some (.int .u32 v.b) := blk_cell hb' 1 rfl
    have c2 : w.cell? ⟨hb, 2, none⟩ = some (.int .u32 v.c) := blk_cell hb' 2 rfl
    have c3 : w.cell? ⟨hb, 3, none⟩ = some (.int .u32 v.d) := blk_cell hb' 3 rfl
    have c4 : w.cell? ⟨hb, 4, none⟩ = some (.int .u32 v.e) := blk_cell hb' 4 rfl
    have c5 : w.cell? ⟨hb, 5, none⟩ = some (.int .u32 v.f) := blk_cell hb' 5 rfl
    have c6 : w.cell? ⟨hb, 6, none⟩ = some (.int .u32 v.g) := blk_cell hb' 6 rfl
    have c7 : w.cell? ⟨hb, 7, none⟩ = some (.int .u32 v.h) := blk_cell hb' 7 rfl
    have hn := new_at (W := w) (o := .cells #[.int .u32 0, .int .u32 0, .int .u32 0, .int .u32 0, .int .u32 0, .int .u32 0, .int .u32 0, .int .u32 0] 116) rfl
    have hlt := blk_lt hb'
    clear hb' hr hf
    go_enter Try.func64, Try.ntmps64
    go_wp2
    refine bodyPost_ret (results_cell_row Try.results64 _ _ w.heap.size _ _ (0, 0) _ rfl (new_at rfl) Try.underlying116 rfl (by kernel_rfl)) rfl ⟨rfl, ?_⟩
    exact (Below.refl _ _).alloc (Nat.le_refl _) _

/-- Copy: the same in memory of its own. -/
theorem hcopy_any (hb : Nat) (V left : List Int) (many : Int) (w : World) (hH : IsH w hb V left many) (hl : left.length ≤ 140737488355328) :
    Calls Try.prog 66 #[.pointer (some ⟨hb, 0, none⟩)] w fun e w' => e = .returned (.pointer (some ⟨w.heap.size, 0, none⟩)) ∧ IsH w' w.heap.size V left many ∧ Below w.heap.size w w' := by
  obtain ⟨hlen, A, c, hb', hr⟩ := hH
  have hs10 := hrow_size V (.slice A left.length c) many hlen
  have hsz : (Try.prog.info? 118).map (·.size) = some (hrow V (.slice A left.length c) many).size := by rw [hs10]; kernel_rfl
  have hone := hrow_one V A left.length c many
  have Hold : Hid ((#[.int .u32 0, .int .u32 0, .int .u32 0, .int .u32 0, .int .u32 0, .int .u32 0, .int .u32 0, .int .u32 0, .slice none 0 0, .int .i64 0] : Array Value).size = (hrow V (.slice A left.length c) many).size) := Lib.hid hs10.symm
  have c8 : w.cell? ⟨hb, 8, none⟩ = some (.slice A left.length c) := blk_cell hb' 8 (hrow_get8 _ _ _ hlen)
  have hlt := blk_lt hb'
  have Hb := Lib.hid hb'
  have Hr := Lib.hid hr
  have Hsz := Lib.hid hsz
  have Hone := Lib.hid hone
  have Hs10 := Lib.hid hs10
  clear hb' hr hsz hs10 hone
  go_enter Try.func66, Try.ntmps66
  go_wp2_with (first | (with_reducible refine wpList_load_row rfl 118 _ rfl hb rfl _ _ (0, 0) _ Hb.out Try.underlying118 rfl Hsz.out ?_) | (with_reducible refine wpList_store_new rfl 118 _ _ rfl _ rfl rfl _ _ Hsz.out Hold.out Hone.out ?_) | (go_at_call 17; go_must (refine (clone_any A c left _ (Hr.out.alloc _) hl).mono ?_; rintro e w' ⟨v, rfl, h1, h2⟩; have hn : w'.heap[w.heap.size]? = some (.cells (hrow V (.slice A left.length c) many) 118 (0, 0)) := below_at h2 (new_at rfl) (by simp); have hc : w'.cell? ⟨w.heap.size, 8, none⟩ = some (.slice A left.length c) := blk_cell hn 8 (hrow_get8 _ _ _ hlen); have hf : w'.frozen? ⟨w.heap.size, 8, none⟩ = false := frozen_row hn 8; obtain ⟨A', c', rfl, hr', _⟩ := h1.rd; have Hn := Lib.hid hn; have Hr' := Lib.hid hr'; have H2 := Lib.hid h2; clear hn hr' h2 h1)))
  go_ret
  refine ⟨rfl, ⟨hlen, A', c', ?_, ?_⟩, ?_⟩
  · rw [blk_set Hn.out 8 _, hrow_set8 _ _ _ _ hlen]
  · exact Hr'.out.setCell hc (by simp) _
  · exact (((Below.refl _ w).alloc (Nat.le_refl _) _).trans (H2.out.mono (by simp))).setCell (p := ⟨w.heap.size, 8, none⟩) (Nat.le_refl _) _

/-- What Write leaves. -/
def hV (F R V left : List Int) (many : Int) (bs : List Int) : List Int := shaV R (if many < 64 then F else V) (left ++ bs) ((left ++ bs).length / 64)
def hLeft (left bs : List Int) : List Int := (left ++ bs).drop (64 * ((left ++ bs).length / 64))

set_option maxHeartbeats 2000000 in
theorem hwrite_any (F R : List Int) (hb : Nat) (V left : List Int) (many : Int) (A : Option Addr) (c m : Nat) (bs : List Int) (w : World) (hT : Tabs F R w) (hH : IsH w hb V left many) (hm : m = bs.length) (hr : Rd w A c bs)
    (hl : left.length + bs.length ≤ 140737488355000) (h0 : 0 ≤ many) (h1 : many ≤ 1000000000000000) (hhb : 1 < hb ∧ 0 < hb) :
    Calls Try.prog 61 #[.pointer (some ⟨hb, 0, none⟩), .slice A m c] w fun e w' => e = .returned (.pointer (some ⟨hb, 0, none⟩)) ∧ IsH w' hb (hV F R V left many bs) (hLeft left bs) (many + bs.length) ∧ Kp [hb] w w' := by
  have hH' := Lib.hid hH
  obtain ⟨hlen, A0, c0, hb', hr0⟩ := hH
  have hc8 : w.cell? ⟨hb, 8, none⟩ = some (.slice A0 left.length c0) := blk_cell hb' 8 (hrow_get8 _ _ _ hlen)
  have hlt := blk_lt hb'
  have hlt0 := Lib.hid hlt
  have HT := Lib.hid hT
  have Hr := Lib.hid hr
  have Hr0 := Lib.hid hr0
  have Hb := Lib.hid hb'
  have Hm := Lib.hid hm
  obtain ⟨v0, hv0⟩ : ∃ v0, v0 = if many < 64 then F else V := ⟨_, rfl⟩
  have hv0l : v0.length = 8 := by rw [hv0]; split; exact hT.fl; exact hlen
  have Hsz : Hid ((Try.prog.info? 116).map (·.size) = some (w32 v0).size) := Lib.hid (by rw [w32_size, hv0l]; kernel_rfl)
  have Hold : Hid ((#[.int .u32 0, .int .u32 0, .int .u32 0, .int .u32 0, .int .u32 0, .int .u32 0, .int .u32 0, .int .u32 0] : Array Value).size = (w32 v0).size) := Lib.hid (by rw [w32_size, hv0l]; rfl)
  have Hv0 := Lib.hid hv0
  have Hv0l := Lib.hid hv0l
  have hcf := fun W => cut_full A0 left.length c0 hr0.le .i64 .i64 W
  clear hT hr hr0 hb' hm hv0 hv0l
  go_enter Try.func61, Try.ntmps61
  go_wp2_with (first | (go_at_call 64; go_must (refine (words_any F R hb V left many w HT.out hH'.out).mono ?_; rw [← Hv0.out]; rintro e w1 ⟨rfl, hb1⟩; have Hb1 := Lib.hid hb1; have hc8 : w1.cell? ⟨hb, 8, none⟩ = some (.slice A0 left.length c0) := (hb1.cell (p := ⟨hb, 8, none⟩) hlt).trans hc8; have hlt := Nat.lt_of_lt_of_le hlt hb1.size; clear hb1)) | (with_reducible refine wpList_store_new rfl 116 _ _ rfl _ rfl rfl _ _ Hsz.out Hold.out (w32_one _) ?_))
  go_frame
  refine wp_region_quiet_tail_lit 16 (by kernel_rfl) (by kernel_rfl) ?_
  simp only [List.take_succ_cons, List.take_zero, List.drop_succ_cons, List.drop_zero]
  repeat (go_big_quiet_step (fail))
  refine wpQuiet_nil ?_
  rintro _ ⟨nq, rfl⟩
  go_wp2_with (at_builtin; go_must (refine app_full rfl _ _ rfl A0 left.length left rfl rfl (((Hr0.out.full.below Hb1.out).alloc _).drewN _) A c m bs rfl Hm.out (((Hr.out.below Hb1.out).alloc _).drewN _) (left.length + m) (by rw [Hm.out]) (by omega) ?_; intro A1 c1 w2 hr1 hb2 _; have Hr1 := Lib.hid hr1; have Hb2 := Lib.hid hb2; clear hr1 hb2))
  obtain ⟨all, hall⟩ : ∃ all, all = left ++ bs := ⟨_, rfl⟩
  have hlt1 : hb < w1.heap.size := hlt
  have Hblk : Hid (w2.heap[w1.heap.size]? = some (.cells (w32 v0) 116 (0, 0))) := Lib.hid (below_at Hb2.out (new_at rfl) (by simp))
  have HT2 : Hid (Tabs F R w2) := Lib.hid ((((HT.out.below Hb1.out).below ((Below.refl _ _).alloc (Nat.le_refl _) _)).drewN nq).below Hb2.out)
  have Hb12 : Hid (Below w1.heap.size w1 w2) := Lib.hid ((below_drewN ((Below.refl _ w1).alloc (Nat.le_refl _) _) nq).trans (Hb2.out.mono (by simp)))
  have Hn : Hid (left.length + m = all.length) := Lib.hid (by rw [hall, Hm.out, List.length_append])
  have Hall := Lib.hid hall
  have Hr1' : Hid (Rd w2 A1 c1 all) := Lib.hid (by rw [hall]; exact Hr1.out)
  clear Hb2 Hr1 hcf hall
  go_loopw [6] (fun s wr => ∃ (j n : Nat) (A : Option Addr) (c : Nat), s = .slice A n c ∧ Hid (64 * j + n = all.length) ∧ Hid (Rd wr A c (all.drop (64 * j))) ∧ Hid (wr.heap[w1.heap.size]? = some (.cells (w32 (shaV R v0 all j)) 116 (0, 0))) ∧ Hid (Below w1.heap.size w1 wr))
    (fun s _ => match s with | .slice _ n _ => n | _ => 0)
  case atStart => exact ⟨0, left.length + m, A1, c1, rfl, by rw [Nat.mul_zero, Nat.zero_add]; exact Hn.out, Hr1'.out, Hblk.out, Hb12.out⟩
  case round =>
    clear Hblk Hb12 Hr1' Hn
    obtain ⟨j, n, A2, c2, rfl, Hn, Hr2, Hblk, HB⟩ := hrel
    by_cases h64 : 64 ≤ n
    · have hdl : (all.drop (64 * j)).length = n := by have := Hn.out; rw [List.length_drop]; omega
      obtain ⟨b, off, rfl, hc⟩ := Hr2.out.cells (by omega)
      obtain ⟨A', hcut, hA', _⟩ := cut_lo (some ⟨b, off, none⟩) n c2 64 h64
      have hcut := hcut .i64
      have hn : n ≤ 9223372036854775807 := by have := Hr2.out.len; omega
      have hsz : Hid ((Try.prog.info? 116).map (·.size) = some (w32 (shaV R v0 all j)).size) := Lib.hid (by rw [w32_size, shaV_len, Hv0l.out]; kernel_rfl)
      have hold : Hid ((w32 (shaV R v0 all j)).size = (w32 (shaV R v0 all (j + 1))).size) := Lib.hid (by rw [w32_size, w32_size, shaV_len, shaV_len])
      have hsz1 : Hid ((Try.prog.info? 116).map (·.size) = some (w32 (shaV R v0 all (j + 1))).size) := Lib.hid (by rw [w32_size, shaV_len, Hv0l.out]; kernel_rfl)
      have HA' := Lib.hid hA'
      have Hc := Lib.hid hc
      clear hc hA' hdl
      go_wp2
      refine region_begin (by kernel_rfl) ?_
      have Hblk1 : Hid (wr.drew.heap[w1.heap.size]? = some (.cells (w32 (shaV R v0 all j)) 116 (0, 0))) := Lib.hid Hblk.out
      have HB1 : Hid (Below w1.heap.size w1 wr.drew) := Lib.hid HB.out.drew
      have Hr3 : Hid (Rd wr.drew (some ⟨b, off, none⟩) c2 (all.drop (64 * j))) := Lib.hid (Hr2.out.drewN 1)
      have HT3 : Hid (Tabs F R wr.drew) := Lib.hid ((HT.out.below Hb1.out).kp (Kp.of_below (S := []) HB1.out) (by simp) (by simp))
      clear Hblk HB Hr2 HT2 Hc
      generalize wr.drew = wd at *
      refine region_take 1 (.slice (some ⟨b, off, none⟩) n c2) rfl (by kernel_rfl) (by kernel_rfl) (by kernel_rfl) (fun _ _ _ h => h) rfl (fun W => rfl) ?_
      refine region_take 3 (.slice (some ⟨b, off, none⟩) n c2) rfl (by kernel_rfl) (by kernel_rfl) (by kernel_rfl) (fun _ _ _ h => h) rfl (fun W => rfl) ?_
      refine region_take 4 (.slice A' (n - 64) (c2 - 64)) rfl (by kernel_rfl) (by kernel_rfl) (by kernel_rfl) (fun _ _ _ h => h) rfl (fun W => yields_slice _ _ Try.underlying22 _ _ _ _ rfl _ _ _ rfl (hcut W)) ?_
      (refine region_order [0, 2, 5, 6] _ _ _ (by kernel_rfl) ?_ _ rfl; simp only [pick, List.getElem?_toArray, List.getElem_toArray, List.getElem_cons_zero, List.getElem_cons_succ, List.getElem?_cons_zero, List.getElem?_cons_succ, Act.put, List.setIfInBounds_toArray, List.set_cons_zero, List.set_cons_succ])
      go_wp2_with (first | (with_reducible refine wpList_load_row rfl 116 _ rfl w1.heap.size rfl _ _ (0, 0) _ Hblk1.out Try.underlying116 rfl hsz.out ?_) | (with_reducible refine wpList_store_row rfl 116 _ _ rfl w1.heap.size _ rfl rfl _ _ (below_at hbt.out Hblk1.out (blk_lt Hblk1.out)) hsz1.out hold.out (w32_one _) ?_) | (go_at_call 65; go_must (refine (take_list R (shaV R v0 all j) (by rw [shaV_len]; exact Hv0l.out) b off n c2 h64 (all.drop (64 * j)) wd (fun i hi => Hr3.out.cell i (by have := Hn.out; rw [List.length_drop]; omega)) HT3.out.r HT3.out.rl).mono ?_; rintro e wt ⟨he, hbt'⟩; obtain rfl : e = .returned (.agg (w32 (shaV R v0 all (j + 1)))) := he; have hbt := Lib.hid hbt'; clear hbt')))
      go_roundw
      case rel =>
        refine ⟨j + 1, n - 64, A', c2 - 64, rfl, Lib.hid (by have := Hn.out; omega), Lib.hid ?_, Lib.hid (setRow_heap _ _ _ _ _ _ (below_at hbt.out Hblk1.out (blk_lt Hblk1.out))), Lib.hid (below_setRow (HB1.out.trans (hbt.out.mono HB1.out.size)) (Nat.le_refl _) _)⟩
        have h1 := HA'.out _ _ (by have := Hn.out; rw [List.length_drop]; omega) (Hr3.out.below hbt.out)
        rw [List.drop_drop, show 64 * j + 64 = 64 * (j + 1) by omega] at h1
        exact h1.setRow (below_at hbt.out Hblk1.out (blk_lt Hblk1.out)) _
      case measure => show n - 64 < n; omega
    · have hj : Hid (j = all.length / 64) := Lib.hid (by have := Hn.out; omega)
      have hdl : (all.drop (64 * j)).length = n := by have := Hn.out; rw [List.length_drop]; omega
      have hn : n < 64 := by omega
      have Hbr : Hid (wr.drew.heap[hb]? = some (.cells (hrow V (.slice A0 left.length c0) many) 118 (0, 0))) := Lib.hid (below_at HB.out.drew (below_at Hb1.out Hb.out hlt0.out) hlt1)
      go_wp2
      refine seg_begin (fun W => Below w1.heap.size w1 W ∧ W.heap[w1.heap.size]? = some (.cells (w32 (shaV R v0 all j)) 116 (0, 0)) ∧ W.cell? ⟨hb, 9, none⟩ = some (.int .i64 many)) [3, 5, 9] (by kernel_rfl) ?_
      have hS : Below w1.heap.size w1 wr.drew ∧ wr.drew.heap[w1.heap.size]? = some (.cells (w32 (shaV R v0 all j)) 116 (0, 0)) ∧ wr.drew.cell? ⟨hb, 9, none⟩ = some (.int .i64 many) :=
        ⟨HB.out.drew, Hblk.out, blk_cell Hbr.out 9 (hrow_get9 _ _ _ hlen)⟩
      have HS := Lib.hid hS
      have Hr3 : Hid (Rd wr.drew A2 c2 (all.drop (64 * j))) := Lib.hid (Hr2.out.drewN 1)
      clear hS Hr2 Hblk HB
      generalize wr.drew = wd at *
      (refine seg_take 0 ?_ rfl (by kernel_rfl) (by kernel_rfl) (by kernel_rfl) (by kernel_rfl) (by kernel_rfl) rfl (fun _ _ _ h => h) rfl ?_ ?_; rotate_left; (focus (intro w; go_simp; try with_reducible rfl)); (try simp only [List.getElem_toArray, List.getElem_cons_zero, List.getElem_cons_succ, Act.put, List.setIfInBounds_toArray, List.set_cons_zero, List.set_cons_succ]); refine seg_take 1 ?_ rfl (by kernel_rfl) (by kernel_rfl) (by kernel_rfl) (by kernel_rfl) (by kernel_rfl) rfl (fun _ _ _ h => h) rfl ?_ ?_; rotate_left; (focus (intro w; go_simp; try with_reducible rfl)); (try simp only [List.getElem_toArray, List.getElem_cons_zero, List.getElem_cons_succ, Act.put, List.setIfInBounds_toArray, List.set_cons_zero, List.set_cons_succ]); refine seg_take 2 ?_ rfl (by kernel_rfl) (by kernel_rfl) (by kernel_rfl) (by kernel_rfl) (by kernel_rfl) rfl (fun _ _ _ h => h) rfl ?_ ?_; rotate_left; (focus (intro w; go_simp; try with_reducible rfl)); (try simp only [List.getElem_toArray, List.getElem_cons_zero, List.getElem_cons_succ, Act.put, List.setIfInBounds_toArray, List.set_cons_zero, List.set_cons_succ]); refine seg_take 4 ?_ rfl (by kernel_rfl) (by kernel_rfl) (by kernel_rfl) (by kernel_rfl) (by kernel_rfl) rfl (fun _ _ _ h => h) rfl ?_ ?_; rotate_left; (focus (intro w; go_simp; try with_reducible rfl)); (try simp only [List.getElem_toArray, List.getElem_cons_zero, List.getElem_cons_succ, Act.put, List.setIfInBounds_toArray, List.set_cons_zero, List.set_cons_succ]); refine seg_take 6 ?_ rfl (by kernel_rfl) (by kernel_rfl) (by kernel_rfl) (by kernel_rfl) (by kernel_rfl) rfl (fun _ _ _ h => h) rfl ?_ ?_; rotate_left; (focus (intro w; go_simp; try with_reducible rfl)); (try simp only [List.getElem_toArray, List.getElem_cons_zero, List.getElem_cons_succ, Act.put, List.setIfInBounds_toArray, List.set_cons_zero, List.set_cons_succ]); refine seg_take 7 ?_ rfl (by kernel_rfl) (by kernel_rfl) (by kernel_rfl) (by kernel_rfl) (by kernel_rfl) rfl (fun _ _ _ h => h) rfl ?_ ?_; rotate_left; (focus (intro w; go_simp; try with_reducible rfl)); (try simp only [List.getElem_toArray, List.getElem_cons_zero, List.getElem_cons_succ, Act.put, List.setIfInBounds_toArray, List.set_cons_zero, List.set_cons_succ]); refine seg_take 8 ?_ rfl (by kernel_rfl) (by kernel_rfl) (by kernel_rfl) (by kernel_rfl) (by kernel_rfl) rfl (fun _ _ _ h => h) rfl ?_ ?_; rotate_left; (focus (intro w; go_simp; try with_reducible rfl)); (try simp only [List.getElem_toArray, List.getElem_cons_zero, List.getElem_cons_succ, Act.put, List.setIfInBounds_toArray, List.set_cons_zero, List.set_cons_succ]); refine seg_take 10 ?_ rfl (by kernel_rfl) (by kernel_rfl) (by kernel_rfl) (by kernel_rfl) (by kernel_rfl) rfl (fun _ _ _ h => h) rfl ?_ ?_; rotate_left; (focus (intro w; go_simp; try with_reducible rfl)); (try simp only [List.getElem_toArray, List.getElem_cons_zero, List.getElem_cons_succ, Act.put, List.setIfInBounds_toArray, List.set_cons_zero, List.set_cons_succ]); refine seg_take 11 ?_ rfl (by kernel_rfl) (by kernel_rfl) (by kernel_rfl) (by kernel_rfl) (by kernel_rfl) rfl (fun _ _ _ h => h) rfl ?_ ?_; rotate_left; (focus (intro w; go_simp; try with_reducible rfl)); (try simp only [List.getElem_toArray, List.getElem_cons_zero, List.getElem_cons_succ, Act.put, List.setIfInBounds_toArray, List.set_cons_zero, List.set_cons_succ]); refine seg_read 9 ?_ rfl (by kernel_rfl) (by kernel_rfl) (by kernel_rfl) (by kernel_rfl) (by kernel_rfl) (by kernel_rfl) (fun _ _ _ h => h) rfl HS.out ?_ ?_; rotate_left; (focus (intro w hSw; (try dsimp only at hSw); go_split_ands; go_simp; try with_reducible rfl)); (try simp only [List.getElem_toArray, List.getElem_cons_zero, List.getElem_cons_succ, Act.put, List.setIfInBounds_toArray, List.set_cons_zero, List.set_cons_succ]); refine seg_take 12 ?_ rfl (by kernel_rfl) (by kernel_rfl) (by kernel_rfl) (by kernel_rfl) (by kernel_rfl) rfl (fun _ _ _ h => h) rfl ?_ ?_; rotate_left; (focus (intro w; go_simp; try with_reducible rfl)); (try simp only [List.getElem_toArray, List.getElem_cons_zero, List.getElem_cons_succ, Act.put, List.setIfInBounds_toArray, List.set_cons_zero, List.set_cons_succ]))
      have Hsz1 : Hid ((Try.prog.info? 116).map (·.size) = some (w32 (shaV R v0 all j)).size) := Lib.hid (by rw [w32_size, shaV_len, Hv0l.out]; kernel_rfl)
      (refine seg_read 3 (.agg (w32 (shaV R v0 all j))) rfl (by kernel_rfl) (by kernel_rfl) (by kernel_rfl) (by kernel_rfl) (by kernel_rfl) (by kernel_rfl) (fun _ _ _ h => h) rfl HS.out (fun W hW => yields_load_row 116 _ rfl w1.heap.size rfl _ _ _ _ hW.2.1 Try.underlying116 rfl Hsz1.out) ?_; (try simp only [List.getElem_toArray, List.getElem_cons_zero, List.getElem_cons_succ, Act.put, List.setIfInBounds_toArray, List.set_cons_zero, List.set_cons_succ]))
      (refine seg_rest [5, 13, 14, 15, 16, 17, 18, 19, 20, 21] _ _ _ (by kernel_rfl) ?_ _ rfl)
      (refine segs_in rfl ?_; (simp only [pick, List.getElem?_toArray, List.getElem_toArray, List.getElem_cons_zero, List.getElem_cons_succ, List.getElem?_cons_zero, List.getElem?_cons_succ, Act.put, List.setIfInBounds_toArray, List.set_cons_zero, List.set_cons_succ]))
      have hcl := fun W (hW : Rd W A2 c2 (all.drop (64 * j))) => clone_any A2 c2 (all.drop (64 * j)) W hW (by rw [hdl]; omega)
      simp only [hdl] at hcl
      go_wp2_with (first | (go_at_call 17; go_must (refine (hcl _ Hr3.out).mono ?_; rintro e w' ⟨v, rfl, ho, hb⟩)))
      refine ⟨fun _ => ⟨HS.out.1.trans (hb.mono HS.out.1.size), below_at hb HS.out.2.1 (blk_lt HS.out.2.1), (hb.cell (p := ⟨_, 9, none⟩) (World.block_lt_of_cell? wd _ HS.out.2.2)).trans HS.out.2.2⟩, ?_⟩
      (refine segs_out rfl ?_; (simp only [pick, List.getElem?_toArray, List.getElem_toArray, List.getElem_cons_zero, List.getElem_cons_succ, List.getElem?_cons_zero, List.getElem?_cons_succ, Act.put, List.setIfInBounds_toArray, List.set_cons_zero, List.set_cons_succ]))
      have hbw := below_at hb Hbr.out (blk_lt Hbr.out)
      obtain ⟨A3, c3, rfl, hr3, ha3⟩ := ho.rd
      have Hbw := Lib.hid hbw
      have Hb2 := Lib.hid hb
      have Hr4 := Lib.hid hr3
      have Ha3 := Lib.hid ha3
      clear hbw hb hr3 ha3 ho Hbr hcl
      have hth : Hid (w'.there hb 0 (w32 (shaV R v0 all j)).size) := Lib.hid (there_row Hbw.out 0 _ (by rw [w32_size, shaV_len, Hv0l.out, hrow_size _ _ _ hlen]; omega))
      go_wp2_with (first | ((with_reducible refine wpList_store_mid rfl 116 _ _ rfl hb 0 (w32 (shaV R v0 all j)) rfl rfl hth.out Hsz1.out (w32_one _) ?_); go_must (have hq : (w'.setCells hb 0 (w32 (shaV R v0 all j)).toList).heap[hb]? = some (.cells (hrow (shaV R v0 all j) (.slice A0 left.length c0) many) 118 (0, 0)) := (by have h1 := blk_setCells (w32 (shaV R v0 all j)).toList 0 _ _ Hbw.out; rw [hrow, setAll_head _ _ _ (by rw [w32_size, w32_size, shaV_len, hlen, Hv0l.out])] at h1; exact h1); have hc1 := blk_cell hq 8 (hrow_get8 _ _ _ (by rw [shaV_len]; exact Hv0l.out)); have hf1 := frozen_row hq 8; have hc2 := blk_cell hq 9 (hrow_get9 _ _ _ (by rw [shaV_len]; exact Hv0l.out)); have hf2 := frozen_row hq 9)))
      have Hq := Lib.hid hq
      clear hq hf1 hc2 hf2
      go_ret
      have hsl : (shaV R v0 all j).length = 8 := by rw [shaV_len]; exact Hv0l.out
      have hne : ∀ a, A3 = some a → a.block ≠ hb := fun a e h => by have := (Ha3.out a e).1; have := blk_lt Hbw.out; have h3 := HS.out.1.size; rw [h] at *; omega
      have hwr : wrap64 (many + (m : Int)) = many + bs.length := by rw [Hm.out]; exact IntWalk.wrap64_in _ (by omega)
      refine ⟨rfl, ⟨by rw [hV, shaV_len, ← Hv0.out]; exact Hv0l.out, A3, c3, ?_, ?_⟩, ?_⟩
      · rw [blk_set (blk_set Hq.out 8 _) 9 _, hrow_set8 _ _ _ _ hsl, hrow_set9 _ _ _ _ hsl, hwr]
        have e1 : hV F R V left many bs = shaV R v0 all j := by rw [hV, ← Hv0.out, ← Hall.out, ← hj.out]
        have e2 : (hLeft left bs).length = n := by rw [hLeft, ← Hall.out, ← hj.out]; exact hdl
        rw [e1, e2]
      · have e3 : hLeft left bs = all.drop (64 * j) := by rw [hLeft, ← Hall.out, ← hj.out]
        rw [e3]
        exact Hr4.out.kp (S := [hb]) (((Kp.setCells _ _ (Kp.refl _ _) (by simp)).setCell (p := ⟨hb, 8, none⟩) (by simp) _).setCell (p := ⟨hb, 9, none⟩) (by simp) _) (by simpa using hne)
      · have k1 : Kp [hb] w w' := ((Kp.of_below Hb1.out).then (Kp.of_below HS.out.1)).then (Kp.of_below Hb2.out)
        exact ((k1.setCells _ _ (by simp)).setCell (p := ⟨hb, 8, none⟩) (by simp) _).setCell (p := ⟨hb, 9, none⟩) (by simp) _
end Go.Proofs.Ythgnccgablploaa
