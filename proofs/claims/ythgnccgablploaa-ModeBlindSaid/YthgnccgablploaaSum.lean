/- Contracts of package sha: the sum of a digest, and the digest of a text. -/
import Derived.Test.YthgnccgablploaaSha
set_option linter.unusedVariables false
set_option linter.unusedSimpArgs false
set_option maxRecDepth 100000
namespace Go.Proofs.Ythgnccgablploaa
open Go.RowKit
def shaK (many : Int) : Nat := ((55 - many) % 64).toNat
def shaPad (many : Int) : List Int := 128 :: List.replicate (shaK many) 0 ++ beTo (many * 8) 8
/-- The first i bytes of eight words. -/
def shaBytes (V : List Int) (i : Nat) : List Int := (List.range i).map fun k => V.getD (k / 4) 0 / 2 ^ (24 - 8 * (k % 4)) % 256
def shaEnd (F R V left : List Int) (many : Int) : List Int := shaBytes (hV F R V left many (shaPad many)) 32
theorem shaBytes_len (V : List Int) (i : Nat) : (shaBytes V i).length = i := by simp [shaBytes]
def shaOut (V : List Int) (i : Nat) : List Int := shaBytes V i ++ List.replicate (32 - i) 0

theorem shaOut_set (V : List Int) (k : Nat) (hk : k < 32) (x : Int) (hx : x = V.getD (k / 4) 0 / 2 ^ (24 - 8 * (k % 4)) % 256) : (shaOut V k).set k x = shaOut V (k + 1) := by
  have e : List.replicate (32 - k) (0 : Int) = 0 :: List.replicate (32 - (k + 1)) 0 := by rw [← List.replicate_succ]; congr 1; omega
  unfold shaOut
  rw [List.set_append, if_neg (by rw [shaBytes_len]; omega), shaBytes_len, Nat.sub_self, e, List.set_cons_zero]
  rw [show shaBytes V (k + 1) = shaBytes V k ++ [x] by rw [hx]; simp [shaBytes, List.range_succ]]
  simp
theorem Own.rds {w : World} {base : Nat} {A : Option Addr} {n c : Nat} {xs : List Int} (h : Own w base (.slice A n c) xs) : n = xs.length ∧ Rd w A c xs := by
  obtain ⟨A', c', e, hr, _⟩ := h.rd
  injection e with h1 h2 h3
  subst h1 h3
  exact ⟨h2, hr⟩

set_option maxHeartbeats 4000000 in
theorem hsum_any (F R : List Int) (hb : Nat) (V left : List Int) (many : Int) (w : World) (hT : Tabs F R w) (hH : IsH w hb V left many) (hl : left.length ≤ 140737488350000) (h0 : 0 ≤ many) (h1 : many ≤ 100000000000000) :
    Calls Try.prog 62 #[.pointer (some ⟨hb, 0, none⟩)] w fun e w' => e = .returned (.agg (w8 (shaEnd F R V left many))) ∧ Below w.heap.size w w' := by
  have HT := Lib.hid hT
  have HH := Lib.hid hH
  have hlt : Hid (hb < w.heap.size) := Lib.hid (by obtain ⟨_, _, _, h, _⟩ := hH; exact blk_lt h)
  clear hT hH
  go_enter Try.func62, Try.ntmps62
  go_wp2_with (first | (go_at_call 66; go_must (refine (hcopy_any hb V left many _ (HH.out.kp (S := []) ((Below.refl _ _).alloc (Nat.le_refl _) _)) (by omega)).mono ?_; rintro e wc ⟨rfl, hH1, hB1⟩; have HB1 := Lib.hid (((Below.refl w.heap.size w).alloc (Nat.le_refl _) _).trans (hB1.mono (by simp))); have HO1 := Lib.hid (below_at hB1 (new_at rfl) (by simp)); simp only [World.size_alloc] at hH1; have HH1 := Lib.hid hH1; clear hH1 hB1)))
  obtain ⟨hlen, A9, c9, hb9, hr9⟩ := HH1.out
  have Hb9 := Lib.hid hb9
  have hltc : Hid (w.heap.size + 1 < wc.heap.size) := Lib.hid (blk_lt hb9)
  clear hb9 hr9
  go_loopw [4] (fun s wr => ∃ (k : Nat) (A : Option Addr) (c : Nat), k ≤ shaK many ∧ s = .slice A (k + 1) c ∧ Hid (Own wr wc.heap.size (.slice A (k + 1) c) (128 :: List.replicate k 0)) ∧ Hid (Below wc.heap.size wc wr))
    (fun s _ => match s with | .slice _ n _ => shaK many + 1 - n | _ => 0)
  case atStart => exact ⟨0, _, _, by omega, rfl, Lib.hid (Own.new wc _ [128] (Nat.le_refl _) (by simp)), Lib.hid ((Below.refl _ _).alloc (Nat.le_refl _) _)⟩
  case round =>
    obtain ⟨k, A, c, hk, rfl, Ho, hB⟩ := hrel
    have hK : shaK many < 64 := by unfold shaK; omega
    have hcell : wr.cell? ⟨w.heap.size + 1, 9, none⟩ = some (.int .i64 many) := (hB.out.cell (p := ⟨w.heap.size + 1, 9, none⟩) hltc.out).trans (blk_cell Hb9.out 9 (hrow_get9 _ _ _ hlen))
    by_cases hke : k = shaK many
    · subst hke
      have hcond : ((many + ((shaK many : Int) + 1)) % 64 != 56) = false := by rw [bne_eq_false_iff_eq]; unfold shaK; omega
      go_wp2
      obtain ⟨P1, hP1⟩ : ∃ P1, P1 = 128 :: List.replicate (shaK many) (0 : Int) := ⟨_, rfl⟩
      have hPl : P1.length = shaK many + 1 := by rw [hP1]; simp
      rw [← hP1] at Ho
      have HP1 := Lib.hid hP1
      clear hP1 hcell
      obtain ⟨wo, rfl⟩ : ∃ wo : World, wo = wr := ⟨_, rfl⟩
      go_loopw [4, 25] (fun s i wr => ∃ (k : Nat) (A : Option Addr) (c : Nat), k ≤ 8 ∧ i = .int .i64 k ∧ s = .slice A (shaK many + 1 + k) c ∧ Hid (Own wr wc.heap.size (.slice A (shaK many + 1 + k) c) (P1 ++ beTo (many * 8) k)) ∧ Hid (Below wc.heap.size wc wr))
        (fun _ i _ => 8 - (intOf i).toNat)
      case atStart => exact ⟨0, A, c, by omega, rfl, rfl, Lib.hid (by simpa [beTo] using Ho.out), hB⟩
      case round =>
        clear Ho hB hcond hk
        obtain ⟨k, A, c, hk, rfl, rfl, Ho, hB⟩ := hrel
        have hcell : wr.cell? ⟨w.heap.size + 1, 9, none⟩ = some (.int .i64 many) := (hB.out.cell (p := ⟨w.heap.size + 1, 9, none⟩) hltc.out).trans (blk_cell Hb9.out 9 (hrow_get9 _ _ _ hlen))
        by_cases hk8 : k < 8
        · go_wp2_with (at_builtin; go_must (refine app_rd rfl _ _ rfl wc.heap.size (.slice A (shaK many + 1 + k) c) (P1 ++ beTo (many * 8) k) rfl (Ho.out.alloc _) _ _ _ [many * 8 / 2 ^ (56 - 8 * k) % 256] rfl rfl (Rd.new1 wr _ _ _) (shaK many + 1 + k + 1) (by simp [hPl, beTo_len]) (by simp [hPl, beTo_len]; omega) (by simp; have := hB.out.size; omega) ?_; intro A' c' w1 ho hg hat; have Ho2 := Lib.hid ho; have Hg := Lib.hid hg; clear ho hg hat))
          go_roundw
          case rel => exact ⟨k + 1, A', c', by omega, by go_num, rfl, Lib.hid (by have e1 : 8 * (7 - k) = 56 - 8 * k := (by omega); rw [beTo_succ, ← List.append_assoc, e1]; exact Ho2.out), Lib.hid ((hB.out.alloc hB.out.size _).grown Hg.out (by simp; have := hB.out.size; omega) (fun j hj => (Ho.out.lt j hj).1))⟩
          case measure => simp [intOf]; omega
        · obtain rfl : k = 8 := by omega
          have hr := Ho.out.rds.2
          have hpad : P1 ++ beTo (many * 8) 8 = shaPad many := by rw [shaPad, HP1.out]
          have hpl : shaK many + 1 + 8 = (shaPad many).length := by rw [← hpad, List.length_append, hPl, beTo_len]
          rw [hpad] at hr
          have Hr := Lib.hid hr
          have Hpl := Lib.hid hpl
          have HT3 : Hid (Tabs F R wr) := Lib.hid ((HT.out.below HB1.out).below hB.out)
          have HO2 := Lib.hid (below_at hB.out HO1.out (by have := hltc.out; omega))
          have hBo := hB
          obtain ⟨wq, rfl⟩ : ∃ wq : World, wq = wr := ⟨_, rfl⟩
          clear hr hpl hpad Ho HO1 hcell
          go_wp2_with (first | (go_at_call 61; go_must (refine (hwrite_any F R (w.heap.size + 1) V left many A c (shaK many + 1 + 8) (shaPad many) wq HT3.out (HH1.out.kp (S := []) hB.out) Hpl.out Hr.out (by rw [← Hpl.out]; omega) h0 (by omega) ⟨(by have := blk_lt HT.out.r; omega), (by have := blk_lt HT.out.f; omega)⟩).mono ?_; rintro e ww ⟨rfl, hH2, hK2⟩; have HH2 := Lib.hid hH2; have HK2 := Lib.hid hK2; clear hH2 hK2)))
          obtain ⟨hlen2, A4, c4, hb4, hr4⟩ := HH2.out
          obtain ⟨V2, hV2⟩ : ∃ V2, V2 = hV F R V left many (shaPad many) := ⟨_, rfl⟩
          rw [← hV2] at hb4 hlen2
          have Hb4 := Lib.hid hb4
          have HV2 := Lib.hid hV2
          have Hlen2 := Lib.hid hlen2
          have HO3 : Hid (ww.heap[w.heap.size]? = some (.cells (w8 (shaOut V2 0)) 42 (0, 0))) := Lib.hid (by rw [HK2.out.block _ (by have := blk_lt HO2.out; omega) (by simp)]; exact HO2.out)
          clear hb4 hr4 hV2 HO2 HH2 Hr HT3 hlen2
          go_loopw [45] (fun i wr => ∃ k : Nat, k ≤ 32 ∧ i = .int .i64 k ∧ Hid (wr.heap[w.heap.size]? = some (.cells (w8 (shaOut V2 k)) 42 (0, 0))) ∧ Hid (Kp [w.heap.size] ww wr))
            (fun i _ => 32 - (intOf i).toNat)
          case atStart => exact ⟨0, by omega, rfl, HO3, Lib.hid (Kp.refl _ _)⟩
          case round =>
            clear HO3
            obtain ⟨k, hk, rfl, Ho, hK⟩ := hrel
            by_cases hk32 : k < 32
            · have hcv : wr.cell? ⟨w.heap.size + 1, k / 4, none⟩ = some (.int .u32 (V2.getD (k / 4) 0)) := (hK.out.cell (a := ⟨w.heap.size + 1, k / 4, none⟩) (blk_cell Hb4.out (k / 4) (by rw [hrow, Array.getElem?_append_left (by rw [w32_size, Hlen2.out]; omega)]; exact w32_get _ _ (by rw [Hlen2.out]; omega))) (by simp))
              have hco : wr.cell? ⟨w.heap.size, k, none⟩ = some (.int .u8 ((shaOut V2 k).getD k 0)) := cell_w8 Ho.out k (by simp [shaOut, shaBytes_len]; omega)
              have hfo := frozen_row Ho.out k
              go_wp2
              go_roundw
              case rel => exact ⟨k + 1, by omega, by go_num, Lib.hid (by rw [← shaOut_set V2 k hk32 _ rfl]; exact set_w8 Ho.out k _), Lib.hid (hK.out.setCell (p := ⟨w.heap.size, k, none⟩) (by simp) _)⟩
              case measure => simp [intOf]; omega
            · obtain rfl : k = 32 := by omega
              have hsz : Hid ((Try.prog.info? 42).map (·.size) = some (w8 (shaOut V2 32)).size) := Lib.hid (by rw [w8_size, shaOut, List.length_append, shaBytes_len]; kernel_rfl)
              go_wp2_with (first | (with_reducible refine wpList_load_row rfl 42 _ rfl w.heap.size rfl _ _ (0, 0) _ Ho.out Try.underlying42 rfl hsz.out ?_) | (with_reducible refine wpList_store_row rfl 42 _ _ rfl w.heap.size _ rfl rfl _ _ Ho.out hsz.out rfl (w8_one _) ?_))
              refine bodyPost_ret (results_cell_row Try.results62 _ _ w.heap.size _ _ (0, 0) _ rfl (setRow_heap _ _ _ _ _ _ Ho.out) Try.underlying42 rfl hsz.out) rfl ⟨?_, ?_⟩
              · rw [shaEnd, ← HV2.out, shaOut]; simp
              · have k1 : Kp [w.heap.size, w.heap.size + 1] w wr := (((Kp.of_below HB1.out).then (Kp.of_below hBo.out)).trans HK2.out (by simp)).trans hK.out (by simp)
                exact (k1.setRow (g := w.heap.size) (by simp) _).below (Nat.le_refl _) (by simp)
    · have hcond : ¬ (many + ((k + 1 : Nat) : Int)) % 64 = 56 := by intro h; apply hke; unfold shaK at hk ⊢; omega
      go_wp2_with (at_builtin; go_must (refine app_rd rfl _ _ rfl wc.heap.size (.slice A (k + 1) c) (128 :: List.replicate k 0) rfl (Ho.out.alloc _) _ _ _ [0] rfl rfl (Rd.new1 wr _ _ _) (k + 2) (by simp) (by simp; omega) (by simp; have := hB.out.size; omega) ?_; intro A' c' w1 ho hg hat; have Ho2 := Lib.hid ho; have Hg := Lib.hid hg; clear ho hg hat))
      go_roundw
      case rel => exact ⟨k + 1, A', c', by omega, rfl, Lib.hid (by simpa [List.replicate_succ'] using Ho2.out), Lib.hid ((hB.out.alloc hB.out.size _).grown Hg.out (by simp; have := hB.out.size; omega) (fun j hj => (Ho.out.lt j hj).1))⟩
      case measure => show shaK many + 1 - (k + 2) < shaK many + 1 - (k + 1); omega

/-- The digest of a text. -/
def shaSum (F R bs : List Int) : List Int := shaEnd F R (hV F R [0, 0, 0, 0, 0, 0, 0, 0] [] 0 bs) (hLeft [] bs) bs.length
theorem shaSum_len (F R bs : List Int) : (shaSum F R bs).length = 32 := shaBytes_len _ _
theorem hLeft_len (left bs : List Int) : (hLeft left bs).length < 64 := by simp only [hLeft, List.length_drop, List.length_append]; omega

theorem sha_new2 (w : World) : Calls Try.prog 60 #[] w fun e w' => e = .returned (.pointer (some ⟨w.heap.size, 0, none⟩)) ∧ IsH w' w.heap.size [0, 0, 0, 0, 0, 0, 0, 0] [] 0 ∧ Below w.heap.size w w' :=
  (sha_new w).mono fun e w' h => ⟨h.1, by rw [h.2]; exact IsH.new w, by rw [h.2]; exact (Below.refl _ _).alloc (Nat.le_refl _) _⟩
set_option maxHeartbeats 400000 in
theorem sum_any (F R : List Int) (A : Option Addr) (c m : Nat) (bs : List Int) (w : World) (hT : Tabs F R w) (hm : m = bs.length) (hr : Rd w A c bs) (hl : bs.length ≤ 100000000000000) :
    Calls Try.prog 57 #[.slice A m c] w fun e w' => e = .returned (.agg (w8 (shaSum F R bs))) ∧ Below w.heap.size w w' := by
  have HT := Lib.hid hT
  have Hr := Lib.hid hr
  have hg : Hid (1 < w.heap.size ∧ 0 < w.heap.size) := Lib.hid ⟨blk_lt hT.r, blk_lt hT.f⟩
  have Hm := Lib.hid hm
  clear hT hr hm
  go_enter Try.func57, Try.ntmps57
  go_wp2_with (first
    | (go_at_call 60; go_must (refine (sha_new2 _).mono ?_; rintro e w1 ⟨rfl, h1, h2⟩; have Ho1 := Lib.hid (below_at h2 (new_at rfl) (by simp)); have Hb1 : Hid (Below w.heap.size w w1) := Lib.hid (((Below.refl w.heap.size w).alloc (Nat.le_refl _) _).trans (h2.mono (by simp))); simp only [World.size_alloc] at h1; have Hn := Lib.hid h1; clear h1 h2))
    | (go_at_call 61; go_must (refine (hwrite_any F R (w.heap.size + 1) _ _ _ A c m bs w1 (HT.out.below Hb1.out) Hn.out Hm.out (Hr.out.below Hb1.out) (by simp; omega) (by omega) (by omega) (by have := hg.out; omega)).mono ?_; rintro e w2 ⟨rfl, h1, h2⟩; rw [Int.zero_add] at h1; have HH := Lib.hid h1; have Hb2 : Hid (Below w.heap.size w w2) := Lib.hid (((Kp.of_below Hb1.out).trans h2 (T := [w.heap.size + 1]) (S := []) (by simp)).nil); have Ho2 := Lib.hid (h2.at_ Ho1.out (by simp)); clear h1 h2 Ho1))
    | (go_at_call 62; go_must (refine (hsum_any F R (w.heap.size + 1) _ _ _ w2 (HT.out.below Hb2.out) HH.out (by have := hLeft_len [] bs; omega) (by omega) (by omega)).mono ?_; rintro e w3 ⟨he, h3⟩; obtain rfl : e = .returned (.agg (w8 (shaSum F R bs))) := he; have Hb3 : Hid (Below w.heap.size w w3) := Lib.hid (Hb2.out.trans (h3.mono Hb2.out.size)); obtain ⟨old, Ho3', hold'⟩ : ∃ old, w3.heap[w.heap.size]? = some (.cells old 42 (0, 0)) ∧ old.size = (w8 (shaSum F R bs)).size := ⟨_, below_at h3 Ho2.out (blk_lt Ho2.out), by rw [w8_size, shaSum_len]; rfl⟩; have Ho3 := Lib.hid Ho3'; have hold := Lib.hid hold'; have hsz : Hid ((Try.prog.info? 42).map (·.size) = some (w8 (shaSum F R bs)).size) := Lib.hid (by rw [w8_size, shaSum_len]; kernel_rfl); clear h3 Ho2 Ho3' hold'))
    | (with_reducible refine wpList_store_row rfl 42 _ _ rfl w.heap.size _ rfl rfl _ _ Ho3.out hsz.out hold.out (w8_one _) ?_))
  refine bodyPost_ret (results_cell_row Try.results57 _ _ w.heap.size _ _ (0, 0) _ rfl (setRow_heap _ _ _ _ _ _ Ho3.out) Try.underlying42 rfl hsz.out) rfl ⟨rfl, ?_⟩
  exact below_setRow Hb3.out (Nat.le_refl _) _
end Go.Proofs.Ythgnccgablploaa
