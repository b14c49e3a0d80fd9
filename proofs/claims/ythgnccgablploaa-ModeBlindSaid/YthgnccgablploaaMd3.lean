/- Contracts of package mode: Name. Helpers of the laws: EqBytes, Bring, CopyBytes. -/
import Derived.Test.YthgnccgablploaaMd2
set_option linter.unusedVariables false
set_option linter.unusedSimpArgs false
set_option maxRecDepth 100000
namespace Go.Proofs.Ythgnccgablploaa
open Go Go.RowKit Go.Conc
theorem inm_len {F R : List Int} {w : World} {ib : Nat} {seed : List Int} {s : St} {own : List Nat} (h : IsI F R w ib seed s own) (k : ByteArray) : (inm F R seed s k).1.length = 32 := by
  unfold inm
  cases hm : mget k s.nm with
  | none => exact tDraw_len _ _ _ _ _ _
  | some v => exact h.len _ _ hm
theorem mname_any (F R : List Int) (mb : Nat) (seed : List Int) (s : St) (own : List Nat) (kA : Option Addr) (kn kc : Nat) (key : List Int) (w : World)
    (hTb : Tabs F R w) (hI : IsMd F R w mb seed s own) (hl : seed.length ≤ 10000000000000) (hll : s.left.length ≤ 10000000000000) (hp : s.p ≤ 9007199254600000) (hat : s.at_ ≤ 9007199254600000)
    (hkn : kn = key.length) (hk : Rd w kA kc key) :
    Calls Try.prog 14 #[.pointer (some ⟨mb, 0, none⟩), .slice kA kn kc] w fun e w' => e = .returned (.tuple #[vvn (inm F R seed s (strOfNums key)).1, .int .i64 0]) ∧ (inm F R seed s (strOfNums key)).1.length = 32 ∧ (∃ own', IsMd F R w' mb seed (inm F R seed s (strOfNums key)).2 own' ∧ Fresh w own own') ∧ Kp own w w' := by
  obtain ⟨ib, iown, rfl, h1, h2, h3⟩ := hI
  have c0 := blk_cell h2 0 rfl
  have hlen := inm_len h3 (strOfNums key)
  have H1 := Lib.hid h1
  have H2 := Lib.hid h2
  have H3 := Lib.hid h3
  have HTb := Lib.hid hTb
  have Hk := Lib.hid hk
  have Hkn := Lib.hid hkn
  generalize hv : (inm F R seed s (strOfNums key)).1 = v at *
  have Hv := Lib.hid hv
  have hsz : Hid ((Try.prog.info? 43).map (·.size) = some (w8 v).size) := Lib.hid (by rw [w8_size, hlen]; kernel_rfl)
  have hold : Hid (z32.size = (w8 v).size) := Lib.hid (by rw [w8_size, hlen]; rfl)
  have Hlen := Lib.hid hlen
  have hmb : mb < w.heap.size := blk_lt h2
  clear h1 h2 h3 hTb hk hkn hv hlen
  have hm := meth_name
  go_enter Try.func14, Try.ntmps14
  go_upto_region 1 with (fail)
  generalize hw1 : World.alloc w _ = w1
  have hn := new_name hw1
  have HN := Lib.hid hn.2
  have HB := Lib.hid hn.1
  have c1 : w1.cell? ⟨mb, 0, none⟩ = some (.iface 48 (.pointer (some ⟨ib, 0, none⟩))) := (hn.1.cell (p := ⟨mb, 0, none⟩) hmb).trans c0
  have Hz : Hid (w1.heap.size = w.heap.size + 1) := Lib.hid (by rw [← hw1]; simp)
  have hmb1 : mb < w1.heap.size := Nat.lt_of_lt_of_le hmb hn.1.size
  clear hw1 hn c0
  go_wp2_with (first
    | (go_at_call 19; go_must (refine (none_ok mb ib w1 c1).mono ?_; rintro e w2 ⟨rfl, rfl⟩))
    | (go_at_call 42; go_must (refine (iname_any2 (fun b => b = w.heap.size) F R ib seed s iown kA kn kc key w1 (fun b hb => by have := Hz.out; omega) (HTb.out.below HB.out) (H3.out.io.below HB.out (fun b hb => .inr (by omega))) hl hll hp hat Hkn.out (Hk.out.below HB.out)).mono ?_; rintro e w2 ⟨he, h1, h2⟩; rw [Hv.out] at he; subst he; have P1 := Lib.hid h1; have P2 := Lib.hid h2; have HN2 := Lib.hid (h2.at_ HN.out (fun hx => by have := (H3.out.blocks _ hx).2; omega)); clear h1 h2))
    | (with_reducible refine wpList_store_row rfl 43 _ _ rfl w.heap.size _ rfl rfl 43 z32 HN2.out hsz.out hold.out (w8_one _) ?_))
  refine bodyPost_ret (results_cell_tmp_row Try.results14 _ _ w.heap.size _ _ (0, 0) _ rfl (setRow_heap _ _ _ _ _ _ HN2.out) Try.underlying43 rfl hsz.out) rfl ?_
  obtain ⟨own', q1, q2⟩ := P1.out
  have hz := Hz.out
  have hkk : Kp (mb :: iown) w (w2.setRow w.heap.size (w8 v)) := (((Kp.of_below (S := mb :: iown) HB.out).then (P2.out.mono (by intro b hb _; simp [hb])))).setRow (fun h => by omega) _
  have hno : w.heap.size ∉ own' := fun hx => by
    rcases q2 _ hx with h | h
    · have := (H3.out.blocks _ h).2; omega
    · omega
  have hmo : mb ∉ own' := fun hx => by
    rcases q2 _ hx with h | h
    · exact H1.out h
    · omega
  have hm2 : (w2.setRow w.heap.size (w8 v)).heap[mb]? = some (.cells #[.iface 48 (.pointer (some ⟨ib, 0, none⟩))] 61 (0, 0)) :=
    (setRow_other _ _ _ _ (by omega)).trans (P2.out.at_ (below_at HB.out H2.out hmb) H1.out)
  refine ⟨by rfl, Hlen.out, ⟨mb :: own', ⟨ib, own', rfl, hmo, hm2, (q1.set (nb := w.heap.size) rfl hno _).isI⟩, ?_⟩, hkk⟩
  intro b hb
  rcases List.mem_cons.1 hb with rfl | hb
  · exact .inl (by simp)
  · rcases q2 b hb with h | h
    · exact .inl (by simp [h])
    · exact .inr (by omega)
end Go.Proofs.Ythgnccgablploaa
