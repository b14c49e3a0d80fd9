/- Helpers of the laws: named. -/
import Derived.Test.YthgnccgablploaaLaw3
set_option linter.unusedVariables false
set_option linter.unusedSimpArgs false
set_option maxRecDepth 100000
namespace Go.Proofs.Ythgnccgablploaa
open Go Go.RowKit Go.Conc
theorem rd_name (w : World) (v : List Int) (h : v.length = 32) : Rd (w.alloc (.cells (w8 v) 43)) (some ⟨w.heap.size, 0, none⟩) 32 v := by
  have := Rd.new w v (by omega) 43 (0, 0)
  rwa [h] at this
set_option maxHeartbeats 1000000 in
theorem named_any (F R : List Int) (mb : Nat) (seed : List Int) (s : St) (own : List Nat) (k : ByteArray) (B : Option Addr) (m d : Nat) (ys : List Int) (w : World)
    (hTb : Tabs F R w) (hI : IsMd F R w mb seed s own) (hl : seed.length ≤ 10000000000000) (hll : s.left.length ≤ 10000000000000) (hp : s.p ≤ 9007199254600000) (hat : s.at_ ≤ 9007199254600000)
    (hks : k.size ≤ 1000) (hm : m = ys.length) (hy : Rd w B d ys) :
    Calls Try.prog 23 #[.pointer (some ⟨mb, 0, none⟩), .string k, .slice B m d] w fun e w' => e = .returned (.bool (decide (strOfNums (inm F R seed s k).1 = strOfNums ys))) ∧ (∃ own', IsMd F R w' mb seed (inm F R seed s k).2 own' ∧ Fresh w own own') ∧ Kp own w w' := by
  obtain ⟨kc, w1, hcv, hrd, hbl⟩ := conv_bytes k w (by omega)
  have hname := mname_any F R mb seed s own (some ⟨w.heap.size, 0, none⟩) k.size kc (numsOf k) w1 (hTb.below hbl) (hI.below hbl) hl hll hp hat (numsOf_length k).symm hrd
  rw [strOf_numsOf] at hname
  have Hname := Lib.hid hname
  have HI := Lib.hid hI
  have Hbl := Lib.hid hbl
  have Hy := Lib.hid hy
  have Hm := Lib.hid hm
  obtain ⟨v, hv⟩ : ∃ v, v = (inm F R seed s k).1 := ⟨_, rfl⟩
  rw [← hv]
  have Hv := Lib.hid hv
  clear hname hrd hbl hTb hI hy hm hv
  go_enter Try.func23, Try.ntmps23
  go_wp2_with (first
    | (go_at_call 14; go_must (refine Hname.out.mono ?_; rintro e w2 ⟨he, h0, h1, h2⟩; rw [← Hv.out] at he h0; obtain rfl : e = .returned (.tuple #[.agg (w8 v), .int .i64 0]) := he; have H0 := Lib.hid h0; have P1 := Lib.hid h1; have P2 := Lib.hid h2; have hsz : Hid ((Try.prog.info? 43).map (·.size) = some (w8 v).size) := Lib.hid (by rw [w8_size, h0]; kernel_rfl); have hold : Hid (z32.size = (w8 v).size) := Lib.hid (by rw [w8_size, h0]; rfl); clear h0 h1 h2))
    | (with_reducible refine wpList_store_new rfl 43 _ _ rfl _ rfl rfl _ _ hsz.out hold.out (w8_one _) ?_)
    | (go_at_call 10; go_must (refine (eqb_any (some ⟨w2.heap.size, 0, none⟩) B 32 32 m d v ys _ H0.out.symm (rd_name w2 v H0.out) Hm.out (((Hy.out.below Hbl.out).hard P2.out (fun b hb => ((HI.out.below Hbl.out).blocks b hb).1)).alloc _)).mono ?_; rintro e w3 ⟨rfl, rfl⟩)))
  go_ret
  obtain ⟨own', q1, q2⟩ := P1.out
  have hsz := Hbl.out.size
  refine ⟨by rfl, ⟨own', q1.below ((Below.refl _ w2).alloc (Nat.le_refl _) _), fun b hb => (q2 b hb).imp id (fun h => by omega)⟩, ((Kp.of_below (S := own) Hbl.out).then P2.out).alloc _⟩
end Go.Proofs.Ythgnccgablploaa
