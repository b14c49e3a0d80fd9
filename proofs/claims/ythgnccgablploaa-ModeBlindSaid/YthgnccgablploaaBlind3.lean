/- ModeBlind: how the two modes and tapes come to be. -/
import Derived.Test.YthgnccgablploaaBlind2
import Derived.Test.YthgnccgablploaaWorks
import Derived.Test.YthgnccgablploaaIdeal5

import Derived.BigQuiet
import Derived.Deep.Cut
import Derived.Deep.CutRange
set_option linter.unusedVariables false
set_option linter.unusedSimpArgs false
set_option maxRecDepth 100000
namespace Go.Proofs.Ythgnccgablploaa
open Go Go.RowKit Go.Conc
/-- A new mode's state. -/
abbrev st0 (seed : List Int) : St := ⟨seed, 0, 0, [], []⟩
/-- Two modes. -/
structure M2 (F R : List Int) (w0 : World) (mA mB : Nat) (seed : List Int) (w : World) : Prop where
  tabs : Tabs F R w
  below : Below w0.heap.size w0 w
  ex : ∃ o1 o2, IsMd F R w mA seed (st0 seed) o1 ∧ IsMd F R w mB seed (st0 seed) o2 ∧ Apart o1 o2 ∧ (∀ b, b ∈ o1 ∨ b ∈ o2 → w0.heap.size ≤ b)
theorem M2.step {F R : List Int} {w0 : World} {mA mB : Nat} {seed : List Int} {w w' : World} (h : M2 F R w0 mA mB seed w) (hk : Below w.heap.size w w') : M2 F R w0 mA mB seed w' := by
  obtain ⟨o1, o2, h1, h2, d⟩ := h.ex
  exact ⟨h.tabs.below hk, h.below.trans (hk.mono h.below.size), o1, o2, h1.below hk, h2.below hk, d⟩
/-- Two modes and a tape. -/
structure M3 (F R : List Int) (w0 : World) (mA mB : Nat) (seed : List Int) (tA : Nat) (ts : List Int) (w : World) : Prop where
  m : M2 F R w0 mA mB seed w
  tp : IsTp F R w tA ts ts 0 0 [tA]
  ge : w0.heap.size ≤ tA
  ex : ∃ o1 o2, IsMd F R w mA seed (st0 seed) o1 ∧ IsMd F R w mB seed (st0 seed) o2 ∧ Apart o1 o2 ∧ (∀ b, b ∈ o1 ∨ b ∈ o2 → w0.heap.size ≤ b) ∧ tA ∉ o1 ∧ tA ∉ o2
theorem M3.step {F R : List Int} {w0 : World} {mA mB : Nat} {seed : List Int} {tA : Nat} {ts : List Int} {w w' : World} (h : M3 F R w0 mA mB seed tA ts w) (hk : Below w.heap.size w w') : M3 F R w0 mA mB seed tA ts w' := by
  obtain ⟨o1, o2, h1, h2, d⟩ := h.ex
  exact ⟨h.m.step hk, h.tp.below hk, h.ge, o1, o2, h1.below hk, h2.below hk, d⟩
theorem ideal_two (F R : List Int) (w0 : World) (mA : Nat) (seed : List Int) (tb : Nat) (tseed tleft : List Int) (tp tat tb2 : Nat) (w2 w3 : World) (hW : Wm F R w0 [] mA seed (st0 seed) tb tseed tleft tp tat w2) (hb : Below w2.heap.size w2 w3) (hT : IsTp F R w3 tb2 seed seed 0 0 [tb2]) (h2 : w2.heap.size ≤ tb2) (hl : seed.length ≤ 10000000) :
    Calls Try.prog 5 #[.pointer (some ⟨tb2, 0, none⟩)] w3 fun e w' => ∃ mB, e = .returned (.tuple #[.pointer (some ⟨mB, 0, none⟩), .int .i64 0]) ∧ M2 F R w0 mA mB seed w' ∧ (∀ A c xs, Rd w3 A c xs → Rd w' A c xs) := by
  have hW3 := hW.step hb
  obtain ⟨own, town, g1, g2, g3, g4⟩ := hW.ex
  refine (ideal_any F R tb2 seed seed 0 0 [tb2] w3 hT (by omega) (by omega)).mono ?_
  rintro e w' ⟨mB, rfl, hN⟩
  obtain ⟨mown, town2, n1, n2, n3, n4, n5⟩ := hN.ex
  have hh : ∀ b ∈ [tb2], Hard w3 b := fun b hb => (hT.blocks b hb).1
  have hsz := hW.below.size
  have hsz3 := hb.size
  refine ⟨mB, rfl, ⟨hW3.tabs.hard hN.kp hh, hW3.below.trans (hN.kp.below hW3.below.size (fun b hb => by simp at hb; omega)), own, mown, (g1.below hb).keep hN.kp hh (fun b hb hx => ?_), n1, ?_, ?_⟩, fun A c xs hr => hr.hard hN.kp hh⟩
  · have := (g1.blocks b hb).2
    simp at hx; omega
  · intro b hb hx
    have h1 := (g1.blocks b hb).2
    have h2 := n4 b hx
    omega
  · rintro b (hb | hb)
    · exact (g4 b (.inl hb)).1
    · have := n4 b hb; omega
theorem new_t1 (F R : List Int) (w0 : World) (mA mB : Nat) (seed : List Int) (A : Option Addr) (n c : Nat) (ts : List Int) (w : World) (h : M2 F R w0 mA mB seed w) (hn : n = ts.length) (hr : Rd w A c ts) (hl : ts.length ≤ 65536) :
    Calls Try.prog 6 #[.slice A n c] w fun e w' => ∃ tA, e = .returned (.pointer (some ⟨tA, 0, none⟩)) ∧ M3 F R w0 mA mB seed tA ts w' ∧ Below w.heap.size w w' := by
  refine (new_tp F R A n c ts w hn hr hl).mono ?_
  rintro e w' ⟨tA, rfl, h1, h2, h3⟩
  obtain ⟨o1, o2, g1, g2, g3, g4⟩ := h.ex
  have hsz := h.below.size
  exact ⟨tA, rfl, ⟨h.step h3, h1, by omega, o1, o2, g1.below h3, g2.below h3, g3, g4, fun hx => by have := (g1.blocks _ hx).2; omega, fun hx => by have := (g2.blocks _ hx).2; omega⟩, h3⟩
theorem new_t2 (F R : List Int) (w0 : World) (mA mB : Nat) (seed : List Int) (tA : Nat) (A : Option Addr) (n c : Nat) (ts : List Int) (w : World) (h : M3 F R w0 mA mB seed tA ts w) (hn : n = ts.length) (hr : Rd w A c ts) (hl : ts.length ≤ 65536) :
    Calls Try.prog 6 #[.slice A n c] w fun e w' => ∃ tB, e = .returned (.pointer (some ⟨tB, 0, none⟩)) ∧ Bl F R w0 [] mA mB seed (st0 seed) (st0 seed) tA tB ts ts 0 0 ts 0 0 w' := by
  refine (new_tp F R A n c ts w hn hr hl).mono ?_
  rintro e w' ⟨tB, rfl, h1, h2, h3⟩
  obtain ⟨o1, o2, g1, g2, g3, g4, g5, g6⟩ := h.ex
  have hsz := h.m.below.size
  have hm := h.m.step h3
  have htA := (h.tp.blocks tA (by simp)).2
  refine ⟨tB, rfl, hm.tabs, hm.below, ⟨o1, [tA], o2, [tB], g1.below h3, h.tp.below h3, g2.below h3, h1, ?_, g3, ?_, ?_, ?_, ?_, ?_⟩, by simp⟩
  · intro b hb hx; obtain rfl : b = tA := by simpa using hx
    exact g5 hb
  · intro b hb hx; have := (g1.blocks b hb).2; simp at hx; omega
  · intro b hb hx; obtain rfl : b = tA := by simpa using hb
    exact g6 hx
  · intro b hb hx; simp at hb hx; omega
  · intro b hb hx; have := (g2.blocks b hb).2; simp at hx; omega
  · rintro b (hb | hb | hb | hb)
    · exact ⟨g4 b (.inl hb), by simp⟩
    · simp at hb; exact ⟨by have := h.ge; omega, by simp⟩
    · exact ⟨g4 b (.inr hb), by simp⟩
    · simp at hb; exact ⟨by omega, by simp⟩
/-- The state of the loop. -/
structure InB (F R : List Int) (w : World) (mA mB : Nat) (seed : List Int) (tA tB : Nat) (ts : List Int) (tn : Int) (i : Nat) (wr : World) : Prop where
  ex : ∃ sA sB l p a, Bl F R w [] mA mB seed sA sB tA tB ts l p a l p a wr ∧ Rel tn sA sB ∧ l.length ≤ 100 ∧ p ≤ i * 200 ∧ a ≤ i * 200 ∧ sA.left.length ≤ 100 ∧ sA.p ≤ i * 200 ∧ sA.at_ ≤ i * 200
/-- A text that was made anew. -/
structure NewT (wq : World) (nb : Nat) (e : Int) (hA : Option Addr) (hm hc : Nat) (hd : List Int) (pA : Option Addr) (pm pc : Nat) (pl : List Int) (w : World) : Prop where
  lo : wq.heap.size ≤ nb
  row : w.heap[nb]? = some (.cells (tval e hA hm hc pA pm pc) 32 (0, 0))
  fhd : Rd w hA hc hd
  fpl : Rd w pA pc pl
  fpm : pm = pl.length
  below : Below wq.heap.size wq w
theorem newt_of {wq w : World} {nb : Nat} {e : Int} {hA : Option Addr} {hm hc : Nat} {hd : List Int} {pA : Option Addr} {pm pc : Nat} {pl : List Int} (h1 : Below wq.heap.size wq w) (h2 : wq.heap.size ≤ nb) (h3 : w.heap[nb]? = some (.cells (tval 0 none 0 0 none 0 0) 32 (0, 0))) (h4 : Rd w hA hc hd) (h5 : Rd w pA pc pl) (h6 : pm = pl.length) : NewT wq nb e hA hm hc hd pA pm pc pl (w.setRow nb (tval e hA hm hc pA pm pc)) := by
  have hk : Kp [nb] w (w.setRow nb (tval e hA hm hc pA pm pc)) := (Kp.refl _ w).setRow (fun _ => by simp) _
  have hh : ∀ b ∈ [nb], Hard w b := fun b hb => by
    obtain rfl : b = nb := by simpa using hb
    refine hard_cells h3 ?_
    intro v hv q x hq
    simp only [List.mem_toArray, List.mem_cons, List.not_mem_nil, or_false] at hv
    rcases hv with rfl | rfl | rfl <;> rcases hq with rfl | rfl <;> simp
  exact ⟨h2, setRow_heap _ _ _ _ _ _ h3, h4.hard hk hh, h5.hard hk hh, h6, below_setRow h1 h2 _⟩
theorem Rd.upto2 {w : World} {A : Option Addr} {c : Nat} {xs : List Int} (h : Rd w A c xs) (m : Nat) : Rd w A c (xs.take m) := by
  by_cases hm : m ≤ xs.length
  · exact h.take m hm
  · rw [List.take_of_length_le (by omega)]; exact h
set_option maxHeartbeats 4000000 in
theorem blind_any (F R : List Int) (sA : Option Addr) (sn sc : Nat) (seed0 : List Int) (LA : Option Addr) (ln lc : Nat) (ts0 : List Tx) (tn : Int) (w : World) (hTb : Tabs F R w) (hsn : sn = seed0.length) (hs : Rd w sA sc seed0) (hT : RdT w LA ln lc ts0) (hby : ∀ t ∈ ts0, Byt t.hd ∧ Byt t.pl) (htn : 0 ≤ tn ∧ tn < 256) :
    Calls Try.prog 4 #[.slice sA sn sc, .slice LA ln lc, .int .u8 tn] w fun e w' => e = .returned (.bool true) ∧ Below w.heap.size w w' := by
  obtain ⟨sm, hsm⟩ : ∃ sm : Nat, sm = min sn 60 := ⟨_, rfl⟩
  have hmi1 : (if (60 : Int) < (sn : Int) then (60 : Int) else (sn : Int)) = sm := by omega
  have hsl := hs.le
  have hcut1 := fun W => cut_hi sA sn sc sm (by omega) .i64 W
  obtain ⟨seed, hseed⟩ : ∃ seed, seed = seed0.take sm := ⟨_, rfl⟩
  have hS := hs.take sm (by omega)
  rw [← hseed] at hS
  have hsel : sm = seed.length := by rw [hseed]; simp; omega
  have hm60 : sm ≤ 60 := by omega
  have HTb := Lib.hid hTb
  have HS := Lib.hid hS
  have HT := Lib.hid hT
  have Hby := Lib.hid hby
  have Hsel := Lib.hid hsel
  clear hTb hs hT hS hseed hsm hsel hsl hsn hby
  go_enter Try.func4, Try.ntmps4
  go_wp2_with (first
    | (go_at_call 6; go_must (first
      | (have hx := H3t; clear hx; refine (new_t2 F R w mA mB seed tA A8 (sm + 1) c8 (seed ++ [1]) w9 H3t.out (by rw [List.length_append, ← Hsel.out]; rfl) HO9.out.rd' (by have := Hsel.out; simp; omega)).mono ?_; rintro e w10 ⟨tB, rfl, h1⟩; have HB := Lib.hid h1; clear h1 H3t HO9)
      | (have hx := HO6; clear hx; refine (new_t1 F R w mA mB seed A6 (sm + 1) c6 (seed ++ [1]) w6 HM.out (by rw [List.length_append, ← Hsel.out]; rfl) HO6.out.rd' (by have := Hsel.out; simp; omega)).mono ?_; rintro e w7 ⟨tA, rfl, h1, h2⟩; have HM3 := Lib.hid h1; have HS7 := Lib.hid (HS6.out.below h2); clear h1 h2 HO6 HM HS6)
      | (have hx := HW; clear hx; refine (new_tp F R sA sm sc seed w2 Hsel.out HS2.out (by have := Hsel.out; omega)).mono ?_; rintro e w3 ⟨tb2, rfl, h1, h2, h3⟩; have N3 := Lib.hid h1; have N4 := Lib.hid h2; have HB3 := Lib.hid h3; have HS3 := Lib.hid (HS2.out.below h3); clear h1 h2 h3)
      | (refine (new_tp F R sA sm sc seed w Hsel.out HS.out (by have := Hsel.out; omega)).mono ?_; rintro e w1 ⟨tb, rfl, h1, h2, h3⟩; have N1 := Lib.hid h1; have N2 := Lib.hid h2; have HB1 := Lib.hid h3; clear h1 h2 h3)))
    | (go_at_call 5; go_must (first
      | (have hx := HB3; clear hx; refine (ideal_two F R w mA seed tb seed seed 0 0 tb2 w2 w3 HW.out HB3.out N3.out N4.out (by have := Hsel.out; omega)).mono ?_; rintro e w4 ⟨mB, rfl, h1, h2⟩; have HM4 := Lib.hid h1; have HS4 := Lib.hid (h2 _ _ _ HS3.out); clear h1 h2 HW HB3 N3 N4 HS2 HS3)
      | (refine (wm_ideal F R w tb seed w1 (HTb.out.below HB1.out) HB1.out N1.out N2.out (by have := Hsel.out; omega)).mono ?_; rintro e w2 ⟨mA, rfl, h1, h2⟩; have HW := Lib.hid h1; have HS2 := Lib.hid (h2.rd _ _ _ (HS.out.below HB1.out)); clear h1 h2 N1 N2 HB1)))
    | (go_at_call 12; go_must (first
      | (have hx := HM3; clear hx; refine (copyb_any sA sm sc seed w7 Hsel.out HS7.out (by have := Hsel.out; omega)).mono ?_; rintro e wk8 ⟨A7, c7, rfl, h1, h2⟩; have HO8 := Lib.hid h1; have HB8 := Lib.hid h2; clear h1 h2)
      | (refine (copyb_any sA sm sc seed w4 Hsel.out HS4.out (by have := Hsel.out; omega)).mono ?_; rintro e w5 ⟨A5, c5, rfl, h1, h2⟩; have HO5 := Lib.hid h1; have HB5 := Lib.hid h2; clear h1 h2)))
    | (at_builtin; go_must (first
      | (have hx := HO8; clear hx; refine app_rd rfl _ _ rfl w7.heap.size (.slice A7 sm c7) seed rfl (HO8.out.alloc _) _ _ _ [1] rfl rfl (Rd.new1 wk8 _ _ _) (sm + 1) (by rw [← Hsel.out]; rfl) (by have := Hsel.out; simp; omega) (by have := HB8.out.size; simp; omega) ?_; intro A8 c8 w9 ho hg hat; have HO9 := Lib.hid ho; have H3t := Lib.hid (HM3.out.step ((HB8.out.alloc HB8.out.size _).grown hg (by have := HB8.out.size; simp; omega) (fun j hj => (HO8.out.lt j hj).1))); clear ho hg hat HO8 HM3 HB8)
      | (refine app_rd rfl _ _ rfl w4.heap.size (.slice A5 sm c5) seed rfl (HO5.out.alloc _) _ _ _ [1] rfl rfl (Rd.new1 w5 _ _ _) (sm + 1) (by rw [← Hsel.out]; rfl) (by have := Hsel.out; simp; omega) (by have := HB5.out.size; simp; omega) ?_; intro A6 c6 w6 ho hg hat; have HO6 := Lib.hid ho; have hb6 := (HB5.out.alloc HB5.out.size _).grown hg (by have := HB5.out.size; simp; omega) (fun j hj => (HO5.out.lt j hj).1); have HM := Lib.hid (HM4.out.step hb6); have HS6 := Lib.hid (HS4.out.below hb6); clear ho hg hat hb6 HO5 HM4 HB5 HS4))))
  have HI0 : Hid (InB F R w mA mB seed tA tB (seed ++ [1]) tn 0 w10) := Lib.hid ⟨_, _, _, _, _, HB.out, ⟨rfl, rfl, rfl, fun _ _ => rfl⟩, by have := Hsel.out; simp; omega, by omega, by omega, by have := Hsel.out; show seed.length ≤ 100; omega, by show (0 : Nat) ≤ _; omega, by show (0 : Nat) ≤ _; omega⟩
  clear HB hcut1 hmi1 HS7
  go_loopw [13] (fun ii wr => ∃ i : Nat, i ≤ 20 ∧ ii = .int .i64 i ∧ Hid (InB F R w mA mB seed tA tB (seed ++ [1]) tn i wr)) (fun ii _ => 20 - (intOf ii).toNat)
  case atStart => exact ⟨0, by omega, rfl, HI0⟩
  case round =>
    clear HI0
    obtain ⟨i, hi20, rfl, HI⟩ := hrel
    by_cases hcc : i < ln ∧ i < 20
    · obtain ⟨hi1, hi2⟩ := hcc
      obtain ⟨s1, s2, l, p, a, hbl, hrel, hl, hp, ha, hl1, hp1, ha1⟩ := HI.out.ex
      have hTr := HT.out.below hbl.below
      have hil : i < ts0.length := by have := HT.out.len; omega
      obtain ⟨b, off, hLA, hblt, hcs⟩ := hTr.cells (by omega)
      subst hLA
      obtain ⟨t, htt⟩ : ∃ t, ts0[i] = t := ⟨_, rfl⟩
      have hrg := hcs i hil
      rw [htt] at hrg
      have htm : t ∈ ts0 := by rw [← htt]; exact List.getElem_mem hil
      have htok := hTr.ok t htm
      have Hrg : Hid (wr.rangeAt b (off + i * 3) [.int .i64 t.ep, .slice t.hA t.hd.length t.hc, .slice t.pA t.pl.length t.pc]) := Lib.hid hrg
      have Htok := Lib.hid htok
      have Hbyt : Hid (Byt (t.hd.take 100)) := Lib.hid (fun z hz => (Hby.out t htm).1 z (List.mem_of_mem_take hz))
      have hsz : Hid ((Try.prog.info? 32).map (·.size) = some ([Value.int .i64 t.ep, .slice t.hA t.hd.length t.hc, .slice t.pA t.pl.length t.pc] : List Value).length) := Lib.hid (by kernel_rfl)
      obtain ⟨hm, hhm⟩ : ∃ hm, hm = (t.hd.take 100).length := ⟨_, rfl⟩
      obtain ⟨pm, hpm⟩ : ∃ pm, pm = (t.pl.take 100).length := ⟨_, rfl⟩
      have Htl1 : Hid (min t.hd.length 100 = hm) := Lib.hid (by rw [hhm, List.length_take]; omega)
      have Htl2 : Hid (min t.pl.length 100 = pm) := Lib.hid (by rw [hpm, List.length_take]; omega)
      have hhm1 : hm ≤ 100 := by rw [hhm, List.length_take]; omega
      have hpm1 : pm ≤ 100 := by rw [hpm, List.length_take]; omega
      have Hhm := Lib.hid hhm
      have Hpm := Lib.hid hpm
      obtain ⟨ep, hep⟩ : ∃ ep, ep = t.ep % 256 := ⟨_, rfl⟩
      have he0 : 0 ≤ ep := by omega
      have he1 : ep ≤ 255 := by omega
      have Hep := Lib.hid hep
      have hsz2 : ∀ e A n c B m d, Hid ((Try.prog.info? 32).map (·.size) = some (tval e A n c B m d).size) := fun _ _ _ _ _ _ _ => Lib.hid (by kernel_rfl)
      have hold : ∀ e A n c B m d, Hid ((tval 0 none 0 0 none 0 0).size = (tval e A n c B m d).size) := fun _ _ _ _ _ _ _ => Lib.hid rfl
      have hone : ∀ e A n c B m d, Hid ((tval e A n c B m d).all (·.oneCell') = true) := fun _ _ _ _ _ _ _ => Lib.hid (by simp [Value.oneCell'])
      have Hsz2 := Lib.hid hsz2
      have Hold := Lib.hid hold
      have Hone := Lib.hid hone
      have HBl := Lib.hid hbl
      have HRel := Lib.hid hrel
      clear hTr hcs htok htm htt hil hrg hhm hpm hep hsz2 hold hone hbl hrel hblt HI
      go_upto_region 11 with (first
        | (with_reducible refine wpList_load_mid rfl 32 _ rfl b (off + i * 3) rfl _ _ Hrg.out Try.underlying32 rfl hsz.out ?_)
        | (go_at_call 7; go_must (refine (cut_any t.ep t.hA t.hd.length t.hc t.pA t.pl.length t.pc wr Htok.out.lo Htok.out.hi Htok.out.hd.le Htok.out.pl.le Htok.out.hd.big Htok.out.pl.big).mono ?_; rintro e wx ⟨he, h1⟩; rw [Htl1.out, Htl2.out, ← Hep.out] at he; subst he; have HX := Lib.hid h1; clear h1))
        | (with_reducible refine wpList_store_new rfl 32 _ _ rfl (tval ep t.hA hm t.hc t.pA pm t.pc) rfl rfl 32 (tval 0 none 0 0 none 0 0) (Hsz2.out _ _ _ _ _ _ _).out (Hold.out _ _ _ _ _ _ _).out (Hone.out _ _ _ _ _ _ _).out ?_))
      (try simp only [Act.put, List.setIfInBounds_toArray, List.set_cons_zero, List.set_cons_succ])
      have hwq0 : ∃ wq, wq = wx.alloc (.cells (tval ep t.hA hm t.hc t.pA pm t.pc) 32) := ⟨_, rfl⟩
      obtain ⟨wq, hwq⟩ := hwq0
      rw [← hwq]
      obtain ⟨xb, hxb⟩ : ∃ xb, xb = wx.heap.size := ⟨_, rfl⟩
      rw [← hxb]
      have hrq : Below wr.heap.size wr wq := by rw [hwq]; exact HX.out.alloc HX.out.size _
      have hxrow : wq.heap[xb]? = some (.cells (tval ep t.hA hm t.hc t.pA pm t.pc) 32 (0, 0)) := by rw [hwq, hxb]; exact new_at rfl
      have HBq := Lib.hid (HBl.out.add hrq (b := xb) (by rw [hxb]; exact HX.out.size) (blk_lt hxrow))
      have Hxrow := Lib.hid hxrow
      have Hhd : Hid (Rd wq t.hA t.hc (t.hd.take 100)) := Lib.hid ((Htok.out.hd.below hrq).upto2 100)
      have Hpl : Hid (Rd wq t.pA t.pc (t.pl.take 100)) := Lib.hid ((Htok.out.pl.below hrq).upto2 100)
      clear hwq hxb hrq hxrow HX HBl Hrg Htok
      go_cut [15] from 72 to 84 (fun s15 wx2 => ∃ (nb : Nat) (hA2 : Option Addr) (hc2 : Nat) (pA2 : Option Addr) (pc2 : Nat) (pl2 : List Int), s15 = .pointer (some ⟨nb, 0, none⟩) ∧ Hid (NewT wq nb (255 - ep) hA2 hm hc2 (turnL tn (t.hd.take 100)) pA2 pm pc2 pl2 wx2))
      case first =>
        --[
        refine seg_begin (fun W => W.cell? ⟨xb, 0, none⟩ = some (.int .i64 ep) ∧ W.cell? ⟨xb, 1, none⟩ = some (.slice t.hA hm t.hc) ∧ W.cell? ⟨xb, 2, none⟩ = some (.slice t.pA pm t.pc)) [1, 4, 6, 8, 11, 13] (by kernel_rfl) ?_
        have HSof : Hid (∀ W, Below wq.heap.size wq W → (W.cell? ⟨xb, 0, none⟩ = some (.int .i64 ep) ∧ W.cell? ⟨xb, 1, none⟩ = some (.slice t.hA hm t.hc) ∧ W.cell? ⟨xb, 2, none⟩ = some (.slice t.pA pm t.pc))) := Lib.hid fun W hB => ⟨blk_cell (below_at hB Hxrow.out (blk_lt Hxrow.out)) 0 rfl, blk_cell (below_at hB Hxrow.out (blk_lt Hxrow.out)) 1 rfl, blk_cell (below_at hB Hxrow.out (blk_lt Hxrow.out)) 2 rfl⟩
        have Hbd : Hid (Below wq.heap.size wq wq.drew) := Lib.hid (Below.refl _ wq).drew
        have HS1 := Lib.hid (HSof.out _ Hbd.out)
        have Hhd1 := Lib.hid (Hhd.out.below Hbd.out)
        have Hpl1 := Lib.hid (Hpl.out.below Hbd.out)
        have Hwl : Hid (∀ z, pm = (turnL z (t.pl.take 100)).length) := Lib.hid fun z => Hpm.out.trans (turnL_len z _).symm
        generalize wq.drew = wd at *
        (refine seg_take 0 ?_ rfl (by kernel_rfl) (by kernel_rfl) (by kernel_rfl) (by kernel_rfl) (by kernel_rfl) rfl (fun _ _ _ h => h) rfl ?_ ?_; rotate_left; (focus (intro w; go_simp; try with_reducible rfl)); (try simp only [List.getElem_toArray, List.getElem_cons_zero, List.getElem_cons_succ, Act.put, List.setIfInBounds_toArray, List.set_cons_zero, List.set_cons_succ]); refine seg_take 3 ?_ rfl (by kernel_rfl) (by kernel_rfl) (by kernel_rfl) (by kernel_rfl) (by kernel_rfl) rfl (fun _ _ _ h => h) rfl ?_ ?_; rotate_left; (focus (intro w; go_simp; try with_reducible rfl)); (try simp only [List.getElem_toArray, List.getElem_cons_zero, List.getElem_cons_succ, Act.put, List.setIfInBounds_toArray, List.set_cons_zero, List.set_cons_succ]); refine seg_take 5 ?_ rfl (by kernel_rfl) (by kernel_rfl) (by kernel_rfl) (by kernel_rfl) (by kernel_rfl) rfl (fun _ _ _ h => h) rfl ?_ ?_; rotate_left; (focus (intro w; go_simp; try with_reducible rfl)); (try simp only [List.getElem_toArray, List.getElem_cons_zero, List.getElem_cons_succ, Act.put, List.setIfInBounds_toArray, List.set_cons_zero, List.set_cons_succ]); refine seg_take 7 ?_ rfl (by kernel_rfl) (by kernel_rfl) (by kernel_rfl) (by kernel_rfl) (by kernel_rfl) rfl (fun _ _ _ h => h) rfl ?_ ?_; rotate_left; (focus (intro w; go_simp; try with_reducible rfl)); (try simp only [List.getElem_toArray, List.getElem_cons_zero, List.getElem_cons_succ, Act.put, List.setIfInBounds_toArray, List.set_cons_zero, List.set_cons_succ]); refine seg_take 9 ?_ rfl (by kernel_rfl) (by kernel_rfl) (by kernel_rfl) (by kernel_rfl) (by kernel_rfl) rfl (fun _ _ _ h => h) rfl ?_ ?_; rotate_left; (focus (intro w; go_simp; try with_reducible rfl)); (try simp only [List.getElem_toArray, List.getElem_cons_zero, List.getElem_cons_succ, Act.put, List.setIfInBounds_toArray, List.set_cons_zero, List.set_cons_succ]); refine seg_take 10 ?_ rfl (by kernel_rfl) (by kernel_rfl) (by kernel_rfl) (by kernel_rfl) (by kernel_rfl) rfl (fun _ _ _ h => h) rfl ?_ ?_; rotate_left; (focus (intro w; go_simp; try with_reducible rfl)); (try simp only [List.getElem_toArray, List.getElem_cons_zero, List.getElem_cons_succ, Act.put, List.setIfInBounds_toArray, List.set_cons_zero, List.set_cons_succ]); refine seg_read 1 ?_ rfl (by kernel_rfl) (by kernel_rfl) (by kernel_rfl) (by kernel_rfl) (by kernel_rfl) (by kernel_rfl) (fun _ _ _ h => h) rfl HS1.out ?_ ?_; rotate_left; (focus (intro w hSw; (try dsimp only at hSw); go_split_ands; go_simp; try with_reducible rfl)); (try simp only [List.getElem_toArray, List.getElem_cons_zero, List.getElem_cons_succ, Act.put, List.setIfInBounds_toArray, List.set_cons_zero, List.set_cons_succ]); refine seg_take 2 ?_ rfl (by kernel_rfl) (by kernel_rfl) (by kernel_rfl) (by kernel_rfl) (by kernel_rfl) rfl (fun _ _ _ h => h) rfl ?_ ?_; rotate_left; (focus (intro w; go_simp; try with_reducible rfl)); (try simp only [List.getElem_toArray, List.getElem_cons_zero, List.getElem_cons_succ, Act.put, List.setIfInBounds_toArray, List.set_cons_zero, List.set_cons_succ]); refine seg_read 4 ?_ rfl (by kernel_rfl) (by kernel_rfl) (by kernel_rfl) (by kernel_rfl) (by kernel_rfl) (by kernel_rfl) (fun _ _ _ h => h) rfl HS1.out ?_ ?_; rotate_left; (focus (intro w hSw; (try dsimp only at hSw); go_split_ands; go_simp; try with_reducible rfl)); (try simp only [List.getElem_toArray, List.getElem_cons_zero, List.getElem_cons_succ, Act.put, List.setIfInBounds_toArray, List.set_cons_zero, List.set_cons_succ]); refine seg_read 8 ?_ rfl (by kernel_rfl) (by kernel_rfl) (by kernel_rfl) (by kernel_rfl) (by kernel_rfl) (by kernel_rfl) (fun _ _ _ h => h) rfl HS1.out ?_ ?_; rotate_left; (focus (intro w hSw; (try dsimp only at hSw); go_split_ands; go_simp; try with_reducible rfl)); (try simp only [List.getElem_toArray, List.getElem_cons_zero, List.getElem_cons_succ, Act.put, List.setIfInBounds_toArray, List.set_cons_zero, List.set_cons_succ]))
        refine anyB_two 6 13 rfl rfl (by kernel_rfl) ?_ ?_
        · go_wp2_with (go_at_call 13; go_must (refine (turned_any tn t.hA hm t.hc (t.hd.take 100) wd Hhm.out Hhd1.out (by omega)).mono ?_; rintro e w2 ⟨A2, c2, rfl, h1, h2⟩; have HO2 := Lib.hid h1.rd'; have HB2k := Lib.hid h2; have HB2 := Lib.hid (Hbd.out.trans (h2.mono Hbd.out.size)); clear h1 h2))
          refine ⟨fun _ => HSof.out _ HB2.out, ?_⟩
          have Hpl2 := Lib.hid (Hpl1.out.below HB2k.out)
          refine anyB_two 11 13 rfl rfl (by kernel_rfl) ?_ ?_
          · go_wp2_with (go_at_call 13; go_must (refine (turned_any _ t.pA pm t.pc (t.pl.take 100) w2 Hpm.out Hpl2.out (by omega)).mono ?_; rintro e w3 ⟨A3, c3, rfl, h1, h2⟩; have HO3 := Lib.hid h1.rd'; have HB3k := Lib.hid h2; have HB3 := Lib.hid (HB2.out.trans (h2.mono HB2.out.size)); clear h1 h2))
            refine ⟨fun _ => HSof.out _ HB3.out, ?_⟩
            (refine seg_take 12 ?_ rfl (by kernel_rfl) (by kernel_rfl) (by kernel_rfl) (by kernel_rfl) (by kernel_rfl) rfl (fun _ _ _ h => h) rfl ?_ ?_; rotate_left; (focus (intro w; go_simp; try with_reducible rfl)); (try simp only [List.getElem_toArray, List.getElem_cons_zero, List.getElem_cons_succ, Act.put, List.setIfInBounds_toArray, List.set_cons_zero, List.set_cons_succ]))
            (refine anyB_step 13 rfl (by kernel_rfl) ?_; (try simp only [List.getElem_toArray, List.getElem_cons_zero, List.getElem_cons_succ]))
            go_wp2
            obtain ⟨nb, hnb⟩ : ∃ nb, nb = w3.heap.size := ⟨_, rfl⟩
            have hn0 : (World.alloc w3 (.cells (tval 0 none 0 0 none 0 0) 32 (0, 0))).heap[nb]? = some (.cells (tval 0 none 0 0 none 0 0) 32 (0, 0)) := new_at hnb
            have hna : Below wq.heap.size wq (World.alloc w3 (.cells (tval 0 none 0 0 none 0 0) 32 (0, 0))) := HB3.out.alloc HB3.out.size _
            have hnk : Below w3.heap.size w3 (World.alloc w3 (.cells (tval 0 none 0 0 none 0 0) 32 (0, 0))) := below_one w3 _
            have HNL : Hid (wq.heap.size ≤ nb) := Lib.hid (by rw [hnb]; exact HB3.out.size)
            rw [← hnb]
            generalize World.alloc w3 (.cells (tval 0 none 0 0 none 0 0) 32 (0, 0)) = wn at *
            have HNA := Lib.hid hna
            have HNK := Lib.hid hnk
            have HN0 := Lib.hid hn0
            clear hn0 hna hnk hnb
            refine ⟨fun _ => HSof.out _ HNA.out, ?_⟩
            have HN := HN0
            have HBE := HNA
            have HK2 := Lib.hid (HB3k.out.trans (HNK.out.mono HB3k.out.size))
            have HK3 := HNK
            skip
            (refine anyB_step 14 rfl (by kernel_rfl) ?_; (try simp only [List.getElem_toArray, List.getElem_cons_zero, List.getElem_cons_succ]))
            go_wp2_with (with_reducible refine wpList_store_row rfl 32 _ _ rfl nb (tval (255 - ep) A2 hm c2 A3 pm c3) rfl rfl 32 (tval 0 none 0 0 none 0 0) HN.out (Hsz2.out _ _ _ _ _ _ _).out (Hold.out _ _ _ _ _ _ _).out (Hone.out _ _ _ _ _ _ _).out ?_)
            show AnyB _ _ _ _ _ _ _ _ _ _ _ _
            skip
            (refine anyB_done (by kernel_rfl) ?_)
            go_wp2
            go_meet
            exact ⟨nb, A2, c2, A3, c3, _, rfl, Lib.hid (newt_of HBE.out HNL.out HN.out (HO2.out.below HK2.out) (HO3.out.below HK3.out) (Hwl.out _))⟩
          · skip
            go_wp2
            obtain ⟨nb, hnb⟩ : ∃ nb, nb = w2.heap.size := ⟨_, rfl⟩
            have hn0 : (World.alloc w2 (.cells (tval 0 none 0 0 none 0 0) 32 (0, 0))).heap[nb]? = some (.cells (tval 0 none 0 0 none 0 0) 32 (0, 0)) := new_at hnb
            have hna : Below wq.heap.size wq (World.alloc w2 (.cells (tval 0 none 0 0 none 0 0) 32 (0, 0))) := HB2.out.alloc HB2.out.size _
            have hnk : Below w2.heap.size w2 (World.alloc w2 (.cells (tval 0 none 0 0 none 0 0) 32 (0, 0))) := below_one w2 _
            have HNL : Hid (wq.heap.size ≤ nb) := Lib.hid (by rw [hnb]; exact HB2.out.size)
            rw [← hnb]
            generalize World.alloc w2 (.cells (tval 0 none 0 0 none 0 0) 32 (0, 0)) = wn at *
            have HNA := Lib.hid hna
            have HNK := Lib.hid hnk
            have HN0 := Lib.hid hn0
            clear hn0 hna hnk hnb
            refine ⟨fun _ => HSof.out _ HNA.out, ?_⟩
            have Hpl3 := Lib.hid (Hpl2.out.below HNK.out)
            skip
            (refine anyB_step 11 rfl (by kernel_rfl) ?_; (try simp only [List.getElem_toArray, List.getElem_cons_zero, List.getElem_cons_succ]))
            go_wp2_with (go_at_call 13; go_must (refine (turned_any _ t.pA pm t.pc (t.pl.take 100) wn Hpm.out Hpl3.out (by omega)).mono ?_; rintro e w3 ⟨A3, c3, rfl, h1, h2⟩; have HO3 := Lib.hid h1.rd'; have HB3k := Lib.hid h2; have HB3 := Lib.hid (HNA.out.trans (h2.mono HNA.out.size)); clear h1 h2))
            refine ⟨fun _ => HSof.out _ HB3.out, ?_⟩
            have HN := Lib.hid (below_at HB3k.out HN0.out (blk_lt HN0.out))
            have HBE := HB3
            have HK2 := Lib.hid (HNK.out.trans (HB3k.out.mono HNK.out.size))
            have HK3 := Lib.hid (Below.refl w3.heap.size w3)
            (refine seg_take 12 ?_ rfl (by kernel_rfl) (by kernel_rfl) (by kernel_rfl) (by kernel_rfl) (by kernel_rfl) rfl (fun _ _ _ h => h) rfl ?_ ?_; rotate_left; (focus (intro w; go_simp; try with_reducible rfl)); (try simp only [List.getElem_toArray, List.getElem_cons_zero, List.getElem_cons_succ, Act.put, List.setIfInBounds_toArray, List.set_cons_zero, List.set_cons_succ]))
            (refine anyB_step 14 rfl (by kernel_rfl) ?_; (try simp only [List.getElem_toArray, List.getElem_cons_zero, List.getElem_cons_succ]))
            go_wp2_with (with_reducible refine wpList_store_row rfl 32 _ _ rfl nb (tval (255 - ep) A2 hm c2 A3 pm c3) rfl rfl 32 (tval 0 none 0 0 none 0 0) HN.out (Hsz2.out _ _ _ _ _ _ _).out (Hold.out _ _ _ _ _ _ _).out (Hone.out _ _ _ _ _ _ _).out ?_)
            show AnyB _ _ _ _ _ _ _ _ _ _ _ _
            skip
            (refine anyB_done (by kernel_rfl) ?_)
            go_wp2
            go_meet
            exact ⟨nb, A2, c2, A3, c3, _, rfl, Lib.hid (newt_of HBE.out HNL.out HN.out (HO2.out.below HK2.out) (HO3.out.below HK3.out) (Hwl.out _))⟩
        · skip
          go_wp2
          obtain ⟨nb, hnb⟩ : ∃ nb, nb = wd.heap.size := ⟨_, rfl⟩
          have hn0 : (World.alloc wd (.cells (tval 0 none 0 0 none 0 0) 32 (0, 0))).heap[nb]? = some (.cells (tval 0 none 0 0 none 0 0) 32 (0, 0)) := new_at hnb
          have hna : Below wq.heap.size wq (World.alloc wd (.cells (tval 0 none 0 0 none 0 0) 32 (0, 0))) := Hbd.out.alloc Hbd.out.size _
          have hnk : Below wd.heap.size wd (World.alloc wd (.cells (tval 0 none 0 0 none 0 0) 32 (0, 0))) := below_one wd _
          have HNL : Hid (wq.heap.size ≤ nb) := Lib.hid (by rw [hnb]; exact Hbd.out.size)
          rw [← hnb]
          generalize World.alloc wd (.cells (tval 0 none 0 0 none 0 0) 32 (0, 0)) = wn at *
          have HNA := Lib.hid hna
          have HNK := Lib.hid hnk
          have HN0 := Lib.hid hn0
          clear hn0 hna hnk hnb
          refine ⟨fun _ => HSof.out _ HNA.out, ?_⟩
          have Hhd2 := Lib.hid (Hhd1.out.below HNK.out)
          have Hpl3 := Lib.hid (Hpl1.out.below HNK.out)
          skip
          (refine anyB_step 6 rfl (by kernel_rfl) ?_; (try simp only [List.getElem_toArray, List.getElem_cons_zero, List.getElem_cons_succ]))
          go_wp2_with (go_at_call 13; go_must (refine (turned_any tn t.hA hm t.hc (t.hd.take 100) wn Hhm.out Hhd2.out (by omega)).mono ?_; rintro e w2 ⟨A2, c2, rfl, h1, h2⟩; have HO2 := Lib.hid h1.rd'; have HB2k := Lib.hid h2; have HB2 := Lib.hid (HNA.out.trans (h2.mono HNA.out.size)); clear h1 h2))
          refine ⟨fun _ => HSof.out _ HB2.out, ?_⟩
          have Hpl4 := Lib.hid (Hpl3.out.below HB2k.out)
          skip
          (refine anyB_step 11 rfl (by kernel_rfl) ?_; (try simp only [List.getElem_toArray, List.getElem_cons_zero, List.getElem_cons_succ]))
          go_wp2_with (go_at_call 13; go_must (refine (turned_any _ t.pA pm t.pc (t.pl.take 100) w2 Hpm.out Hpl4.out (by omega)).mono ?_; rintro e w3 ⟨A3, c3, rfl, h1, h2⟩; have HO3 := Lib.hid h1.rd'; have HB3k := Lib.hid h2; have HB3 := Lib.hid (HB2.out.trans (h2.mono HB2.out.size)); clear h1 h2))
          refine ⟨fun _ => HSof.out _ HB3.out, ?_⟩
          have HN := Lib.hid (below_at HB3k.out (below_at HB2k.out HN0.out (blk_lt HN0.out)) (blk_lt (below_at HB2k.out HN0.out (blk_lt HN0.out))))
          have HBE := HB3
          have HK2 := HB3k
          have HK3 := Lib.hid (Below.refl w3.heap.size w3)
          (refine seg_take 12 ?_ rfl (by kernel_rfl) (by kernel_rfl) (by kernel_rfl) (by kernel_rfl) (by kernel_rfl) rfl (fun _ _ _ h => h) rfl ?_ ?_; rotate_left; (focus (intro w; go_simp; try with_reducible rfl)); (try simp only [List.getElem_toArray, List.getElem_cons_zero, List.getElem_cons_succ, Act.put, List.setIfInBounds_toArray, List.set_cons_zero, List.set_cons_succ]))
          (refine anyB_step 14 rfl (by kernel_rfl) ?_; (try simp only [List.getElem_toArray, List.getElem_cons_zero, List.getElem_cons_succ]))
          go_wp2_with (with_reducible refine wpList_store_row rfl 32 _ _ rfl nb (tval (255 - ep) A2 hm c2 A3 pm c3) rfl rfl 32 (tval 0 none 0 0 none 0 0) HN.out (Hsz2.out _ _ _ _ _ _ _).out (Hold.out _ _ _ _ _ _ _).out (Hone.out _ _ _ _ _ _ _).out ?_)
          show AnyB _ _ _ _ _ _ _ _ _ _ _ _
          skip
          (refine anyB_done (by kernel_rfl) ?_)
          go_wp2
          go_meet
          exact ⟨nb, A2, c2, A3, c3, _, rfl, Lib.hid (newt_of HBE.out HNL.out HN.out (HO2.out.below HK2.out) (HO3.out.below HK3.out) (Hwl.out _))⟩
        --]
      case rest =>
        obtain ⟨yb, hA2, hc2, pA2, pc2, pl2, rfl, HT2⟩ := hcut
        obtain ⟨hd, hhd⟩ : ∃ hd, hd = t.hd.take 100 := ⟨_, rfl⟩
        obtain ⟨pl, hpl⟩ : ∃ pl, pl = t.pl.take 100 := ⟨_, rfl⟩
        have hpr : ([yb, xb] : List Nat) = yb :: [xb] := rfl
        have HB0 : Hid (Bl F R w [yb, xb] mA mB seed s1 s2 tA tB (seed ++ [1]) l p a l p a wc) := Lib.hid (HBq.out.add HT2.out.below HT2.out.lo (blk_lt HT2.out.row))
        have HR0 : Hid (Rs [yb, xb] xb yb (tval ep t.hA hm t.hc t.pA pm t.pc) (tval (255 - ep) hA2 hm hc2 pA2 pm pc2) [(t.hA, t.hc, hd), (t.pA, t.pc, pl), (hA2, hc2, turnL tn hd), (pA2, pc2, pl2)] [] wc) := Lib.hid ⟨below_at HT2.out.below Hxrow.out (blk_lt Hxrow.out), HT2.out.row, fun r hr => by
          simp only [List.mem_cons, List.not_mem_nil, or_false] at hr
          rcases hr with rfl | rfl | rfl | rfl
          · rw [hhd]; exact Hhd.out.below HT2.out.below
          · rw [hpl]; exact Hpl.out.below HT2.out.below
          · rw [hhd]; exact HT2.out.fhd
          · exact HT2.out.fpl, by simp, by simp, by simp, by simp⟩
        have Hhm2 : Hid (hm = hd.length) := Lib.hid (by rw [hhd]; exact Hhm.out)
        have Hpm2 : Hid (pm = pl.length) := Lib.hid (by rw [hpl]; exact Hpm.out)
        have Hpl2 : Hid (pm = pl2.length) := Lib.hid HT2.out.fpm
        have Hhm3 : Hid (hm = (turnL tn hd).length) := Lib.hid (Hhm2.out.trans (turnL_len _ _).symm)
        have Hby2 : Hid (Byt hd) := Lib.hid (by rw [hhd]; exact Hbyt.out)
        obtain ⟨sa, hsa⟩ : ∃ sa, sa = (inm F R seed s1 (strOfNums hd)).2 := ⟨_, rfl⟩
        obtain ⟨sb, hsb⟩ : ∃ sb, sb = (inm F R seed s2 (strOfNums (turnL tn hd))).2 := ⟨_, rfl⟩
        obtain ⟨v, hv⟩ : ∃ v, v = (inm F R seed s1 (strOfNums hd)).1 := ⟨_, rfl⟩
        obtain ⟨q1, q2⟩ := HRel.out.name (F := F) (R := R) (seed := seed) htn hd Hby2.out
        have hbn := inm_bound F R seed s1 (strOfNums hd)
        have hrl := HRel.out.left
        have hrp := HRel.out.p
        have hra := HRel.out.at_
        rw [← hv] at q1
        rw [← hsa, ← hsb] at q2
        rw [← hsa] at hbn
        have Hv := Lib.hid hv
        have Hv2 := Lib.hid q1
        have Hsa := Lib.hid hsa
        have Hsb := Lib.hid hsb
        have Hrel2 := Lib.hid q2
        have Hbn := Lib.hid hbn
        have Hsel2 : Hid ((seed ++ [1]).length ≤ 61 ∧ seed.length ≤ 60) := Lib.hid ⟨by have := Hsel.out; simp; omega, by have := Hsel.out; omega⟩
        have Hrl : Hid (s2.left.length ≤ 100 ∧ s2.p ≤ i * 200 ∧ s2.at_ ≤ i * 200) := Lib.hid ⟨by rw [← hrl]; exact hl1, by rw [← hrp]; exact hp1, by rw [← hra]; exact ha1⟩
        clear hpr HT2 hhd hpl hv hsa hsb q1 q2 hbn hrl hrp hra HRel HBq Hxrow Hhd Hpl Hhm Hpm Hbyt
        have hx1 : wc.cell? ⟨xb, 1, none⟩ = some (.slice t.hA hm t.hc) := blk_cell HR0.out.x 1 rfl
        go_upto_region 13 with (first
          | (go_at_call 14; go_must (refine (bl_name F R w [yb, xb] mA mB seed s1 s2 tA tB (seed ++ [1]) l p a l p a t.hA hm t.hc hd wc HB0.out (by have := Hsel2.out; omega) (by omega) (by omega) (by omega) Hhm2.out (HR0.out.rd _ (by simp : (t.hA, t.hc, hd) ∈ _))).mono ?_; rintro e wn1 ⟨he, h1, h2, h3⟩; rw [← Hv.out] at he h1; rw [← Hsa.out] at h2; change e = .returned (.tuple #[.agg (w8 v), .int .i64 0]) at he; subst he; have Hv32 := Lib.hid h1; have HSZ : Hid ((Try.prog.info? 43).map (·.size) = some (w8 v).size) := Lib.hid (by rw [w8_size, h1]; kernel_rfl); have HOLD : Hid (z32.size = (w8 v).size) := Lib.hid (by rw [w8_size, h1]; rfl); have HB1 := Lib.hid h2; have HR1 := Lib.hid (HR0.out.keep h3); clear h1 h2 h3 hx1))
          | (with_reducible refine wpList_store_new rfl 43 _ _ rfl _ rfl rfl _ _ HSZ.out HOLD.out (w8_one _) ?_))
        have hB2 := HB1.out.add (below_one wn1 (.cells (w8 v) 43)) (Nat.le_refl _) (by simp)
        have hR2 := HR1.out.add v
        obtain ⟨wa1, hwa1⟩ : ∃ W, W = wn1.alloc (.cells (w8 v) 43) := ⟨_, rfl⟩
        rw [← hwa1] at hB2 hR2 ⊢
        obtain ⟨n1, hn1⟩ : ∃ n, n = wn1.heap.size := ⟨_, rfl⟩
        rw [← hn1] at hB2 hR2 ⊢
        have HB2 := Lib.hid hB2
        have HR2 := Lib.hid hR2
        clear hB2 hR2 HB1 HR1 HB0 HR0 hwa1 hn1
        have hy1 : wa1.cell? ⟨yb, 1, none⟩ = some (.slice hA2 hm hc2) := blk_cell HR2.out.y 1 rfl
        go_upto_region 14 with (first
          | (go_at_call 14; go_must (refine (bl_name F R w [n1, yb, xb] mB mA seed s2 sa tB tA (seed ++ [1]) l p a l p a hA2 hm hc2 (turnL tn hd) wa1 HB2.out.swap (by have := Hsel2.out; omega) (by have := Hrl.out; omega) (by have := Hrl.out; omega) (by have := Hrl.out; omega) Hhm3.out (HR2.out.rd _ (by simp : (hA2, hc2, turnL tn hd) ∈ _))).mono ?_; rintro e wn2 ⟨he, h1, h2, h3⟩; rw [← Hv2.out] at he; rw [← Hsb.out] at h2; change e = .returned (.tuple #[.agg (w8 v), .int .i64 0]) at he; subst he; have HB3 := Lib.hid h2.swap; have HR3 := Lib.hid (HR2.out.keep h3); clear h1 h2 h3 hy1))
          | (with_reducible refine wpList_store_new rfl 43 _ _ rfl _ rfl rfl _ _ HSZ.out HOLD.out (w8_one _) ?_))
        have hB4 := HB3.out.add (below_one wn2 (.cells (w8 v) 43)) (Nat.le_refl _) (by simp)
        have hR4 := HR3.out.add v
        obtain ⟨wa2, hwa2⟩ : ∃ W, W = wn2.alloc (.cells (w8 v) 43) := ⟨_, rfl⟩
        rw [← hwa2] at hB4 hR4 ⊢
        obtain ⟨n2, hn2⟩ : ∃ n, n = wn2.heap.size := ⟨_, rfl⟩
        rw [← hn2] at hB4 hR4 ⊢
        have HB4 := Lib.hid hB4
        have HR4 := Lib.hid hR4
        clear hB4 hR4 HB2 HR2 HB3 HR3 hwa2 hn2
        have hx0 : wa2.cell? ⟨xb, 0, none⟩ = some (.int .i64 ep) := blk_cell HR4.out.x 0 rfl
        have hx1 : wa2.cell? ⟨xb, 1, none⟩ = some (.slice t.hA hm t.hc) := blk_cell HR4.out.x 1 rfl
        have hx2 : wa2.cell? ⟨xb, 2, none⟩ = some (.slice t.pA pm t.pc) := blk_cell HR4.out.x 2 rfl
        rcases hdd : tDraw F R (seed ++ [1]) (pm + 28) l p with ⟨d, l2, p2⟩
        have hd1 := tDraw_len F R (seed ++ [1]) (pm + 28) l p
        have hd2 := tDraw_bound F R (seed ++ [1]) (pm + 28) l p
        rw [hdd] at hd1 hd2
        have Hdd := Lib.hid hdd
        have Hd1 : Hid (pm + 28 = d.length) := Lib.hid hd1.symm
        have Hd2 : Hid (p2 ≤ p + (pm + 28) ∧ l2.length ≤ max l.length 32) := Lib.hid hd2
        clear hdd hd1 hd2
        go_upto_region 15 with (go_at_call 8; go_must (refine (bl_seal F R w [n2, n1, yb, xb] mA mB seed sa sb tA tB (seed ++ [1]) l p a l p a ep t.hA hm t.hc hd t.pA pm t.pc pl wa2 HB4.out (by have := Hsel2.out; omega) (by omega) (by omega) (by omega) he0 he1 Hhm2.out (HR4.out.rd _ (by simp : (t.hA, t.hc, hd) ∈ _)) (by omega) Hpm2.out (HR4.out.rd _ (by simp : (t.pA, t.pc, pl) ∈ _)) (by omega)).mono ?_; rintro e ws1 ⟨rA, rc, rfl, h1, ⟨bx1, h2⟩, h3⟩; rw [Hdd.out] at h1 h2; have HB5 := Lib.hid h2; have HR5 := Lib.hid ((HR4.out.keep h3).read h1); clear h1 h2 h3 hx0 hx1 hx2 HB4 HR4))
        have hx0 : ws1.cell? ⟨yb, 0, none⟩ = some (.int .i64 (255 - ep)) := blk_cell HR5.out.y 0 rfl
        have hx1 : ws1.cell? ⟨yb, 1, none⟩ = some (.slice hA2 hm hc2) := blk_cell HR5.out.y 1 rfl
        have hx2 : ws1.cell? ⟨yb, 2, none⟩ = some (.slice pA2 pm pc2) := blk_cell HR5.out.y 2 rfl
        go_upto_region 16 with (go_at_call 8; go_must (refine (bl_seal F R w [n2, n1, yb, xb] mB mA seed sb { sa with bx := bx1 } tB tA (seed ++ [1]) l p a l2 p2 (a + (pm + 28)) (255 - ep) hA2 hm hc2 (turnL tn hd) pA2 pm pc2 pl2 ws1 HB5.out.swap (by have := Hsel2.out; omega) (by omega) (by omega) (by omega) (by omega) (by omega) Hhm3.out (HR5.out.rd _ (by simp : (hA2, hc2, turnL tn hd) ∈ _)) (by omega) Hpl2.out (HR5.out.rd _ (by simp : (pA2, pc2, pl2) ∈ _)) (by omega)).mono ?_; rintro e ws2 ⟨qA, qc, rfl, h1, ⟨bx2, h2⟩, h3⟩; rw [Hdd.out] at h1 h2; have HB6 := Lib.hid h2.swap; have HR6 := Lib.hid ((HR5.out.keep h3).read h1); clear h1 h2 h3 hx0 hx1 hx2 HB5 HR5))
        have hneq : ∀ W, (binOp .neq 43 (.agg (w8 v)) (.agg (w8 v))).run Try.prog W = .ok (.bool false) W := fun W => neq_same v W Hv32.out
        have hN1 := Lib.hid (HR6.out.nm (n1, v) (by simp))
        have hN2 := Lib.hid (HR6.out.nm (n2, v) (by simp))
        have hbox1 := Lib.hid (HR6.out.rd (rA, rc, d) (by simp))
        have hbox2 := Lib.hid (HR6.out.rd (qA, qc, d) (by simp))
        obtain ⟨⟨oA, hTA⟩, ⟨oB, hTB⟩⟩ := HB6.out.tapes
        have HTA := Lib.hid hTA
        have HTB := Lib.hid hTB
        clear hTA hTB
        obtain ⟨bm, hbm⟩ : ∃ bm, bm = pm + 28 := ⟨_, rfl⟩
        rw [← hbm]
        have Hbm : Hid (bm = d.length) := Lib.hid (by rw [hbm]; exact Hd1.out)
        have HI2 : Hid (InB F R w mA mB seed tA tB (seed ++ [1]) tn (i + 1) ws2) := Lib.hid ⟨_, _, _, _, _, HB6.out.less, ⟨Hrel2.out.left, Hrel2.out.p, Hrel2.out.at_, Hrel2.out.nm⟩, by have := Hd2.out; omega, by have := Hd2.out; omega, by omega, by have := Hbn.out; show sa.left.length ≤ 100; omega, by have := Hbn.out; show sa.p ≤ _; omega, by have := Hbn.out; show sa.at_ ≤ _; omega⟩
        clear hbm HB6 HR6 Hd1 Hd2 Hdd Hbn Hrl Hrel2 Hsa Hsb Hv Hv2 Hby2 Hpl2 Hhm2 Hhm3 Hpm2
        go_wp2_with (first
          | (with_reducible refine wpList_load_row rfl 43 _ rfl n1 rfl _ _ (0, 0) _ hN1.out Try.underlying43 rfl HSZ.out ?_)
          | (with_reducible refine wpList_load_row rfl 43 _ rfl n2 rfl _ _ (0, 0) _ hN2.out Try.underlying43 rfl HSZ.out ?_)
          | (go_at_call 10; go_must (refine (eqb_true rA qA bm rc bm qc d d ws2 Hbm.out hbox1.out Hbm.out hbox2.out rfl).mono ?_; rintro e we ⟨rfl, rfl⟩))
          | (go_at_call_of 15 (Value.pointer (some (⟨tA, 0, none⟩ : Addr))); refine (at_tp F R tA (seed ++ [1]) l2 p2 (a + (pm + 28)) oA ws2 HTA.out).mono ?_; rintro e we ⟨rfl, rfl⟩)
          | (go_at_call_of 15 (Value.pointer (some (⟨tB, 0, none⟩ : Addr))); refine (at_tp F R tB (seed ++ [1]) l2 p2 (a + (pm + 28)) oB ws2 HTB.out).mono ?_; rintro e we ⟨rfl, rfl⟩))
        exact ⟨⟨i + 1, by omega, by simp, HI2⟩, by simp [intOf]; omega⟩
    · go_upto_region 8 with (fail)
      go_cut [64] from 57 to 64 (fun s64 wx => s64 = .bool false ∧ wx = wr)
      case first =>
        by_cases hj1 : i < ln
        · have hj2 : ¬ i < 20 := fun h => hcc ⟨hj1, h⟩
          go_wp2
          go_meet
          exact ⟨congrArg Value.bool (decide_eq_false (by omega)), rfl⟩
        · go_wp2
          go_meet
          exact ⟨rfl, rfl⟩
      case rest =>
        obtain ⟨rfl, rfl⟩ := hcut
        have hb1 := HI.out.ex.choose_spec.choose_spec.choose_spec.choose_spec.choose_spec.1
        have Htab := Lib.hid hb1.tabs
        have Hbw := Lib.hid hb1.below
        clear hb1 hcc
        go_wp2_with (go_at_call 11; go_must (refine (works_any F R wc Htab.out).mono ?_; rintro e wq ⟨rfl, h1⟩; have HQ := Lib.hid h1; clear h1))
        go_ret
        exact ⟨rfl, Hbw.out.trans (HQ.out.mono Hbw.out.size)⟩
end Go.Proofs.Ythgnccgablploaa
