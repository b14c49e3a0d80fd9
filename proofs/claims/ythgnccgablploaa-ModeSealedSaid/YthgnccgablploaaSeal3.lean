/- ModeSealed: the walk's first half. -/
import Derived.Test.YthgnccgablploaaSeal2b
set_option linter.unusedVariables false
set_option linter.unusedSimpArgs false
set_option maxRecDepth 100000
namespace Go.Proofs.Ythgnccgablploaa
open Go Go.RowKit Go.Conc
/-- 'x[:h]' of texts. -/
theorem cut_hiT (A : Option Addr) (n c h : Nat) (hh : h ≤ c) (kh : IntKind) (W : World) : (Instr.slice 23 (.slice A n c) none (some (.int kh (h : Int))) none).run Try.prog W = .ok (.slice A h c) W := by
  have hel : Try.prog.elem 23 = 32 := by simp [Program.elem, Try.underlying23]
  have hu : Try.prog.underlying 23 = some (.slice (Try.prog.elem 23)) := by rw [hel]; exact Try.underlying23
  have hs : (Try.prog.info? 32).map (·.size) = some 3 := by kernel_rfl
  obtain ⟨i, hi, hi1⟩ := Option.map_eq_some_iff.1 hs
  have ha : A.map (·.add 0) = A := by cases A <;> simp [Addr.add]
  rw [run_slice_h W 23 A n c hu kh (h : Int) (Int.natCast_nonneg _) (by omega), hel]
  simp [sizeOf, typeInfo, hi, hi1, sliced, Result.andThen, ha]
theorem Rd.upto {w : World} {A : Option Addr} {c : Nat} {xs : List Int} (h : Rd w A c xs) (m : Nat) : Rd w A c (xs.take m) := by
  by_cases hm : m ≤ xs.length
  · exact h.take m hm
  · rw [List.take_of_length_le (by omega)]; exact h
/-- The state of the first loop. -/
structure In1 (F R : List Int) (w : World) (mb : Nat) (seed : List Int) (tb : Nat) (ts : List Tx) (i : Nat) (A : Option Addr) (c : Nat) (bs : List Sl) (wr : World) : Prop where
  wm : ∃ s left p at_, Wm F R w ((Value.slice A i c).ownBlock.toList) mb seed s tb seed left p at_ wr ∧ s.bx = bxOf ((ts.take i).zip bs) ∧ left.length ≤ 100 ∧ p ≤ i * 200 ∧ at_ ≤ i * 200
  own : OwnV wr w.heap.size A i c (bs.map Sl.val)
  len : bs.length = i
  rd : ∀ s ∈ bs, Rd wr s.A s.c s.xs ∧ 28 ≤ s.xs.length ∧ s.xs.length ≤ 200
theorem In1.step {F R : List Int} {w : World} {mb : Nat} {seed : List Int} {tb : Nat} {ts : List Tx} {i : Nat} {A : Option Addr} {c : Nat} {bs : List Sl} {wr w5 w6 w7 : World} (h : In1 F R w mb seed tb ts i A c bs wr) (t : Tx) (ht : ts[i]? = some t)
    {s : St} {left left' : List Int} {p p' at_ : Nat} {A5 : Option Addr} {c5 : Nat} {d : List Int} (hW : Wm F R w ((Value.slice A i c).ownBlock.toList) mb seed { s with bx := mput (t.ep % 256, strOfNums (t.hd.take 100), strOfNums d) (strOfNums (t.pl.take 100)) s.bx } tb seed left' p' (at_ + d.length) w5) (hbx : s.bx = bxOf ((ts.take i).zip bs))
    (hl : left'.length ≤ 100) (hp : p' ≤ (i + 1) * 200) (hat : at_ ≤ i * 200) (hd : Rd w5 A5 c5 d) (hd0 : 28 ≤ d.length) (hd1 : d.length ≤ 200) (hK : ∀ A c xs, Rd wr A c xs → Rd w5 A c xs)
    {A' : Option Addr} {c' : Nat} (hB : Below w5.heap.size w5 w6) (hO : OwnV w7 w.heap.size A' (i + 1) c' (bs.map Sl.val ++ [.slice A5 d.length c5])) (hk : Kp ((Value.slice A i c).ownBlock.toList) w6 w7) (hn : (Value.slice A' (i + 1) c').ownBlock = (Value.slice A i c).ownBlock ∨ (Value.slice A' (i + 1) c').ownBlock = some w6.heap.size) (ho6 : OwnV w6 w.heap.size A i c (bs.map Sl.val)) (hil : i < ts.length) :
    In1 F R w mb seed tb ts (i + 1) A' c' (bs ++ [⟨A5, c5, d⟩]) w7 := by
  have hg : ∀ b ∈ (Value.slice A i c).ownBlock.toList, (Value.slice A i c).ownBlock = some b := fun b hb => by simpa using hb
  have hh : ∀ b ∈ (Value.slice A i c).ownBlock.toList, Hard w6 b := fun b hb => ho6.hard b (hg b hb)
  have hlen := h.len
  refine ⟨⟨_, left', p', at_ + d.length, (hW.step hB).prot hk hh ?_ ?_, ?_, hl, hp, by omega⟩, by simpa [Sl.val] using hO, by simp [hlen], ?_⟩
  · intro b hb
    have hb : (Value.slice A' (i + 1) c').ownBlock = some b := by simpa using hb
    refine ⟨?_, (World.ownsRow.lt hO.own b hb).2⟩
    rcases hn with e | e
    · left; rw [← e, hb]; simp
    · rw [hb] at e
      right
      have := Option.some.inj e
      omega
  · intro b hb
    exact (World.ownsRow.lt ho6.own b (hg b hb)).1
  · have e1 : (ts.take (i + 1)).zip (bs ++ [⟨A5, c5, d⟩]) = (ts.take i).zip bs ++ [(t, ⟨A5, c5, d⟩)] := by
      rw [List.take_add_one, ht, Option.toList_some]
      exact List.zip_append (by simp; omega)
    rw [e1, bxOf_snoc, ← hbx]
    rfl
  · intro x hx
    rcases List.mem_append.1 hx with hx | hx
    · obtain ⟨h1, h2, h3⟩ := h.rd x hx
      exact ⟨((hK _ _ _ h1).below hB).hard hk hh, h2, h3⟩
    · obtain rfl := List.mem_singleton.1 hx
      exact ⟨(hd.below hB).hard hk hh, hd0, hd1⟩
/-- The state of the second loop. -/
structure In2 (F R : List Int) (w : World) (mb : Nat) (seed : List Int) (tb : Nat) (ts : List Tx) (k : Nat) (bs : List Sl) (A : Option Addr) (n c : Nat) (all : List Sl) (wr : World) : Prop where
  wm : ∃ s left p at_, Wm F R w ((Value.slice A n c).ownBlock.toList) mb seed s tb seed left p at_ wr ∧ s.bx = bxOf (ts.zip bs)
  own : OwnV wr w.heap.size A n c (all.map Sl.val)
  len : all.length = n
  pre : all.take k = bs
  kn : k ≤ n
  rd : ∀ s ∈ all, Rd wr s.A s.c s.xs ∧ s.xs.length ≤ 200
theorem In1.two {F R : List Int} {w : World} {mb : Nat} {seed : List Int} {tb : Nat} {ts : List Tx} {i : Nat} {A : Option Addr} {c : Nat} {bs : List Sl} {wr : World} (h : In1 F R w mb seed tb ts i A c bs wr) (hl : ts.length = i) : In2 F R w mb seed tb ts i bs A i c bs wr := by
  obtain ⟨s, left, p, at_, h1, h2, -⟩ := h.wm
  refine ⟨⟨s, left, p, at_, h1, ?_⟩, h.own, h.len, List.take_of_length_le (by have := h.len; omega), Nat.le_refl _, fun x hx => ⟨(h.rd x hx).1, (h.rd x hx).2.2⟩⟩
  rw [h2, List.take_of_length_le (by omega)]
theorem In2.step {F R : List Int} {w : World} {mb : Nat} {seed : List Int} {tb : Nat} {ts : List Tx} {k : Nat} {bs : List Sl} {A : Option Addr} {n c : Nat} {all : List Sl} {wr w6 w7 : World} (h : In2 F R w mb seed tb ts k bs A n c all wr) (x : Sl) (hB : Below wr.heap.size wr w6) (hx : Rd w6 x.A x.c x.xs) (hxl : x.xs.length ≤ 200)
    {A' : Option Addr} {c' : Nat} (hO : OwnV w7 w.heap.size A' (n + 1) c' (all.map Sl.val ++ [x.val])) (hk : Kp ((Value.slice A n c).ownBlock.toList) w6 w7) (hn : (Value.slice A' (n + 1) c').ownBlock = (Value.slice A n c).ownBlock ∨ (Value.slice A' (n + 1) c').ownBlock = some w6.heap.size) :
    In2 F R w mb seed tb ts k bs A' (n + 1) c' (all ++ [x]) w7 := by
  have hg : ∀ b ∈ (Value.slice A n c).ownBlock.toList, (Value.slice A n c).ownBlock = some b := fun b hb => by simpa using hb
  have ho6 := h.own.below hB
  have hh : ∀ b ∈ (Value.slice A n c).ownBlock.toList, Hard w6 b := fun b hb => ho6.hard b (hg b hb)
  obtain ⟨s, left, p, at_, h1, h2⟩ := h.wm
  refine ⟨⟨s, left, p, at_, (h1.step hB).prot hk hh ?_ ?_, h2⟩, by simpa using hO, by simp [h.len], ?_, by have := h.kn; omega, ?_⟩
  · intro b hb
    have hb : (Value.slice A' (n + 1) c').ownBlock = some b := by simpa using hb
    refine ⟨?_, (World.ownsRow.lt hO.own b hb).2⟩
    rcases hn with e | e
    · left; rw [← e, hb]; simp
    · rw [hb] at e
      right
      have := Option.some.inj e
      omega
  · intro b hb
    exact (World.ownsRow.lt ho6.own b (hg b hb)).1
  · rw [List.take_append_of_le_length (by have := h.kn; have := h.len; omega), h.pre]
  · intro y hy
    rcases List.mem_append.1 hy with hy | hy
    · obtain ⟨g1, g2⟩ := h.rd y hy
      exact ⟨(g1.below hB).hard hk hh, g2⟩
    · obtain rfl := List.mem_singleton.1 hy
      exact ⟨hx.hard hk hh, hxl⟩
set_option maxHeartbeats 4000000 in
theorem sealed_any (F R : List Int) (sA : Option Addr) (sn sc : Nat) (seed0 : List Int) (LA : Option Addr) (ln lc : Nat) (ts0 : List Tx) (TA : Option Addr) (tn tc : Nat) (trs : List Sl) (w : World) (hTb : Tabs F R w) (hsn : sn = seed0.length) (hs : Rd w sA sc seed0) (hT : RdT w LA ln lc ts0) (hL : RdL w TA tn tc trs) :
    Calls Try.prog 3 #[.slice sA sn sc, .slice LA ln lc, .slice TA tn tc] w fun e w' => e = .returned (.bool true) ∧ Below w.heap.size w w' := by
  obtain ⟨sm, hsm⟩ : ∃ sm : Nat, sm = min sn 60 := ⟨_, rfl⟩
  obtain ⟨k, hk⟩ : ∃ k : Nat, k = min ln 12 := ⟨_, rfl⟩
  have hmi1 : (if (60 : Int) < (sn : Int) then (60 : Int) else (sn : Int)) = sm := by omega
  have hmi2 : (if (12 : Int) < (ln : Int) then (12 : Int) else (ln : Int)) = k := by omega
  have hsl := hs.le
  have htl := hT.le
  have hcut1 := fun W => cut_hi sA sn sc sm (by omega) .i64 W
  have hcut2 := fun W => cut_hiT LA ln lc k (by omega) .i64 W
  obtain ⟨seed, hseed⟩ : ∃ seed, seed = seed0.take sm := ⟨_, rfl⟩
  obtain ⟨ts, hts⟩ : ∃ ts, ts = ts0.take k := ⟨_, rfl⟩
  have hS := hs.take sm (by omega)
  have hT2 := hT.take k (by omega)
  rw [← hseed] at hS
  rw [← hts] at hT2
  have hsel : sm = seed.length := by rw [hseed]; simp; omega
  have hm60 : sm ≤ 60 := by omega
  have hk12 : k ≤ 12 := by omega
  have HTb := Lib.hid hTb
  have HS := Lib.hid hS
  have HT := Lib.hid hT2
  have HL := Lib.hid hL
  have Hsel := Lib.hid hsel
  clear hTb hs hT hS hT2 hL hseed hts hsm hk hsel hsl htl hsn
  go_enter Try.func3, Try.ntmps3
  go_wp2_with (first
    | (go_at_call 6; go_must (first
      | (have hx := HW; clear hx; refine (wm_new F R w [] mb seed _ tb seed seed 0 0 sA sm sc seed w2 HW.out Hsel.out HS2.out (by have := Hsel.out; omega)).mono ?_; rintro e w3 ⟨tb2, rfl, h1, -, h2⟩; have HV := Lib.hid h1; clear h1 h2 HW HB1 HS2)
      | (refine (new_tp F R sA sm sc seed w Hsel.out HS.out (by have := Hsel.out; omega)).mono ?_; rintro e w1 ⟨tb, rfl, h1, h2, h3⟩; have N1 := Lib.hid h1; have N2 := Lib.hid h2; have HB1 := Lib.hid h3; clear h1 h2 h3)))
    | (go_at_call 5; go_must (refine (wm_ideal F R w tb seed w1 (HTb.out.below HB1.out) HB1.out N1.out N2.out (by have := Hsel.out; omega)).mono ?_; rintro e w2 ⟨mb, rfl, h1, h2⟩; have HW := Lib.hid h1; have HS2 := Lib.hid (h2.rd _ _ _ (HS.out.below HB1.out)); clear h1 h2 N1 N2)))
  have HI0 : Hid (In1 F R w mb seed tb2 ts 0 none 0 [] w3) := Lib.hid ⟨⟨_, _, _, _, HV.out, rfl, by have := Hsel.out; omega, by omega, by omega⟩, OwnV.nil _ _, rfl, by simp⟩
  clear HV hcut1 hcut2 hmi1 hmi2
  go_loopw [10, 11] (fun v ii wr => ∃ (i : Nat) (A : Option Addr) (c : Nat) (bs : List Sl), i ≤ k ∧ ii = .int .i64 i ∧ v = .slice A i c ∧ Hid (In1 F R w mb seed tb2 ts i A c bs wr)) (fun _ ii _ => k - (intOf ii).toNat)
  case atStart => exact ⟨0, none, 0, [], by omega, rfl, rfl, HI0⟩
  case round =>
    clear HI0
    obtain ⟨i, A, c, bs, hik, rfl, rfl, HI⟩ := hrel
    by_cases hlt : i < k
    ·
      --[
      have hTr := HT.out.below (HI.out.wm.choose_spec.choose_spec.choose_spec.choose_spec.1.below)
      have hil : i < ts.length := by have := HT.out.len; omega
      obtain ⟨b, off, hLA, hblt, hcs⟩ := hTr.cells (by omega)
      subst hLA
      obtain ⟨t, htt⟩ : ∃ t, ts[i] = t := ⟨_, rfl⟩
      have hrg := hcs i hil
      rw [htt] at hrg
      have htm : t ∈ ts := by rw [← htt]; exact List.getElem_mem hil
      have htok := hTr.ok t htm
      have Hrg : Hid (wr.rangeAt b (off + i * 3) [.int .i64 t.ep, .slice t.hA t.hd.length t.hc, .slice t.pA t.pl.length t.pc]) := Lib.hid hrg
      have Htok := Lib.hid htok
      have Hil := Lib.hid hil
      have Htt : Hid (ts[i]? = some t) := Lib.hid (by rw [List.getElem?_eq_getElem hil, htt])
      have hsz : Hid ((Try.prog.info? 32).map (·.size) = some ([Value.int .i64 t.ep, .slice t.hA t.hd.length t.hc, .slice t.pA t.pl.length t.pc] : List Value).length) := Lib.hid (by kernel_rfl)
      obtain ⟨hm, hhm⟩ : ∃ hm, hm = (t.hd.take 100).length := ⟨_, rfl⟩
      obtain ⟨pm, hpm⟩ : ∃ pm, pm = (t.pl.take 100).length := ⟨_, rfl⟩
      have Htl1 : Hid (min t.hd.length 100 = hm) := Lib.hid (by rw [hhm, List.length_take]; omega)
      have Htl2 : Hid (min t.pl.length 100 = pm) := Lib.hid (by rw [hpm, List.length_take]; omega)
      have hhm1 : hm ≤ 100 := by rw [hhm, List.length_take]; omega
      have hpm1 : pm ≤ 100 := by rw [hpm, List.length_take]; omega
      have Hhm := Lib.hid hhm
      have Hpm := Lib.hid hpm
      obtain ⟨s0, left, p, at_, hwm, hbx, hl0, hp0, hat0⟩ := HI.out.wm
      have HWm := Lib.hid hwm
      have Hbx := Lib.hid hbx
      have he0 : 0 ≤ t.ep % 256 := by omega
      have he1 : t.ep % 256 ≤ 255 := by omega
      have hsz2 : Hid ((Try.prog.info? 32).map (·.size) = some (tval (t.ep % 256) t.hA hm t.hc t.pA pm t.pc).size) := Lib.hid (by kernel_rfl)
      have hold : Hid ((tval 0 none 0 0 none 0 0).size = (tval (t.ep % 256) t.hA hm t.hc t.pA pm t.pc).size) := Lib.hid rfl
      have hone : Hid ((tval (t.ep % 256) t.hA hm t.hc t.pA pm t.pc).all (·.oneCell') = true) := Lib.hid (by simp [Value.oneCell'])
      clear hTr hcs htok htm htt hil hrg hhm hpm hwm hbx
      go_wp2_with (first
        | (with_reducible refine wpList_load_mid rfl 32 _ rfl b (off + i * 3) rfl _ _ Hrg.out Try.underlying32 rfl hsz.out ?_)
        | (go_at_call 7; go_must (refine (cut_any t.ep t.hA t.hd.length t.hc t.pA t.pl.length t.pc wr Htok.out.lo Htok.out.hi Htok.out.hd.le Htok.out.pl.le Htok.out.hd.big Htok.out.pl.big).mono ?_; rintro e wx ⟨he, h1⟩; rw [Htl1.out, Htl2.out] at he; subst he; have HX := Lib.hid h1; clear h1))
        | (with_reducible refine wpList_store_new rfl 32 _ _ rfl (tval (t.ep % 256) t.hA hm t.hc t.pA pm t.pc) rfl rfl 32 (tval 0 none 0 0 none 0 0) hsz2.out hold.out hone.out ?_)
        | (go_at_call 8; go_must (refine (wm_seal F R w ((Value.slice A i c).ownBlock.toList) mb seed s0 tb2 seed left p at_ (t.ep % 256) t.hA hm t.hc (t.hd.take 100) t.pA pm t.pc (t.pl.take 100) _ ((HWm.out.step HX.out).step (below_one wx _)) (by have := Hsel.out; omega) (by omega) (by omega) (by omega) (by omega) (by omega) Hhm.out ((Htok.out.hd.below HX.out).alloc _ |>.upto 100) (by omega) Hpm.out ((Htok.out.pl.below HX.out).alloc _ |>.upto 100) (by omega)).mono ?_; rintro e w5 ⟨A5, c5, rfl, h1, h2, h3, h4⟩; have S1 := Lib.hid h1; have S3 := Lib.hid h3; have S4 := Lib.hid h4; have HO5 := Lib.hid (((HI.out.own.below HX.out).below (below_one wx _)).keep (fun g hg hl => h4.pr g (by simp [hg]) hl)); clear h1 h2 h3 h4))
        | (at_builtin; go_must (refine app_sl rfl _ _ rfl w.heap.size A i c (bs.map Sl.val) rfl (HO5.out.below (below_one w5 _)) w5.heap.size 1 A5 (pm + 28) c5 rfl (cell_new rfl rfl) (by omega) (by simp; have := S3.out.below.size; omega) ?_; intro A' c' w7 ho hk7 hn7; have HO7 := Lib.hid ho; have HK7 := Lib.hid hk7; have HN7 := Lib.hid hn7; clear ho hk7 hn7)))
      obtain ⟨d, hdd⟩ : ∃ d, d = (tDraw F R seed (pm + 28) left p).1 := ⟨_, rfl⟩
      have hdl : d.length = pm + 28 := by rw [hdd]; exact tDraw_len _ _ _ _ _ _
      have hbd := tDraw_bound F R seed (pm + 28) left p
      have hst : In1 F R w mb seed tb2 ts (i + 1) A' c' (bs ++ [⟨A5, c5, d⟩]) w7 := by
        refine In1.step (w5 := w5) (w6 := w5.alloc (.cells #[.slice A5 (pm + 28) c5] 22)) HI.out t Htt.out (s := s0) (left := left) (p := p) (at_ := at_) (d := d) ?_ Hbx.out (left' := (tDraw F R seed (pm + 28) left p).2.1) (p' := (tDraw F R seed (pm + 28) left p).2.2) (by omega) (by omega) hat0 ?_ (by omega) (by omega) ?_ (below_one w5 _) ?_ HK7.out HN7.out (HO5.out.below (below_one w5 _)) Hil.out
        · rw [hdl, hdd]; exact S3.out
        · rw [hdd]; exact S1.out
        · intro A c xs hr; exact S4.out.rd _ _ _ ((hr.below HX.out).alloc _)
        · rw [hdl]; exact HO7.out
      have Hst := Lib.hid hst
      clear hst hbd hdl hdd S1 S3 S4 HO5 HO7 HK7 HN7 HX HWm Hbx Hhm Hpm Htok Hrg Htt HI
      go_roundw
      case rel => exact ⟨i + 1, A', c', _, by omega, by go_num, rfl, Hst⟩
      case measure => simp [intOf]; omega
      --]
    · obtain rfl : i = k := by omega
      have H20 := Lib.hid (HI.out.two HT.out.len.symm)
      have Hbs : Hid (∀ s ∈ bs, 28 ≤ s.xs.length) := Lib.hid (fun s hs => (HI.out.rd s hs).2.1)
      clear HI hlt hik
      go_wp2
      go_loopw [10, 15] (fun v jj wx => ∃ (j : Nat) (A : Option Addr) (n c : Nat) (all : List Sl), j ≤ 12 ∧ n ≤ i + j ∧ jj = .int .i64 j ∧ v = .slice A n c ∧ Hid (In2 F R w mb seed tb2 ts i bs A n c all wx)) (fun _ jj _ => 12 - (intOf jj).toNat)
      case atStart => exact ⟨0, A, i, c, bs, by omega, by omega, rfl, rfl, H20⟩
      case round =>
        clear H20
        obtain ⟨j, A1, n, c1, all, hj12, hnj, rfl, rfl, H2⟩ := hrel
        by_cases hcc : j < tn ∧ j < 12
        ·
          --[
          obtain ⟨hj1, hj2⟩ := hcc
          have hLr := HL.out.below H2.out.wm.choose_spec.choose_spec.choose_spec.choose_spec.1.below
          have hjl : j < trs.length := by have := HL.out.len; omega
          obtain ⟨b, off, hTA, hblt, hcs⟩ := hLr.cells (by omega)
          subst hTA
          obtain ⟨t, htt⟩ : ∃ t, trs[j] = t := ⟨_, rfl⟩
          have hcj := hcs j hjl
          rw [htt] at hcj
          have hrt := hLr.ok t (by rw [← htt]; exact List.getElem_mem hjl)
          obtain ⟨tm, htm⟩ : ∃ tm : Nat, tm = (t.xs.take 200).length := ⟨_, rfl⟩
          have htm2 : tm = min t.xs.length 200 := by rw [htm, List.length_take]; omega
          have hmi3 : (if (200 : Int) < (t.xs.length : Int) then (200 : Int) else (t.xs.length : Int)) = tm := by omega
          have Hmi3 := Lib.hid hmi3
          have hcut3 := Lib.hid (fun W => cut_hi t.A t.xs.length t.c tm (by have := hrt.le; omega) .i64 W)
          have Hcj : Hid (wr.cell? ⟨b, off + j, none⟩ = some (.slice t.A t.xs.length t.c)) := Lib.hid hcj
          have Hrt := Lib.hid hrt
          have Htm := Lib.hid htm
          have hnc := H2.out.own.len
          have Hnc := Lib.hid hnc
          have htm3 : tm ≤ 200 := by omega
          clear hLr hcs hjl htt hcj hrt htm hmi3 hnc htm2
          go_upto_region 18 with (fail)
          refine seg_begin (fun W => W.cell? ⟨b, off + j, none⟩ = some (.slice t.A t.xs.length t.c)) [3, 4, 7, 8, 9, 10, 11] (by kernel_rfl) ?_
          have HSs : Hid (wr.drew.cell? ⟨b, off + j, none⟩ = some (.slice t.A t.xs.length t.c)) := Lib.hid Hcj.out
          (refine seg_take 0 ?_ rfl (by kernel_rfl) (by kernel_rfl) (by kernel_rfl) (by kernel_rfl) (by kernel_rfl) rfl (fun _ _ _ h => h) rfl ?_ ?_; rotate_left; (focus (intro w; go_simp; try with_reducible rfl)); (try simp only [List.getElem_toArray, List.getElem_cons_zero, List.getElem_cons_succ, Act.put, List.setIfInBounds_toArray, List.set_cons_zero, List.set_cons_succ]); refine seg_take 1 ?_ rfl (by kernel_rfl) (by kernel_rfl) (by kernel_rfl) (by kernel_rfl) (by kernel_rfl) rfl (fun _ _ _ h => h) rfl ?_ ?_; rotate_left; (focus (intro w; go_simp; try with_reducible rfl)); (try simp only [List.getElem_toArray, List.getElem_cons_zero, List.getElem_cons_succ, Act.put, List.setIfInBounds_toArray, List.set_cons_zero, List.set_cons_succ]); refine seg_take 2 ?_ rfl (by kernel_rfl) (by kernel_rfl) (by kernel_rfl) (by kernel_rfl) (by kernel_rfl) rfl (fun _ _ _ h => h) rfl ?_ ?_; rotate_left; (focus (intro w; go_simp; try with_reducible rfl)); (try simp only [List.getElem_toArray, List.getElem_cons_zero, List.getElem_cons_succ, Act.put, List.setIfInBounds_toArray, List.set_cons_zero, List.set_cons_succ]); refine seg_take 5 ?_ rfl (by kernel_rfl) (by kernel_rfl) (by kernel_rfl) (by kernel_rfl) (by kernel_rfl) rfl (fun _ _ _ h => h) rfl ?_ ?_; rotate_left; (focus (intro w; go_simp; try with_reducible rfl)); (try simp only [List.getElem_toArray, List.getElem_cons_zero, List.getElem_cons_succ, Act.put, List.setIfInBounds_toArray, List.set_cons_zero, List.set_cons_succ]); refine seg_take 6 ?_ rfl (by kernel_rfl) (by kernel_rfl) (by kernel_rfl) (by kernel_rfl) (by kernel_rfl) rfl (fun _ _ _ h => h) rfl ?_ ?_; rotate_left; (focus (intro w; go_simp; try with_reducible rfl)); (try simp only [List.getElem_toArray, List.getElem_cons_zero, List.getElem_cons_succ, Act.put, List.setIfInBounds_toArray, List.set_cons_zero, List.set_cons_succ]); refine seg_read 3 ?_ rfl (by kernel_rfl) (by kernel_rfl) (by kernel_rfl) (by kernel_rfl) (by kernel_rfl) (by kernel_rfl) (fun _ _ _ h => h) rfl HSs.out ?_ ?_; rotate_left; (focus (intro w hSw; (try dsimp only at hSw); go_split_ands; go_simp; try with_reducible rfl)); (try simp only [List.getElem_toArray, List.getElem_cons_zero, List.getElem_cons_succ, Act.put, List.setIfInBounds_toArray, List.set_cons_zero, List.set_cons_succ]); refine seg_read 7 ?_ rfl (by kernel_rfl) (by kernel_rfl) (by kernel_rfl) (by kernel_rfl) (by kernel_rfl) (by kernel_rfl) (fun _ _ _ h => h) rfl HSs.out ?_ ?_; rotate_left; (focus (intro w hSw; (try dsimp only at hSw); go_split_ands; go_simp; try with_reducible rfl)); (try simp only [List.getElem_toArray, List.getElem_cons_zero, List.getElem_cons_succ, Act.put, List.setIfInBounds_toArray, List.set_cons_zero, List.set_cons_succ]); refine seg_read 4 ?_ rfl (by kernel_rfl) (by kernel_rfl) (by kernel_rfl) (by kernel_rfl) (by kernel_rfl) (by kernel_rfl) (fun _ _ _ h => h) rfl HSs.out ?_ ?_; rotate_left; (focus (intro w hSw; (try dsimp only at hSw); go_split_ands; go_simp; try with_reducible rfl)); (try simp only [List.getElem_toArray, List.getElem_cons_zero, List.getElem_cons_succ, Act.put, List.setIfInBounds_toArray, List.set_cons_zero, List.set_cons_succ]); refine seg_read 8 ?_ rfl (by kernel_rfl) (by kernel_rfl) (by kernel_rfl) (by kernel_rfl) (by kernel_rfl) (by kernel_rfl) (fun _ _ _ h => h) rfl HSs.out ?_ ?_; rotate_left; (focus (intro w hSw; (try dsimp only at hSw); go_split_ands; go_simp; try with_reducible rfl)); (try simp only [List.getElem_toArray, List.getElem_cons_zero, List.getElem_cons_succ, Act.put, List.setIfInBounds_toArray, List.set_cons_zero, List.set_cons_succ]))
          (refine seg_read 9 (.int .i64 t.xs.length) rfl (by kernel_rfl) (by kernel_rfl) (by kernel_rfl) (by kernel_rfl) (by kernel_rfl) (by kernel_rfl) (fun _ _ _ h => h) rfl HSs.out (fun W _ => by go_simp) ?_; (try simp only [List.getElem_toArray, List.getElem_cons_zero, List.getElem_cons_succ, Act.put, List.setIfInBounds_toArray, List.set_cons_zero, List.set_cons_succ]))
          skip
          (refine seg_read 10 (.int .i64 tm) rfl (by kernel_rfl) (by kernel_rfl) (by kernel_rfl) (by kernel_rfl) (by kernel_rfl) (by kernel_rfl) (fun _ _ _ h => h) rfl HSs.out (fun W _ => by go_simp; exact Hmi3.out) ?_; (try simp only [List.getElem_toArray, List.getElem_cons_zero, List.getElem_cons_succ, Act.put, List.setIfInBounds_toArray, List.set_cons_zero, List.set_cons_succ]))
          skip
          (refine seg_read 11 (.slice t.A tm t.c) rfl (by kernel_rfl) (by kernel_rfl) (by kernel_rfl) (by kernel_rfl) (by kernel_rfl) (by kernel_rfl) (fun _ _ _ h => h) rfl HSs.out (fun W _ => yields_slice _ _ Try.underlying22 _ _ _ _ rfl _ _ _ rfl (hcut3.out W)) ?_; (try simp only [List.getElem_toArray, List.getElem_cons_zero, List.getElem_cons_succ, Act.put, List.setIfInBounds_toArray, List.set_cons_zero, List.set_cons_succ]))
          skip
          have hbd : Below wr.heap.size wr wr.drew := (Below.refl _ wr).drew
          have Hbd := Lib.hid hbd
          have HOd := Lib.hid (H2.out.own.below hbd)
          have Hbw : Hid (w.heap.size ≤ wr.drew.heap.size) := Lib.hid (H2.out.wm.choose_spec.choose_spec.choose_spec.choose_spec.1.below.size)
          clear HSs Hcj hcut3 Hmi3 hbd
          generalize wr.drew = wd at *
          (refine anyB_step 12 rfl (by kernel_rfl) ?_; (try simp only [List.getElem_toArray, List.getElem_cons_zero, List.getElem_cons_succ]))
          go_wp2
          refine ⟨nofun, ?_⟩
          skip
          (refine anyB_step 13 rfl (by kernel_rfl) ?_; (try simp only [List.getElem_toArray, List.getElem_cons_zero, List.getElem_cons_succ]))
          go_wp2_with (at_builtin; go_must (refine app_sl rfl _ _ rfl w.heap.size A1 n c1 (all.map Sl.val) rfl (HOd.out.below (below_one wd _)) wd.heap.size 1 t.A tm t.c rfl (cell_new rfl rfl) (by omega) (by have := Hbw.out; simp; omega) ?_; intro A' c' w7 ho hk7 hn7; have HO7 := Lib.hid ho; have HK7 := Lib.hid hk7; have HN7 := Lib.hid hn7; clear ho hk7 hn7))
          show AnyB _ _ _ _ _ _ _ _ _ _ _ _
          (refine seg_take 14 ?_ rfl (by kernel_rfl) (by kernel_rfl) (by kernel_rfl) (by kernel_rfl) (by kernel_rfl) rfl (fun _ _ _ h => h) rfl ?_ ?_; rotate_left; (focus (intro w; go_simp; try with_reducible rfl)); (try simp only [List.getElem_toArray, List.getElem_cons_zero, List.getElem_cons_succ, Act.put, List.setIfInBounds_toArray, List.set_cons_zero, List.set_cons_succ]))
          (refine anyB_done (by kernel_rfl) ?_)
          have hst : In2 F R w mb seed tb2 ts i bs A' (n + 1) c' (all ++ [⟨t.A, t.c, t.xs.take 200⟩]) w7 := by
            refine In2.step (w6 := wd.alloc (.cells #[.slice t.A tm t.c] 22)) H2.out ⟨t.A, t.c, t.xs.take 200⟩ (Hbd.out.trans ((below_one wd _).mono Hbd.out.size)) (((Hrt.out.below Hbd.out).alloc _).upto 200) (by have := Htm.out; show (t.xs.take 200).length ≤ 200; omega) ?_ HK7.out HN7.out
            show OwnV w7 w.heap.size A' (n + 1) c' (all.map Sl.val ++ [.slice t.A (t.xs.take 200).length t.c])
            rw [← Htm.out]
            exact HO7.out
          have Hst := Lib.hid hst
          clear hst HO7 HK7 HN7 HOd Hbd Hbw Hrt Htm Hnc H2
          go_wp2
          go_roundw
          case rel => exact ⟨j + 1, A', n + 1, c', _, by omega, by omega, by go_num, rfl, Hst⟩
          case measure => simp [intOf]; omega
          --]
        · go_upto_region 16 with (fail)
          go_cut [83] from 76 to 83 (fun s83 wx => s83 = .bool false ∧ wx = wr)
          case first =>
            by_cases hj1 : j < tn
            · have hj2 : ¬ j < 12 := fun h => hcc ⟨hj1, h⟩
              go_wp2
              go_meet
              exact ⟨congrArg Value.bool (decide_eq_false (by omega)), rfl⟩
            · go_wp2
              go_meet
              exact ⟨rfl, rfl⟩
          case rest =>
            obtain ⟨rfl, rfl⟩ := hcut
            have hn24 : n ≤ 24 := by omega
            clear hcc
            go_wp2
            go_loopw [16] (fun pp wx => ∃ p : Nat, p ≤ i ∧ pp = .int .i64 p ∧ Below wc.heap.size wc wx) (fun pp _ => i - (intOf pp).toNat)
            case atStart => exact ⟨0, by omega, rfl, Below.refl _ _⟩
            case round =>
              obtain ⟨p, hpi, rfl, hBx⟩ := hrel
              by_cases hplt : p < i
              · rename World => wp
                have hbp : Below w.heap.size w wp := (H2.out.wm.choose_spec.choose_spec.choose_spec.choose_spec.1.below).trans (hBx.mono (H2.out.wm.choose_spec.choose_spec.choose_spec.choose_spec.1.below.size))
                have hTr := HT.out.below hbp
                have hil : p < ts.length := by have := HT.out.len; omega
                obtain ⟨b, off, hLA, hblt, hcs⟩ := hTr.cells (by omega)
                subst hLA
                obtain ⟨t, htt⟩ : ∃ t, ts[p] = t := ⟨_, rfl⟩
                have hrg := hcs p hil
                rw [htt] at hrg
                have htok := hTr.ok t (by rw [← htt]; exact List.getElem_mem hil)
                have Hrg : Hid (wp.rangeAt b (off + p * 3) [.int .i64 t.ep, .slice t.hA t.hd.length t.hc, .slice t.pA t.pl.length t.pc]) := Lib.hid hrg
                have Htok := Lib.hid htok
                have hsz : Hid ((Try.prog.info? 32).map (·.size) = some ([Value.int .i64 t.ep, .slice t.hA t.hd.length t.hc, .slice t.pA t.pl.length t.pc] : List Value).length) := Lib.hid (by kernel_rfl)
                obtain ⟨hm, hhm⟩ : ∃ hm, hm = (t.hd.take 100).length := ⟨_, rfl⟩
                obtain ⟨pm, hpm⟩ : ∃ pm, pm = (t.pl.take 100).length := ⟨_, rfl⟩
                have Htl1 : Hid (min t.hd.length 100 = hm) := Lib.hid (by rw [hhm, List.length_take]; omega)
                have Htl2 : Hid (min t.pl.length 100 = pm) := Lib.hid (by rw [hpm, List.length_take]; omega)
                have hhm1 : hm ≤ 100 := by rw [hhm, List.length_take]; omega
                have Hhm := Lib.hid hhm
                have he0 : 0 ≤ t.ep % 256 := by omega
                have he1 : t.ep % 256 ≤ 255 := by omega
                have hsz2 : Hid ((Try.prog.info? 32).map (·.size) = some (tval (t.ep % 256) t.hA hm t.hc t.pA pm t.pc).size) := Lib.hid (by kernel_rfl)
                have hold : Hid ((tval 0 none 0 0 none 0 0).size = (tval (t.ep % 256) t.hA hm t.hc t.pA pm t.pc).size) := Lib.hid rfl
                have hone : Hid ((tval (t.ep % 256) t.hA hm t.hc t.pA pm t.pc).all (·.oneCell') = true) := Lib.hid (by simp [Value.oneCell'])
                have HBx := Lib.hid hBx
                clear hbp hTr hil hblt hcs htt hrg htok hhm hpm hBx
                go_wp2_with (first
                  | (with_reducible refine wpList_load_mid rfl 32 _ rfl b (off + p * 3) rfl _ _ Hrg.out Try.underlying32 rfl hsz.out ?_)
                  | (go_at_call 7; go_must (refine (cut_any t.ep t.hA t.hd.length t.hc t.pA t.pl.length t.pc wp Htok.out.lo Htok.out.hi Htok.out.hd.le Htok.out.pl.le Htok.out.hd.big Htok.out.pl.big).mono ?_; rintro e wx ⟨he, h1⟩; rw [Htl1.out, Htl2.out] at he; subst he; have HX := Lib.hid h1; clear h1))
                  | (with_reducible refine wpList_store_new rfl 32 _ _ rfl (tval (t.ep % 256) t.hA hm t.hc t.pA pm t.pc) rfl rfl 32 (tval 0 none 0 0 none 0 0) hsz2.out hold.out hone.out ?_))
                have hwl0 : ∃ wl, wl = wx.alloc (.cells (tval (t.ep % 256) t.hA hm t.hc t.pA pm t.pc) 32) := ⟨_, rfl⟩
                obtain ⟨wl, hwl⟩ := hwl0
                rw [← hwl]
                have Hxb : Hid (wl.heap[wx.heap.size]? = some (.cells (tval (t.ep % 256) t.hA hm t.hc t.pA pm t.pc) 32 (0, 0))) := Lib.hid (by rw [hwl]; exact new_at rfl)
                have hpl : Below wp.heap.size wp wl := by rw [hwl]; exact HX.out.alloc HX.out.size _
                have Hcl : Hid (Below wc.heap.size wc wl) := Lib.hid (HBx.out.trans (hpl.mono HBx.out.size))
                have Hpl := Lib.hid hpl
                have Htl : Hid (Rd wl t.hA t.hc (t.hd.take 100)) := Lib.hid ((Htok.out.hd.below hpl).upto 100)
                clear hwl hpl HX
                go_loopw [18] (fun qq wy => ∃ q : Nat, q ≤ n ∧ qq = .int .i64 q ∧ Below wl.heap.size wl wy) (fun qq _ => n - (intOf qq).toNat)
                case atStart => exact ⟨0, by omega, rfl, Below.refl _ _⟩
                case round =>
                  rename World => wy
                  obtain ⟨q, hqn, rfl, hBy⟩ := hrel
                  by_cases hqlt : q < n
                  · have hcy : Below wc.heap.size wc wy := Hcl.out.trans (hBy.mono Hcl.out.size)
                    obtain ⟨g, hA1, hbg, hgl, hcell⟩ := (H2.out.own.below hcy).cell (by omega)
                    subst hA1
                    have hql : q < all.length := by have := H2.out.len; omega
                    obtain ⟨y, hyy⟩ : ∃ y, all[q] = y := ⟨_, rfl⟩
                    have hyc := hcell q y.val (by rw [List.getElem?_map, List.getElem?_eq_getElem hql, hyy]; rfl)
                    have hyr := H2.out.rd y (by rw [← hyy]; exact List.getElem_mem hql)
                    have Hyy : Hid (all[q]? = some y) := Lib.hid (by rw [List.getElem?_eq_getElem hql, hyy])
                    have Hyr : Hid (Rd wy y.A y.c y.xs ∧ y.xs.length ≤ 200) := Lib.hid ⟨hyr.1.below hcy, hyr.2⟩
                    have Hbs4 := Lib.hid hcell
                    have hxb : wy.heap[wx.heap.size]? = some (.cells (tval (t.ep % 256) t.hA hm t.hc t.pA pm t.pc) 32 (0, 0)) := below_at hBy Hxb.out (blk_lt Hxb.out)
                    have Hxb4 := Lib.hid hxb
                    have Hcy := Lib.hid hcy
                    have HBy := Lib.hid hBy
                    have Hth : Hid (Rd wy t.hA t.hc (t.hd.take 100)) := Lib.hid (Htl.out.below hBy)
                    have hc0 := blk_cell hxb 0 rfl
                    have hc1 := blk_cell hxb 1 rfl
                    obtain ⟨s4, left4, p4, at4, hwm4, hbx4⟩ := H2.out.wm
                    have HWm4 := Lib.hid (hwm4.step hcy)
                    have Hbx4 := Lib.hid hbx4
                    have hbl : bs.length = i := by have h1 := H2.out.pre; have h2 := H2.out.len; have h3 := H2.out.kn; rw [← h1, List.length_take]; omega
                    have hli : (ts.zip bs).length = i := by have := HT.out.len; rw [List.length_zip]; omega
                    obtain ⟨key, hkey⟩ : ∃ key : BK, key = (t.ep % 256, strOfNums (t.hd.take 100), strOfNums y.xs) := ⟨_, rfl⟩
                    obtain ⟨was, hwas⟩ : ∃ was, was = lastJ (ts.zip bs) key i := ⟨_, rfl⟩
                    obtain ⟨er, her⟩ : ∃ er : Int, er = if was < 0 then 80 else 0 := ⟨_, rfl⟩
                    have Hkey := Lib.hid hkey
                    have Hwas := Lib.hid hwas
                    have Her := Lib.hid her
                    have Hli := Lib.hid hli
                    have Hbl := Lib.hid hbl
                    have h28 : ∀ x ∈ ts.zip bs, 28 ≤ x.2.xs.length := fun x hx => Hbs.out _ (List.of_mem_zip hx).2
                    have H28 := Lib.hid h28
                    clear hcell hql hyy hyr hxb hcy hBy hwm4 hbx4 hkey hwas her hli hbl h28
                    go_upto_region 26 with (fail)
                    refine seg_begin (fun W => W.cell? ⟨wx.heap.size, 0, none⟩ = some (.int .i64 (t.ep % 256)) ∧ W.cell? ⟨wx.heap.size, 1, none⟩ = some (.slice t.hA hm t.hc) ∧ W.cell? ⟨g, q, none⟩ = some (.slice y.A y.xs.length y.c)) [2, 4, 7, 8] (by kernel_rfl) ?_
                    have HS4 : Hid (wy.drew.cell? ⟨wx.heap.size, 0, none⟩ = some (.int .i64 (t.ep % 256)) ∧ wy.drew.cell? ⟨wx.heap.size, 1, none⟩ = some (.slice t.hA hm t.hc) ∧ wy.drew.cell? ⟨g, q, none⟩ = some (.slice y.A y.xs.length y.c)) := Lib.hid ⟨hc0, hc1, hyc⟩
                    have hbd : Below wy.heap.size wy wy.drew := (Below.refl _ wy).drew
                    have Hop := Lib.hid (open_last F R w _ mb seed s4 tb2 seed left4 p4 at4 (ts.zip bs) (t.ep % 256) t.hA hm t.hc (t.hd.take 100) y.A y.xs.length y.c y.xs wy.drew (HWm4.out.step hbd) Hbx4.out H28.out he0 he1 Hhm.out (Hth.out.below hbd) (by omega) rfl (Hyr.out.1.below hbd) (by have := Hyr.out.2; omega) was (by rw [Hwas.out, Hkey.out, Hli.out]))
                    have Hbd := Lib.hid hbd
                    clear hc0 hc1 hyc hbd
                    generalize wy.drew = wd at *
                    (refine seg_take 0 ?_ rfl (by kernel_rfl) (by kernel_rfl) (by kernel_rfl) (by kernel_rfl) (by kernel_rfl) rfl (fun _ _ _ h => h) rfl ?_ ?_; rotate_left; (focus (intro w; go_simp; try with_reducible rfl)); (try simp only [List.getElem_toArray, List.getElem_cons_zero, List.getElem_cons_succ, Act.put, List.setIfInBounds_toArray, List.set_cons_zero, List.set_cons_succ]); refine seg_take 1 ?_ rfl (by kernel_rfl) (by kernel_rfl) (by kernel_rfl) (by kernel_rfl) (by kernel_rfl) rfl (fun _ _ _ h => h) rfl ?_ ?_; rotate_left; (focus (intro w; go_simp; try with_reducible rfl)); (try simp only [List.getElem_toArray, List.getElem_cons_zero, List.getElem_cons_succ, Act.put, List.setIfInBounds_toArray, List.set_cons_zero, List.set_cons_succ]); refine seg_take 3 ?_ rfl (by kernel_rfl) (by kernel_rfl) (by kernel_rfl) (by kernel_rfl) (by kernel_rfl) rfl (fun _ _ _ h => h) rfl ?_ ?_; rotate_left; (focus (intro w; go_simp; try with_reducible rfl)); (try simp only [List.getElem_toArray, List.getElem_cons_zero, List.getElem_cons_succ, Act.put, List.setIfInBounds_toArray, List.set_cons_zero, List.set_cons_succ]); refine seg_take 5 ?_ rfl (by kernel_rfl) (by kernel_rfl) (by kernel_rfl) (by kernel_rfl) (by kernel_rfl) rfl (fun _ _ _ h => h) rfl ?_ ?_; rotate_left; (focus (intro w; go_simp; try with_reducible rfl)); (try simp only [List.getElem_toArray, List.getElem_cons_zero, List.getElem_cons_succ, Act.put, List.setIfInBounds_toArray, List.set_cons_zero, List.set_cons_succ]); refine seg_take 6 ?_ rfl (by kernel_rfl) (by kernel_rfl) (by kernel_rfl) (by kernel_rfl) (by kernel_rfl) rfl (fun _ _ _ h => h) rfl ?_ ?_; rotate_left; (focus (intro w; go_simp; try with_reducible rfl)); (try simp only [List.getElem_toArray, List.getElem_cons_zero, List.getElem_cons_succ, Act.put, List.setIfInBounds_toArray, List.set_cons_zero, List.set_cons_succ]); refine seg_read 7 ?_ rfl (by kernel_rfl) (by kernel_rfl) (by kernel_rfl) (by kernel_rfl) (by kernel_rfl) (by kernel_rfl) (fun _ _ _ h => h) rfl HS4.out ?_ ?_; rotate_left; (focus (intro w hSw; (try dsimp only at hSw); go_split_ands; go_simp; try with_reducible rfl)); (try simp only [List.getElem_toArray, List.getElem_cons_zero, List.getElem_cons_succ, Act.put, List.setIfInBounds_toArray, List.set_cons_zero, List.set_cons_succ]); refine seg_read 2 ?_ rfl (by kernel_rfl) (by kernel_rfl) (by kernel_rfl) (by kernel_rfl) (by kernel_rfl) (by kernel_rfl) (fun _ _ _ h => h) rfl HS4.out ?_ ?_; rotate_left; (focus (intro w hSw; (try dsimp only at hSw); go_split_ands; go_simp; try with_reducible rfl)); (try simp only [List.getElem_toArray, List.getElem_cons_zero, List.getElem_cons_succ, Act.put, List.setIfInBounds_toArray, List.set_cons_zero, List.set_cons_succ]); refine seg_read 4 ?_ rfl (by kernel_rfl) (by kernel_rfl) (by kernel_rfl) (by kernel_rfl) (by kernel_rfl) (by kernel_rfl) (fun _ _ _ h => h) rfl HS4.out ?_ ?_; rotate_left; (focus (intro w hSw; (try dsimp only at hSw); go_split_ands; go_simp; try with_reducible rfl)); (try simp only [List.getElem_toArray, List.getElem_cons_zero, List.getElem_cons_succ, Act.put, List.setIfInBounds_toArray, List.set_cons_zero, List.set_cons_succ]); refine seg_read 8 ?_ rfl (by kernel_rfl) (by kernel_rfl) (by kernel_rfl) (by kernel_rfl) (by kernel_rfl) (by kernel_rfl) (fun _ _ _ h => h) rfl HS4.out ?_ ?_; rotate_left; (focus (intro w hSw; (try dsimp only at hSw); go_split_ands; go_simp; try with_reducible rfl)); (try simp only [List.getElem_toArray, List.getElem_cons_zero, List.getElem_cons_succ, Act.put, List.setIfInBounds_toArray, List.set_cons_zero, List.set_cons_succ]))
                    (refine anyB_step 9 rfl (by kernel_rfl) ?_; (try simp only [List.getElem_toArray, List.getElem_cons_zero, List.getElem_cons_succ]))
                    go_wp2_with (go_at_call 9; go_must (refine Hop.out.mono ?_; rintro e w9 ⟨A5, n5, c5, he, xs5, h1, h2, h3, h4⟩; rw [← Her.out] at he; subst he; have O1 := Lib.hid h1; have O2 := Lib.hid h2; have O3 := Lib.hid h3; have O4 := Lib.hid (Hbd.out.trans (h4.mono Hbd.out.size)); clear h1 h2 h3 h4 Hop Hbd))
                    refine ⟨nofun, ?_⟩
                    (refine seg_take 10 ?_ rfl (by kernel_rfl) (by kernel_rfl) (by kernel_rfl) (by kernel_rfl) (by kernel_rfl) rfl (fun _ _ _ h => h) rfl ?_ ?_; rotate_left; (focus (intro w; go_simp; try with_reducible rfl)); (try simp only [List.getElem_toArray, List.getElem_cons_zero, List.getElem_cons_succ, Act.put, List.setIfInBounds_toArray, List.set_cons_zero, List.set_cons_succ]); refine seg_take 11 ?_ rfl (by kernel_rfl) (by kernel_rfl) (by kernel_rfl) (by kernel_rfl) (by kernel_rfl) rfl (fun _ _ _ h => h) rfl ?_ ?_; rotate_left; (focus (intro w; go_simp; try with_reducible rfl)); (try simp only [List.getElem_toArray, List.getElem_cons_zero, List.getElem_cons_succ, Act.put, List.setIfInBounds_toArray, List.set_cons_zero, List.set_cons_succ]); refine seg_take 12 ?_ rfl (by kernel_rfl) (by kernel_rfl) (by kernel_rfl) (by kernel_rfl) (by kernel_rfl) rfl (fun _ _ _ h => h) rfl ?_ ?_; rotate_left; (focus (intro w; go_simp; try with_reducible rfl)); (try simp only [List.getElem_toArray, List.getElem_cons_zero, List.getElem_cons_succ, Act.put, List.setIfInBounds_toArray, List.set_cons_zero, List.set_cons_succ]); refine seg_take 13 ?_ rfl (by kernel_rfl) (by kernel_rfl) (by kernel_rfl) (by kernel_rfl) (by kernel_rfl) rfl (fun _ _ _ h => h) rfl ?_ ?_; rotate_left; (focus (intro w; go_simp; try with_reducible rfl)); (try simp only [List.getElem_toArray, List.getElem_cons_zero, List.getElem_cons_succ, Act.put, List.setIfInBounds_toArray, List.set_cons_zero, List.set_cons_succ]); refine seg_take 14 ?_ rfl (by kernel_rfl) (by kernel_rfl) (by kernel_rfl) (by kernel_rfl) (by kernel_rfl) rfl (fun _ _ _ h => h) rfl ?_ ?_; rotate_left; (focus (intro w; go_simp; try with_reducible rfl)); (try simp only [List.getElem_toArray, List.getElem_cons_zero, List.getElem_cons_succ, Act.put, List.setIfInBounds_toArray, List.set_cons_zero, List.set_cons_succ]))
                    (refine anyB_done (by kernel_rfl) ?_)
                    clear HS4
                    go_wp2
                    go_loopw [21, 22] (fun s21 s22 wz => ∃ j2 : Nat, j2 ≤ i ∧ s22 = .int .i64 j2 ∧ s21 = .int .i64 (lastJ (ts.zip bs) key j2) ∧ Below w9.heap.size w9 wz) (fun _ s22 _ => i - (intOf s22).toNat)
                    case atStart => exact ⟨0, by omega, rfl, rfl, Below.refl _ _⟩
                    case round =>
                      rename World => wz
                      obtain ⟨j2, hj2i, rfl, rfl, hBz⟩ := hrel
                      by_cases hj2 : j2 < i
                      ·
                        --[
                        have hbz : Below w.heap.size w wz := by
                          have h1 := H2.out.wm.choose_spec.choose_spec.choose_spec.choose_spec.1.below
                          have h2 : Below wc.heap.size wc wz := Hcy.out.trans ((O4.out.trans (hBz.mono O4.out.size)).mono Hcy.out.size)
                          exact h1.trans (h2.mono h1.size)
                        have hyz : Below wy.heap.size wy wz := O4.out.trans (hBz.mono O4.out.size)
                        have hTr := HT.out.below hbz
                        have hil : j2 < ts.length := by have := HT.out.len; omega
                        obtain ⟨b', off', hLA, hblt, hcs⟩ := hTr.cells (by omega)
                        cases hLA
                        obtain ⟨t2, htt⟩ : ∃ t, ts[j2] = t := ⟨_, rfl⟩
                        have hrg := hcs j2 hil
                        rw [htt] at hrg
                        have htok := hTr.ok t2 (by rw [← htt]; exact List.getElem_mem hil)
                        have Hrg2 : Hid (wz.rangeAt b (off + j2 * 3) [.int .i64 t2.ep, .slice t2.hA t2.hd.length t2.hc, .slice t2.pA t2.pl.length t2.pc]) := Lib.hid hrg
                        have Htok2 := Lib.hid htok
                        have hj2b : j2 < bs.length := by rw [Hbl.out]; exact hj2
                        obtain ⟨b2, hb2⟩ : ∃ x, bs[j2] = x := ⟨_, rfl⟩
                        have hl2 : (ts.zip bs)[j2]? = some (t2, b2) := by
                          rw [List.getElem?_zip_eq_some]
                          exact ⟨by rw [List.getElem?_eq_getElem hil, htt], by rw [List.getElem?_eq_getElem hj2b, hb2]⟩
                        have hall2 : all[j2]? = some b2 := by
                          have h1 := H2.out.pre
                          have h2 : bs[j2]? = some b2 := by rw [List.getElem?_eq_getElem hj2b, hb2]
                          rw [← h1, List.getElem?_take_of_lt hj2] at h2
                          exact h2
                        have hb2c := hyz.cell (p := ⟨g, j2, none⟩) hgl
                        have Hb2c : Hid (wz.cell? ⟨g, j2, none⟩ = some (.slice b2.A b2.xs.length b2.c)) := Lib.hid (hb2c.trans (Hbs4.out j2 b2.val (by rw [List.getElem?_map, hall2]; rfl)))
                        have hyc2 := hyz.cell (p := ⟨g, q, none⟩) hgl
                        have Hyc2 : Hid (wz.cell? ⟨g, q, none⟩ = some (.slice y.A y.xs.length y.c)) := Lib.hid (hyc2.trans (Hbs4.out q y.val (by rw [List.getElem?_map, Hyy.out]; rfl)))
                        have Hb2r : Hid (Rd wz b2.A b2.c b2.xs) := Lib.hid ((H2.out.rd b2 (List.mem_of_getElem? hall2)).1.below (Hcy.out.trans (hyz.mono Hcy.out.size)))
                        have Hyr2 : Hid (Rd wz y.A y.c y.xs) := Lib.hid (Hyr.out.1.below hyz)
                        have Hx2 : Hid (Rd wz t.hA t.hc (t.hd.take 100)) := Lib.hid (Hth.out.below hyz)
                        have Hxb5 : Hid (wz.heap[wx.heap.size]? = some (.cells (tval (t.ep % 256) t.hA hm t.hc t.pA pm t.pc) 32 (0, 0))) := Lib.hid (below_at hyz Hxb4.out (blk_lt Hxb4.out))
                        have Hl2 := Lib.hid hl2
                        have HBz := Lib.hid hBz
                        have hsz5 : Hid ((Try.prog.info? 32).map (·.size) = some ([Value.int .i64 t2.ep, .slice t2.hA t2.hd.length t2.hc, .slice t2.pA t2.pl.length t2.pc] : List Value).length) := Lib.hid (by kernel_rfl)
                        obtain ⟨hm2, hhm2⟩ : ∃ hm, hm = (t2.hd.take 100).length := ⟨_, rfl⟩
                        obtain ⟨pm2, hpm2⟩ : ∃ pm, pm = (t2.pl.take 100).length := ⟨_, rfl⟩
                        have Htl3 : Hid (min t2.hd.length 100 = hm2) := Lib.hid (by rw [hhm2, List.length_take]; omega)
                        have Htl4 : Hid (min t2.pl.length 100 = pm2) := Lib.hid (by rw [hpm2, List.length_take]; omega)
                        have Hhm2 := Lib.hid hhm2
                        have hsz6 : Hid ((Try.prog.info? 32).map (·.size) = some (tval (t2.ep % 256) t2.hA hm2 t2.hc t2.pA pm2 t2.pc).size) := Lib.hid (by kernel_rfl)
                        have hold2 : Hid ((tval 0 none 0 0 none 0 0).size = (tval (t2.ep % 256) t2.hA hm2 t2.hc t2.pA pm2 t2.pc).size) := Lib.hid rfl
                        have hone2 : Hid ((tval (t2.ep % 256) t2.hA hm2 t2.hc t2.pA pm2 t2.pc).all (·.oneCell') = true) := Lib.hid (by simp [Value.oneCell'])
                        clear hbz hyz hTr hil hblt hcs htt hrg htok hj2b hb2 hl2 hall2 hb2c hyc2 hBz hhm2 hpm2
                        go_upto_region 32 with (first
                          | (with_reducible refine wpList_load_mid rfl 32 _ rfl b (off + j2 * 3) rfl _ _ Hrg2.out Try.underlying32 rfl hsz5.out ?_)
                          | (go_at_call 7; go_must (refine (cut_any t2.ep t2.hA t2.hd.length t2.hc t2.pA t2.pl.length t2.pc wz Htok2.out.lo Htok2.out.hi Htok2.out.hd.le Htok2.out.pl.le Htok2.out.hd.big Htok2.out.pl.big).mono ?_; rintro e wv ⟨he, h1⟩; rw [Htl3.out, Htl4.out] at he; subst he; have HV := Lib.hid h1; clear h1))
                          | (with_reducible refine wpList_store_new rfl 32 _ _ rfl (tval (t2.ep % 256) t2.hA hm2 t2.hc t2.pA pm2 t2.pc) rfl rfl 32 (tval 0 none 0 0 none 0 0) hsz6.out hold2.out hone2.out ?_))
                        have hwu0 : ∃ wu, wu = wv.alloc (.cells (tval (t2.ep % 256) t2.hA hm2 t2.hc t2.pA pm2 t2.pc) 32) := ⟨_, rfl⟩
                        obtain ⟨wu, hwu⟩ := hwu0
                        rw [← hwu]
                        have hzu : Below wz.heap.size wz wu := by rw [hwu]; exact HV.out.alloc HV.out.size _
                        have hub : wu.heap[wv.heap.size]? = some (.cells (tval (t2.ep % 256) t2.hA hm2 t2.hc t2.pA pm2 t2.pc) 32 (0, 0)) := by rw [hwu]; exact new_at rfl
                        have d0 := blk_cell hub 0 rfl
                        have d1 := blk_cell hub 1 rfl
                        have hxu := below_at hzu Hxb5.out (blk_lt Hxb5.out)
                        have x0 := blk_cell hxu 0 rfl
                        have x1 := blk_cell hxu 1 rfl
                        have hgz : g < wz.heap.size := World.block_lt_of_cell? wz _ Hyc2.out
                        have g1 : wu.cell? ⟨g, j2, none⟩ = some (.slice b2.A b2.xs.length b2.c) := (hzu.cell (p := ⟨g, j2, none⟩) hgz).trans Hb2c.out
                        have g2 : wu.cell? ⟨g, q, none⟩ = some (.slice y.A y.xs.length y.c) := (hzu.cell (p := ⟨g, q, none⟩) hgz).trans Hyc2.out
                        have r1 := Lib.hid (((Htok2.out.hd.below hzu).upto 100))
                        have r2 := Lib.hid (Hx2.out.below hzu)
                        have r3 := Lib.hid (Hb2r.out.below hzu)
                        have r4 := Lib.hid (Hyr2.out.below hzu)
                        have Hzu := Lib.hid hzu
                        have hjn : j2 < n := by have := H2.out.kn; omega
                        have hjni : (j2 : Int) < (n : Int) := by omega
                        have hqni : (q : Int) < (n : Int) := by omega
                        clear hwu hzu hub hxu hgz
                        (try simp only [Act.put, List.setIfInBounds_toArray, List.set_cons_zero, List.set_cons_succ])
                        go_cut [163] from 130 to 163 (fun s163 wx2 => s163 = .bool (decide (ksOf t2 b2 = key)) ∧ Hid (Below wu.heap.size wu wx2))
                        case first =>
                          obtain ⟨v1, hv1⟩ : ∃ v : Bool, v = decide (strOfNums (t2.hd.take 100) = strOfNums (t.hd.take 100)) := ⟨_, rfl⟩
                          obtain ⟨v2, hv2⟩ : ∃ v : Bool, v = decide (strOfNums b2.xs = strOfNums y.xs) := ⟨_, rfl⟩
                          have hkd : decide (ksOf t2 b2 = key) = ((t2.ep % 256 == t.ep % 256) && (v1 && v2)) := by
                            rw [Hkey.out, hv1, hv2]
                            unfold ksOf
                            by_cases h1 : t2.ep % 256 = t.ep % 256 <;> by_cases h2 : strOfNums (t2.hd.take 100) = strOfNums (t.hd.take 100) <;> by_cases h3 : strOfNums b2.xs = strOfNums y.xs <;> simp [h1, h2, h3]
                          have Hkd := Lib.hid hkd
                          have Hv1 := Lib.hid hv1
                          have Hv2 := Lib.hid hv2
                          clear hkd hv1 hv2
                          obtain ⟨v0, hv0⟩ : ∃ v : Bool, v = (t2.ep % 256 == t.ep % 256) := ⟨_, rfl⟩
                          cases v0 with
                          | false =>
                            have e0 : (t2.ep % 256 == t.ep % 256) = false := hv0.symm
                            clear hv0
                            go_big_quiet (fail)
                            go_wp2
                            go_meet
                            exact ⟨by rw [Hkd.out, e0]; rfl, Lib.hid (below_drewN (Below.refl _ _) _)⟩
                          | true =>
                            have e0 : (t2.ep % 256 == t.ep % 256) = true := hv0.symm
                            clear hv0
                            cases v1 with
                            | false =>
                              go_big_quiet (first
                                | (go_at_call_of 10 (Value.slice t2.hA hm2 t2.hc); refine Calls.quiet_of_same (eqb_q t2.hA t.hA hm2 t2.hc hm t.hc (t2.hd.take 100) (t.hd.take 100) false _ Hhm2.out (r1.out.drewN _) Hhm.out (r2.out.drewN _) Hv1.out)))
                              go_wp2
                              go_meet
                              exact ⟨by rw [Hkd.out, e0]; rfl, Lib.hid (below_drewN (Below.refl _ _) _)⟩
                            | true =>
                              go_big_quiet (first
                                | (go_at_call_of 10 (Value.slice t2.hA hm2 t2.hc); refine Calls.quiet_of_same (eqb_q t2.hA t.hA hm2 t2.hc hm t.hc (t2.hd.take 100) (t.hd.take 100) true _ Hhm2.out (r1.out.drewN _) Hhm.out (r2.out.drewN _) Hv1.out))
                                | (go_at_call_of 10 (Value.slice b2.A b2.xs.length b2.c); refine Calls.quiet_of_same (eqb_q b2.A y.A b2.xs.length b2.c y.xs.length y.c b2.xs y.xs v2 _ rfl (r3.out.drewN _) rfl (r4.out.drewN _) Hv2.out)))
                              go_wp2
                              go_meet
                              exact ⟨by rw [Hkd.out, e0]; rfl, Lib.hid (below_drewN (Below.refl _ _) _)⟩
                        case rest =>
                          obtain ⟨rfl, Hwx⟩ := hcut
                          have hfin : Below w9.heap.size w9 wc := HBz.out.trans ((Hzu.out.trans (Hwx.out.mono Hzu.out.size)).mono HBz.out.size)
                          have Hfin := Lib.hid hfin
                          have hlast : lastJ (ts.zip bs) key (j2 + 1) = if ksOf t2 b2 = key then (j2 : Int) else lastJ (ts.zip bs) key j2 := by
                            rw [lastJ, Hl2.out, Option.map_some]
                            by_cases hk : ksOf t2 b2 = key
                            · rw [if_pos (by rw [hk]), if_pos hk]
                            · rw [if_neg (fun e => hk (Option.some.inj e)), if_neg hk]
                          have Hlast := Lib.hid hlast
                          clear hfin hlast d0 d1 x0 x1 g1 g2 hjn hjni hqni
                          by_cases hk : ksOf t2 b2 = key
                          · have hd : decide (ksOf t2 b2 = key) = true := decide_eq_true hk
                            rw [hd]
                            have Hk := Lib.hid hk
                            clear hd hk
                            go_wp2
                            go_roundw
                            case rel => exact ⟨j2 + 1, by omega, by go_num, by rw [Hlast.out, if_pos Hk.out], Hfin.out⟩
                            case measure => simp [intOf]; omega
                          · have hd : decide (ksOf t2 b2 = key) = false := decide_eq_false hk
                            rw [hd]
                            have Hk := Lib.hid hk
                            clear hd hk
                            go_wp2
                            go_roundw
                            case rel => exact ⟨j2 + 1, by omega, by go_num, by rw [Hlast.out, if_neg Hk.out], Hfin.out⟩
                            case measure => simp [intOf]; omega
                        --]
                      · have hje : i = j2 := by omega
                        subst hje
                        rw [← Hwas.out]
                        have HBz := Lib.hid hBz
                        have HA5 : Hid (Rd wz A5 c5 xs5) := Lib.hid (O2.out.below hBz)
                        have hlz : Below wl.heap.size wl wz := HBy.out.trans ((O4.out.trans (hBz.mono O4.out.size)).mono HBy.out.size)
                        have Hlz := Lib.hid hlz
                        clear hBz hlz hj2 hj2i
                        by_cases hw0 : was < 0
                        · have her : er = 80 := by rw [Her.out, if_pos hw0]
                          subst her
                          have hw1 : ¬ 0 ≤ was := by omega
                          go_wp2
                          go_roundw
                          case rel => exact ⟨q + 1, by omega, by go_num, Hlz.out⟩
                          case measure => simp [intOf]; omega
                        · have her : er = 0 := by rw [Her.out, if_neg hw0]
                          subst her
                          obtain ⟨wn, hwn⟩ : ∃ wn : Nat, was = wn := ⟨was.toNat, by omega⟩
                          subst hwn
                          obtain ⟨x3, hx3, hs3⟩ := O3.out (by omega)
                          rw [Int.toNat_natCast] at hx3
                          obtain ⟨t3, b3⟩ := x3
                          rw [List.getElem?_zip_eq_some] at hx3
                          have hx3 : ts[wn]? = some t3 := hx3.1
                          have hwl3 : wn < ts.length := (List.getElem?_eq_some_iff.1 hx3).1
                          have htt : ts[wn] = t3 := (List.getElem?_eq_some_iff.1 hx3).2
                          have hbz : Below w.heap.size w wz := by
                            have h1 := H2.out.wm.choose_spec.choose_spec.choose_spec.choose_spec.1.below
                            have h2 : Below wc.heap.size wc wz := Hcl.out.trans (Hlz.out.mono Hcl.out.size)
                            exact h1.trans (h2.mono h1.size)
                          have hTr := HT.out.below hbz
                          obtain ⟨b', off', hLA, hblt, hcs⟩ := hTr.cells (by omega)
                          cases hLA
                          have hrg := hcs wn hwl3
                          rw [htt] at hrg
                          have htok := hTr.ok t3 (by rw [← htt]; exact List.getElem_mem hwl3)
                          have hwi : wn < i := by have := HT.out.len; omega
                          have hwi2 : (wn : Int) < (i : Int) := by omega
                          have Hrg3 : Hid (wz.rangeAt b (off + wn * 3) [.int .i64 t3.ep, .slice t3.hA t3.hd.length t3.hc, .slice t3.pA t3.pl.length t3.pc]) := Lib.hid hrg
                          have Htok3 := Lib.hid htok
                          have c30 : wz.cell? ⟨b, off + wn * 3, none⟩ = some (.int .i64 t3.ep) := hrg 0 _ rfl
                          have c31 : wz.cell? ⟨b, off + wn * 3 + 1, none⟩ = some (.slice t3.hA t3.hd.length t3.hc) := hrg 1 _ rfl
                          have c32 : wz.cell? ⟨b, off + wn * 3 + 2, none⟩ = some (.slice t3.pA t3.pl.length t3.pc) := hrg 2 _ rfl
                          have Hs3 := Lib.hid hs3
                          have hsz7 : Hid ((Try.prog.info? 32).map (·.size) = some ([Value.int .i64 t3.ep, .slice t3.hA t3.hd.length t3.hc, .slice t3.pA t3.pl.length t3.pc] : List Value).length) := Lib.hid (by kernel_rfl)
                          obtain ⟨pm3, hpm3⟩ : ∃ pm, pm = (t3.pl.take 100).length := ⟨_, rfl⟩
                          have Htl6 : Hid (min t3.pl.length 100 = pm3) := Lib.hid (by rw [hpm3, List.length_take]; omega)
                          have Hpm3 := Lib.hid hpm3
                          have hw0' : (0 : Int) ≤ (wn : Int) := by omega
                          have hfl := fun a b A n d W => field_plain a b (.slice A n d) W ⟨A, n, d, rfl⟩
                          clear hx3 hwl3 htt hbz hTr hblt hcs hrg htok hs3 hpm3 hw0
                          go_wp2_with (first
                            | (go_at_call 7; go_must (refine (cut_any t3.ep t3.hA t3.hd.length t3.hc t3.pA t3.pl.length t3.pc wz Htok3.out.lo Htok3.out.hi Htok3.out.hd.le Htok3.out.pl.le Htok3.out.hd.big Htok3.out.pl.big).mono ?_; rintro e wv ⟨he, h1⟩; rw [Htl6.out] at he; simp only [tval] at he; subst he; have HV := Lib.hid h1; clear h1))
                            | (go_at_call 10; go_must (refine (eqb_true A5 t3.pA n5 c5 pm3 t3.pc xs5 (t3.pl.take 100) wv O1.out (HA5.out.below HV.out) Hpm3.out ((Htok3.out.pl.below HV.out).upto 100) Hs3.out).mono ?_; rintro e wv2 ⟨rfl, rfl⟩)))
                          go_roundw
                          case rel => exact ⟨q + 1, by omega, by go_num, Hlz.out.trans (HV.out.mono Hlz.out.size)⟩
                          case measure => simp [intOf]; omega
                  · have hqe : n = q := by omega
                    subst hqe
                    have Hlw : Hid (Below wc.heap.size wc wy) := Lib.hid (Hcl.out.trans (hBy.mono Hcl.out.size))
                    clear hBy hqlt
                    go_wp2
                    go_roundw
                    case rel => exact ⟨p + 1, by omega, by go_num, Hlw.out⟩
                    case measure => simp [intOf]; omega
              · have hpe : i = p := by omega
                subst hpe
                rename World => wp
                have hb1 := H2.out.wm.choose_spec.choose_spec.choose_spec.choose_spec.1
                have Htab : Hid (Tabs F R wp) := Lib.hid (hb1.tabs.below hBx)
                have Hbw : Hid (Below w.heap.size w wp) := Lib.hid (hb1.below.trans (hBx.mono hb1.below.size))
                clear hb1 hBx hplt
                go_wp2_with (go_at_call 11; go_must (refine (works_any F R wp Htab.out).mono ?_; rintro e wq ⟨rfl, h1⟩; have HQ := Lib.hid h1; clear h1))
                go_ret
                exact ⟨rfl, Hbw.out.trans (HQ.out.mono Hbw.out.size)⟩
end Go.Proofs.Ythgnccgablploaa
