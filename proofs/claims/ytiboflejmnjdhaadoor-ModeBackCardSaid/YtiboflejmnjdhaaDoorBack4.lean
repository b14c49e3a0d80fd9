/- ModeBack: the walk. -/
import Derived.Test.YtiboflejmnjdhaaDoorJY
set_option linter.unusedVariables false
set_option linter.unusedSimpArgs false
set_option maxRecDepth 100000
namespace Go.Proofs.YtiboflejmnjdhaaDoor
open Go Go.RowKit Go.Conc
theorem Wm.sub {F R : List Int} {w0 : World} {Pr Pr' : List Nat} {mb : Nat} {seed : List Int} {s : St} {tb : Nat} {tseed tleft : List Int} {tp tat : Nat} {w : World} (h : Wm F R w0 Pr' mb seed s tb tseed tleft tp tat w) (hP : ∀ b ∈ Pr, b ∈ Pr') : Wm F R w0 Pr mb seed s tb tseed tleft tp tat w := by
  obtain ⟨own, town, g1, g2, g3, g4⟩ := h.ex
  exact ⟨h.tabs, h.below, ⟨own, town, g1, g2, g3, fun b hb => ⟨(g4 b hb).1, fun hx => (g4 b hb).2 (hP b hx)⟩⟩, fun b hb => h.prl b (hP b hb)⟩
theorem Wm.more {F R : List Int} {w0 : World} {Pr : List Nat} {mb : Nat} {seed : List Int} {s : St} {tb : Nat} {tseed tleft : List Int} {tp tat : Nat} {w : World} (h : Wm F R w0 Pr mb seed s tb tseed tleft tp tat w) (o : Obj) : Wm F R w0 (Pr ++ [w.heap.size]) mb seed s tb tseed tleft tp tat (w.alloc o) := by
  have hb := below_one w o
  have h2 := h.step hb
  obtain ⟨own, town, g1, g2, g3, g4⟩ := h.ex
  refine ⟨h2.tabs, h2.below, ⟨own, town, g1.below hb, g2.below hb, g3, fun b hx => ⟨(g4 b hx).1, fun hy => ?_⟩⟩, fun b hb => ?_⟩
  · rcases List.mem_append.1 hy with hy | hy
    · exact (g4 b hx).2 hy
    · rw [List.mem_singleton] at hy
      rcases hx with hx | hx
      · have := (g1.blocks b hx).2; omega
      · have := (g2.blocks b hx).2; omega
  · rcases List.mem_append.1 hb with hb | hb
    · exact h2.prl b hb
    · rw [List.mem_singleton] at hb
      subst hb
      simp
theorem lastJ_is (l : List (Tx × Sl)) (key : BK) (i : Nat) (x : Tx × Sl) (hx : l[i]? = some x) (hk : ksOf x.1 x.2 = key) : ∀ n, i < n → (∀ j y, i < j → j < n → l[j]? = some y → ksOf y.1 y.2 ≠ key) → lastJ l key n = i
  | 0, h, _ => by omega
  | n + 1, h, hne => by
    rw [lastJ]
    by_cases he : i = n
    · subst he
      rw [hx, Option.map_some, if_pos (by rw [hk])]
    · rw [if_neg, lastJ_is l key i x hx hk n (by omega) (fun j y h1 h2 h3 => hne j y h1 (by omega) h3)]
      intro h4
      cases hy : l[n]? with
      | none => rw [hy] at h4; cases h4
      | some y =>
        rw [hy] at h4
        simp only [Option.map_some, Option.some.injEq] at h4
        exact hne n y (by omega) (by omega) hy h4
set_option maxHeartbeats 4000000 in
theorem back_any (F R : List Int) (sA : Option Addr) (sn sc : Nat) (seed0 : List Int) (LA : Option Addr) (ln lc : Nat) (ts0 : List Tx) (w : World) (hTb : Tabs F R w) (hsn : sn = seed0.length) (hs : Rd w sA sc seed0) (hT : RdT w LA ln lc ts0) (hby : ∀ t ∈ ts0, By8 t.pl) :
    Calls Tryd.prog 3 #[.slice sA sn sc, .slice LA ln lc] w fun e w' => e = .returned (.bool true) ∧ Below w.heap.size w w' := by
  obtain ⟨sm, hsm⟩ : ∃ sm : Nat, sm = min sn 60 := ⟨_, rfl⟩
  obtain ⟨k, hk⟩ : ∃ k : Nat, k = min ln 20 := ⟨_, rfl⟩
  have hmi1 : (if (60 : Int) < (sn : Int) then (60 : Int) else (sn : Int)) = sm := by omega
  have hmi2 : (if (20 : Int) < (ln : Int) then (20 : Int) else (ln : Int)) = k := by omega
  have hsl := hs.le
  have htl := hT.le
  have hcut1 := fun W => cut_hi sA sn sc sm (by omega) .i64 W
  have hcut2 := fun W => cut_hiT LA ln lc k (by omega) .i64 W
  obtain ⟨seed, hseed⟩ : ∃ seed, seed = seed0.take sm := ⟨_, rfl⟩
  obtain ⟨ts, hts⟩ : ∃ ts, ts = ts0.take k := ⟨_, rfl⟩
  have hS := hs.take sm (by omega)
  have hT2 := hT.take k (by omega)
  rw [← hseed] at hS
  rw [← hts] at hT2
  have hsel : sm = seed.length := by rw [hseed]; simp; omega
  have hm60 : sm ≤ 60 := by omega
  have hk20 : k ≤ 20 := by omega
  have Hby : Hid (∀ t ∈ ts, By8 t.pl) := Lib.hid (fun t ht => hby t (by rw [hts] at ht; exact List.mem_of_mem_take ht))
  have HTb := Lib.hid hTb
  have HS := Lib.hid hS
  have HT := Lib.hid hT2
  have Hsel := Lib.hid hsel
  clear hTb hs hT hS hT2 hseed hts hsm hk hsel hsl htl hsn hby
  obtain ⟨root, hroot⟩ : ∃ root, root = rootOf F R seed := ⟨_, rfl⟩
  have Hroot := Lib.hid hroot
  clear hroot
  go_enter Tryd.func3, Tryd.ntmps3
  go_wp2_with (first
    | (go_at_call 7; go_must (refine (works_any F R w HTb.out).mono ?_; rintro e w1 ⟨rfl, h1⟩; have HB1 := Lib.hid h1; clear h1))
    | (go_at_call 8; go_must (refine (both_any F R sA sm sc seed Hsel.out hm60 w1 (HTb.out.below HB1.out) (HS.out.below HB1.out)).mono ?_; rintro e w2 ⟨ma, mb, oa, tb, rfl, h1, h2, h3⟩; have HW := Lib.hid h1; rw [← Hroot.out] at h2; have HM := Lib.hid h2; have HO := Lib.hid h3; clear h1 h2 h3))
    | (go_at_call 9; go_must (refine (wm_new F R w1 oa mb seed _ tb seed seed 0 0 sA sm sc seed w2 HW.out Hsel.out ((HS.out.below HB1.out).below HW.out.below) (by have := Hsel.out; omega)).mono ?_; rintro e w3 ⟨tb2, rfl, h1, -, h2⟩; have HV := Lib.hid h1; have HM3 := Lib.hid (HM.out.below h2); clear h1 h2 HW HM)))
  have HI0 : Hid (Ba F R w1 root ma oa mb seed tb2 ts 0 none 0 [] w3) := Lib.hid ⟨⟨_, _, _, _, by
    have e : oa ++ (Value.slice none 0 0).ownBlock.toList = oa := by simp [Value.ownBlock]
    rw [e]
    exact HV.out, rfl, by have := Hsel.out; omega, by omega, by omega⟩, HM3.out, HO.out, OwnP.nil _ _, rfl, by simp, by simp⟩
  clear HV HM3 HO hcut1 hcut2 hmi1 hmi2
  go_loopw [9, 10] (fun v ii wr => ∃ (i : Nat) (A : Option Addr) (c : Nat) (ps : List (Sl × Sl)), i ≤ k ∧ ii = .int .i64 i ∧ v = .slice A i c ∧ Hid (Ba F R w1 root ma oa mb seed tb2 ts i A c ps wr)) (fun _ ii _ => k - (intOf ii).toNat)
  case atStart => exact ⟨0, none, 0, [], by omega, rfl, rfl, HI0⟩
  case round =>
    clear HI0
    obtain ⟨i, A, c, ps, hik, rfl, rfl, HI⟩ := hrel
    by_cases hlt : i < k
    ·
      --[
      have hTr := (HT.out.below HB1.out).below HI.out.bel
      have hil : i < ts.length := by have := HT.out.len; omega
      obtain ⟨b, off, hLA, hblt, hcs⟩ := hTr.cells (by omega)
      subst hLA
      obtain ⟨t, htt⟩ : ∃ t, ts[i] = t := ⟨_, rfl⟩
      have hrg := hcs i hil
      rw [htt] at hrg
      have htm : t ∈ ts := by rw [← htt]; exact List.getElem_mem hil
      have htok := hTr.ok t htm
      have Hbt := Lib.hid (Hby.out t htm)
      have Hrg : Hid (wr.rangeAt b (off + i * 3) [.int .i64 t.ep, .slice t.hA t.hd.length t.hc, .slice t.pA t.pl.length t.pc]) := Lib.hid hrg
      have Htok := Lib.hid htok
      have Hil := Lib.hid hil
      have Htt : Hid (ts[i]? = some t) := Lib.hid (by rw [List.getElem?_eq_getElem hil, htt])
      have hsz : Hid ((Tryd.prog.info? 32).map (·.size) = some ([Value.int .i64 t.ep, .slice t.hA t.hd.length t.hc, .slice t.pA t.pl.length t.pc] : List Value).length) := Lib.hid (by kernel_rfl)
      obtain ⟨hm, hhm⟩ : ∃ hm, hm = (t.hd.take 100).length := ⟨_, rfl⟩
      obtain ⟨pm, hpm⟩ : ∃ pm, pm = (t.pl.take 100).length := ⟨_, rfl⟩
      have Htl1 : Hid (min t.hd.length 100 = hm) := Lib.hid (by rw [hhm, List.length_take]; omega)
      have Htl2 : Hid (min t.pl.length 100 = pm) := Lib.hid (by rw [hpm, List.length_take]; omega)
      have hhm1 : hm ≤ 100 := by rw [hhm, List.length_take]; omega
      have hpm1 : pm ≤ 100 := by rw [hpm, List.length_take]; omega
      have Hhm := Lib.hid hhm
      have Hpm := Lib.hid hpm
      obtain ⟨s0, left, p, at_, hwm, hbx, hl0, hp0, hat0⟩ := HI.out.wm
      have HWm := Lib.hid hwm
      have Hbx := Lib.hid hbx
      have he0 : 0 ≤ t.ep % 256 := by omega
      have he1 : t.ep % 256 ≤ 255 := by omega
      have hsz2 : Hid ((Tryd.prog.info? 32).map (·.size) = some (tval (t.ep % 256) t.hA hm t.hc t.pA pm t.pc).size) := Lib.hid (by kernel_rfl)
      have hold : Hid ((tval 0 none 0 0 none 0 0).size = (tval (t.ep % 256) t.hA hm t.hc t.pA pm t.pc).size) := Lib.hid rfl
      have hone : Hid ((tval (t.ep % 256) t.hA hm t.hc t.pA pm t.pc).all (·.oneCell') = true) := Lib.hid (by simp [Value.oneCell'])
      clear hTr hcs htok htm htt hil hrg hhm hpm hwm hbx
      go_upto_region 13 with (first
        | (with_reducible refine wpList_load_mid rfl 32 _ rfl b (off + i * 3) rfl _ _ Hrg.out Tryd.underlying32 rfl hsz.out ?_)
        | (go_at_call 10; go_must (refine (cut_any t.ep t.hA t.hd.length t.hc t.pA t.pl.length t.pc wr Htok.out.lo Htok.out.hi Htok.out.hd.le Htok.out.pl.le Htok.out.hd.big Htok.out.pl.big).mono ?_; rintro e wx ⟨he, h1⟩; rw [Htl1.out, Htl2.out] at he; subst he; have HX := Lib.hid h1; clear h1))
        | (with_reducible refine wpList_store_new rfl 32 _ _ rfl (tval (t.ep % 256) t.hA hm t.hc t.pA pm t.pc) rfl rfl 32 (tval 0 none 0 0 none 0 0) hsz2.out hold.out hone.out ?_))
      try simp only [Act.put, List.setIfInBounds_toArray, List.set_cons_zero, List.set_cons_succ]
      obtain ⟨tk, htk⟩ : ∃ tk, tk = wx.heap.size := ⟨_, rfl⟩
      obtain ⟨w4, hw4⟩ : ∃ w4, w4 = wx.alloc (.cells (tval (t.ep % 256) t.hA hm t.hc t.pA pm t.pc) 32) := ⟨_, rfl⟩
      obtain ⟨Pr, hPr⟩ : ∃ Pr, Pr = oa ++ (Value.slice A i c).ownBlock.toList := ⟨_, rfl⟩
      have hx4 : Below wr.heap.size wr w4 := by rw [hw4]; exact HX.out.alloc HX.out.size _
      have hW4 : Wm F R w1 (Pr ++ [tk]) mb seed s0 tb2 seed left p at_ w4 := by
        rw [hw4, htk, hPr]
        exact (HWm.out.step HX.out).more _
      have hb4 : w4.heap[tk]? = some (.cells (tval (t.ep % 256) t.hA hm t.hc t.pA pm t.pc) 32 (0, 0)) := by rw [hw4, htk]; exact new_at rfl
      have hm4 := HI.out.mr.below hx4
      rw [← hw4, ← htk]
      have d0 := blk_cell hb4 0 rfl
      have d1 := blk_cell hb4 1 rfl
      have d2 := blk_cell hb4 2 rfl
      have HW4 := Lib.hid hW4
      have Hb4 := Lib.hid hb4
      have Hm4 := Lib.hid hm4
      have Hx4 := Lib.hid hx4
      have HPr := Lib.hid hPr
      have Hoa : Hid (∀ b ∈ oa, b ∈ Pr ++ [tk]) := Lib.hid (fun b hb => by rw [hPr]; simp [hb])
      have Hh4 : Hid (Rd w4 t.hA t.hc (t.hd.take 100)) := Lib.hid ((Htok.out.hd.below hx4).upto 100)
      have Hp4 : Hid (Rd w4 t.pA t.pc (t.pl.take 100)) := Lib.hid ((Htok.out.pl.below hx4).upto 100)
      have HO4 : Hid (OwnP w4 w1.heap.size A i c (prVals ps)) := Lib.hid (HI.out.own.below hx4)
      have Hsl := Lib.hid (show seed.length ≤ 60 by have := Hsel.out; omega)
      have hbd1 := tDraw_bound F R seed 12 left p
      obtain ⟨nn, hnn⟩ : ∃ nn, nn = (tDraw F R seed 12 left p).1 := ⟨_, rfl⟩
      obtain ⟨l5, hl5⟩ : ∃ l5, l5 = (tDraw F R seed 12 left p).2.1 := ⟨_, rfl⟩
      obtain ⟨p5, hp5⟩ : ∃ p5, p5 = (tDraw F R seed 12 left p).2.2 := ⟨_, rfl⟩
      rw [← hl5, ← hp5] at hbd1
      have hbd2 := tDraw_bound F R seed (pm + 28) l5 p5
      obtain ⟨x1s, hx1s⟩ : ∃ x1s, x1s = nn ++ gcmBox (drv F R root (t.ep % 256)) nn (t.pl.take 100) (t.hd.take 100) := ⟨_, rfl⟩
      have hnl : nn.length = 12 := by rw [hnn]; exact tDraw_len _ _ _ _ _ _
      have Hopn : Hid (openOf (drv F R root (t.ep % 256)) x1s (t.hd.take 100) = some (t.pl.take 100)) := Lib.hid (by rw [hx1s]; exact openOf_seal _ _ _ _ hnl (Hbt.out.take 100))
      have Hx1l : Hid (x1s.length = pm + 28) := Lib.hid (by rw [hx1s, List.length_append, gcmBox_len, hnl, Hpm.out]; omega)
      obtain ⟨d, hdd⟩ : ∃ d, d = (tDraw F R seed (pm + 28) l5 p5).1 := ⟨_, rfl⟩
      have Hdl : Hid (d.length = pm + 28) := Lib.hid (by rw [hdd]; exact tDraw_len _ _ _ _ _ _)
      obtain ⟨l6, hl6⟩ : ∃ l6, l6 = (tDraw F R seed (pm + 28) l5 p5).2.1 := ⟨_, rfl⟩
      obtain ⟨p6, hp6⟩ : ∃ p6, p6 = (tDraw F R seed (pm + 28) l5 p5).2.2 := ⟨_, rfl⟩
      rw [← hl6, ← hp6] at hbd2
      have Hrs : Hid (Calls Tryd.prog 11 #[.pointer (some ⟨ma, 0, none⟩), .pointer (some ⟨tb2, 0, none⟩), .int .i64 (t.ep % 256), .slice t.hA hm t.hc, .slice t.pA pm t.pc] w4 fun e w' => ∃ A c, e = .returned (.tuple #[.slice A (pm + 28) c, .int .i64 0]) ∧ Rd w' A c x1s ∧
          Wm F R w1 (Pr ++ [tk]) mb seed s0 tb2 seed l5 p5 (at_ + 12) w' ∧ Kept (Pr ++ [tk]) w4 w') := Lib.hid (by
        refine (wm_rseal F R w1 (Pr ++ [tk]) mb seed s0 tb2 seed left p at_ ma root oa (t.ep % 256) t.hA hm t.hc (t.hd.take 100) t.pA pm t.pc (t.pl.take 100) w4 HW4.out Hm4.out (by have := Hsl.out; omega) (by omega) (by omega) (by omega) he0 he1 Hhm.out Hh4.out (by omega) Hpm.out Hp4.out (by omega)).mono ?_
        rintro e w' ⟨A5, c5, h1, h2, h3, h4, h5⟩
        refine ⟨A5, c5, h1, ?_, ?_, h5⟩
        · rw [hx1s, hnn]; exact h2
        · rw [hl5, hp5]; exact h4)
      have His : Hid (∀ W, Wm F R w1 (Pr ++ [tk]) mb seed s0 tb2 seed l5 p5 (at_ + 12) W → Rd W t.hA t.hc (t.hd.take 100) → Rd W t.pA t.pc (t.pl.take 100) → Calls Tryd.prog 11 #[.pointer (some ⟨mb, 0, none⟩), .pointer (some ⟨tb2, 0, none⟩), .int .i64 (t.ep % 256), .slice t.hA hm t.hc, .slice t.pA pm t.pc] W fun e w' => ∃ A c, e = .returned (.tuple #[.slice A (pm + 28) c, .int .i64 0]) ∧ Rd w' A c d ∧
          Wm F R w1 (Pr ++ [tk]) mb seed { s0 with bx := mput (t.ep % 256, strOfNums (t.hd.take 100), strOfNums d) (strOfNums (t.pl.take 100)) s0.bx } tb2 seed l6 p6 (at_ + 12 + (pm + 28)) w' ∧ Kept (Pr ++ [tk]) W w') := Lib.hid (fun W q1 q2 q3 => by
        refine (wm_seal F R w1 (Pr ++ [tk]) mb seed s0 tb2 seed l5 p5 (at_ + 12) (t.ep % 256) t.hA hm t.hc (t.hd.take 100) t.pA pm t.pc (t.pl.take 100) W q1 (by have := Hsl.out; omega) (by omega) (by omega) (by omega) he0 he1 Hhm.out q2 (by omega) Hpm.out q3 (by omega)).mono ?_
        rintro e w' ⟨A5, c5, h1, h2, h3, h4, h5⟩
        refine ⟨A5, c5, h1, ?_, ?_, h5⟩
        · rw [hdd]; exact h2
        · rw [hl6, hp6, hdd]; exact h4)
      have Hbd : Hid (l6.length ≤ 100 ∧ p6 ≤ (i + 1) * 400 ∧ at_ + 12 + (pm + 28) ≤ (i + 1) * 400) := Lib.hid ⟨by omega, by omega, by omega⟩
      clear hw4 htk hPr hx4 hW4 hb4 hm4 hnn hl5 hp5 hx1s hnl hdd hl6 hp6 hbd1 hbd2 hl0 hp0 hat0 HX HWm Hrg
      go_wp2_with (first
        | (go_at_call_of 11 (Value.pointer (some (⟨ma, 0, none⟩ : Addr))); go_must (refine Hrs.out.mono ?_; rintro e w5 ⟨A5, c5, rfl, h1, h2, h3⟩; have R5 := Lib.hid h1; have W5 := Lib.hid h2; have K5 := Lib.hid h3; have e5 := (h3.pr tk (by simp) (blk_lt Hb4.out)).trans Hb4.out; have d0 := blk_cell e5 0 rfl; have d1 := blk_cell e5 1 rfl; have d2 := blk_cell e5 2 rfl; have E5 := Lib.hid e5; clear h1 h2 h3 e5))
        | (go_at_call 11; go_must (refine (His.out w5 W5.out (K5.out.rd _ _ _ Hh4.out) (K5.out.rd _ _ _ Hp4.out)).mono ?_; rintro e w6 ⟨A6, c6, rfl, h1, h2, h3⟩; have R6 := Lib.hid h1; have W6 := Lib.hid h2; have K6 := Lib.hid h3; have e6 := (h3.pr tk (by simp) (blk_lt E5.out)).trans E5.out; have d0 := blk_cell e6 0 rfl; have d1 := blk_cell e6 1 rfl; have d2 := blk_cell e6 2 rfl; have HO6 : Hid (OwnP w6 w1.heap.size A i c (prVals ps)) := Lib.hid ((HO4.out.keep (fun g hg hl => K5.out.pr g (by rw [HPr.out]; simp [hg]) hl)).keep (fun g hg hl => h3.pr g (by rw [HPr.out]; simp [hg]) hl)); clear h1 h2 h3 e6))
        | (at_builtin; go_must (refine app_pr rfl _ _ rfl w1.heap.size A i c (prVals ps) rfl (HO6.out.below (below_one w6 _)) w6.heap.size 1 (.slice A5 (pm + 28) c5) (.slice A6 (pm + 28) c6) ⟨_, _, _, rfl⟩ ⟨_, _, _, rfl⟩ rfl (cell_new rfl rfl) (cell_new rfl rfl) (by omega) (by have := W6.out.below.size; simp; omega) ?_; intro A' c' w8 ho hk8 hn8; have HO8 := Lib.hid ho; have HK8 := Lib.hid hk8; have HN8 := Lib.hid hn8; clear ho hk8 hn8)))
      have hst : Ba F R w1 root ma oa mb seed tb2 ts (i + 1) A' c' (ps ++ [(⟨A5, c5, x1s⟩, ⟨A6, c6, d⟩)]) w8 := by
        refine Ba.step HI.out t Htt.out (s := s0) (left' := l6) (p' := p6) (at' := at_ + 12 + (pm + 28)) (x1 := ⟨A5, c5, x1s⟩) (x2 := ⟨A6, c6, d⟩) (w6 := w6) (w7 := w6.alloc (.cells #[.slice A5 (pm + 28) c5, .slice A6 (pm + 28) c6] 37)) (W6.out.sub (fun b hb => by rw [HPr.out]; simp only [List.mem_append] at hb ⊢; exact .inl hb)) Hbx.out Hbd.out.1 Hbd.out.2.1 Hbd.out.2.2 ((Hm4.out.kept K5.out Hoa.out).kept K6.out Hoa.out) (K6.out.rd _ _ _ R5.out) R6.out (fun A c xs h => K6.out.rd _ _ _ (K5.out.rd _ _ _ (h.below Hx4.out))) ⟨Hopn.out, ?_, ?_⟩ (below_one w6 _) ?_ HK8.out HN8.out (HO6.out.below (below_one w6 _))
        · rw [← Hpm.out]; exact Hx1l.out
        · rw [← Hpm.out]; exact Hdl.out
        · have := HO8.out
          simpa [Sl.val, Hx1l.out, Hdl.out] using this
      exact ⟨⟨i + 1, A', c', _, by omega, by go_num, rfl, Lib.hid hst⟩, by simp [intOf]; omega⟩
      --]
    · obtain rfl : i = k := by omega
      obtain ⟨wb, rfl⟩ : ∃ wb : World, wb = wr := ⟨_, rfl⟩
      clear hlt hik
      go_wp2
      go_loopw [16] (fun jj wr => ∃ j : Nat, j ≤ i ∧ jj = .int .i64 j ∧ Hid (Below wb.heap.size wb wr)) (fun jj _ => i - (intOf jj).toNat)
      case atStart => exact ⟨0, by omega, rfl, Lib.hid (Below.refl _ _)⟩
      case round =>
        obtain ⟨j, hji, rfl, HBr⟩ := hrel
        obtain ⟨wl, rfl⟩ : ∃ wl : World, wl = wr := ⟨_, rfl⟩
        by_cases hlt : j < i
        · have HJ : Hid (Ba F R w1 root ma oa mb seed tb2 ts i A c ps wl) := Lib.hid (HI.out.below HBr.out)
          have hTr := (HT.out.below HB1.out).below HJ.out.bel
          have hil : j < ts.length := by have := HT.out.len; omega
          obtain ⟨b, off, hLA, hblt, hcs⟩ := hTr.cells (by omega)
          subst hLA
          obtain ⟨t, htt⟩ : ∃ t, ts[j] = t := ⟨_, rfl⟩
          have hrg := hcs j hil
          rw [htt] at hrg
          have htm : t ∈ ts := by rw [← htt]; exact List.getElem_mem hil
          have htok := hTr.ok t htm
          have Hrg : Hid (wl.rangeAt b (off + j * 3) [.int .i64 t.ep, .slice t.hA t.hd.length t.hc, .slice t.pA t.pl.length t.pc]) := Lib.hid hrg
          have Htok := Lib.hid htok
          have Htt : Hid (ts[j]? = some t) := Lib.hid (by rw [List.getElem?_eq_getElem hil, htt])
          have hjp : j < ps.length := by rw [HJ.out.len]; exact hlt
          obtain ⟨x, hx⟩ : ∃ x, ps[j]? = some x := ⟨_, List.getElem?_eq_getElem hjp⟩
          have Hx := Lib.hid hx
          have Hxr := Lib.hid (HJ.out.rd x (List.mem_of_getElem? hx))
          have Hxo := Lib.hid (HJ.out.ok j x t hx Htt.out)
          have hsz : Hid ((Tryd.prog.info? 32).map (·.size) = some ([Value.int .i64 t.ep, .slice t.hA t.hd.length t.hc, .slice t.pA t.pl.length t.pc] : List Value).length) := Lib.hid (by kernel_rfl)
          obtain ⟨hm, hhm⟩ : ∃ hm, hm = (t.hd.take 100).length := ⟨_, rfl⟩
          obtain ⟨pm, hpm⟩ : ∃ pm, pm = (t.pl.take 100).length := ⟨_, rfl⟩
          have Htl1 : Hid (min t.hd.length 100 = hm) := Lib.hid (by rw [hhm, List.length_take]; omega)
          have Htl2 : Hid (min t.pl.length 100 = pm) := Lib.hid (by rw [hpm, List.length_take]; omega)
          have hhm1 : hm ≤ 100 := by rw [hhm, List.length_take]; omega
          have hpm1 : pm ≤ 100 := by rw [hpm, List.length_take]; omega
          have Hhm := Lib.hid hhm
          have Hpm := Lib.hid hpm
          have he0 : 0 ≤ t.ep % 256 := by omega
          have he1 : t.ep % 256 ≤ 255 := by omega
          have hsz2 : Hid ((Tryd.prog.info? 32).map (·.size) = some (tval (t.ep % 256) t.hA hm t.hc t.pA pm t.pc).size) := Lib.hid (by kernel_rfl)
          have hold : Hid ((tval 0 none 0 0 none 0 0).size = (tval (t.ep % 256) t.hA hm t.hc t.pA pm t.pc).size) := Lib.hid rfl
          have hone : Hid ((tval (t.ep % 256) t.hA hm t.hc t.pA pm t.pc).all (·.oneCell') = true) := Lib.hid (by simp [Value.oneCell'])
          clear hTr hcs htok htm htt hil hrg hhm hpm hx hjp
          go_upto_region 22 with (first
            | (with_reducible refine wpList_load_mid rfl 32 _ rfl b (off + j * 3) rfl _ _ Hrg.out Tryd.underlying32 rfl hsz.out ?_)
            | (go_at_call 10; go_must (refine (cut_any t.ep t.hA t.hd.length t.hc t.pA t.pl.length t.pc wl Htok.out.lo Htok.out.hi Htok.out.hd.le Htok.out.pl.le Htok.out.hd.big Htok.out.pl.big).mono ?_; rintro e wx ⟨he, h1⟩; rw [Htl1.out, Htl2.out] at he; subst he; have HX := Lib.hid h1; clear h1))
            | (with_reducible refine wpList_store_new rfl 32 _ _ rfl (tval (t.ep % 256) t.hA hm t.hc t.pA pm t.pc) rfl rfl 32 (tval 0 none 0 0 none 0 0) hsz2.out hold.out hone.out ?_))
          try simp only [Act.put, List.setIfInBounds_toArray, List.set_cons_zero, List.set_cons_succ]
          obtain ⟨tk, htk⟩ : ∃ tk, tk = wx.heap.size := ⟨_, rfl⟩
          obtain ⟨w4, hw4⟩ : ∃ w4, w4 = wx.alloc (.cells (tval (t.ep % 256) t.hA hm t.hc t.pA pm t.pc) 32) := ⟨_, rfl⟩
          have hx4 : Below wl.heap.size wl w4 := by rw [hw4]; exact HX.out.alloc HX.out.size _
          have hb4 : w4.heap[tk]? = some (.cells (tval (t.ep % 256) t.hA hm t.hc t.pA pm t.pc) 32 (0, 0)) := by rw [hw4, htk]; exact new_at rfl
          rw [← hw4, ← htk]
          have HJ4 : Hid (Ba F R w1 root ma oa mb seed tb2 ts i A c ps w4) := Lib.hid (HJ.out.below hx4)
          obtain ⟨g, hA, hg1, hg2, hgc⟩ := HJ4.out.own.cell (by omega)
          subst hA
          have hp0 := (prVals_get ps j x Hx.out).1
          have hp1 := (prVals_get ps j x Hx.out).2
          obtain ⟨x1, x2⟩ := x
          have hc0 := hgc _ _ hp0
          have hc1 := hgc _ _ hp1
          rw [Nat.mul_comm 2 j] at hc0 hc1
          have Hb4 := Lib.hid hb4
          have Hx4 := Lib.hid hx4
          have Hh4 : Hid (Rd w4 t.hA t.hc (t.hd.take 100)) := Lib.hid ((Htok.out.hd.below hx4).upto 100)
          have Hp4 : Hid (Rd w4 t.pA t.pc (t.pl.take 100)) := Lib.hid ((Htok.out.pl.below hx4).upto 100)
          have Hr1 : Hid (Rd w4 x1.A x1.c x1.xs) := Lib.hid (Hxr.out.1.below hx4)
          have Hr2 : Hid (Rd w4 x2.A x2.c x2.xs) := Lib.hid (Hxr.out.2.below hx4)
          simp only [Sl.val] at hc0 hc1
          have hl1 : x1.xs.length = pm + 28 := by rw [Hpm.out]; exact Hxo.out.2.1
          have hl2 : x2.xs.length = pm + 28 := by rw [Hpm.out]; exact Hxo.out.2.2
          rw [hl1] at hc0
          rw [hl2] at hc1
          have Hl1 := Lib.hid hl1
          have Hl2 := Lib.hid hl2
          have d0 := blk_cell hb4 0 rfl
          have d1 := blk_cell hb4 1 rfl
          have d2 := blk_cell hb4 2 rfl
          have hcn := HJ4.out.own.len.2
          have Hcn := Lib.hid hcn
          clear hw4 htk hx4 hb4 hp0 hp1 hgc hl1 hl2 HX Hrg hcn
          refine seg_begin (fun W => W.cell? ⟨tk, 0, none⟩ = some (.int .i64 (t.ep % 256)) ∧ W.cell? ⟨tk, 1, none⟩ = some (.slice t.hA hm t.hc) ∧ W.cell? ⟨g, j * 2, none⟩ = some (.slice x1.A (pm + 28) x1.c)) [2, 4, 9] (by kernel_rfl) ?_
          have HS4 : Hid (w4.drew.cell? ⟨tk, 0, none⟩ = some (.int .i64 (t.ep % 256)) ∧ w4.drew.cell? ⟨tk, 1, none⟩ = some (.slice t.hA hm t.hc) ∧ w4.drew.cell? ⟨g, j * 2, none⟩ = some (.slice x1.A (pm + 28) x1.c)) := Lib.hid ⟨d0, d1, hc0⟩
          (refine seg_take 0 ?_ rfl (by kernel_rfl) (by kernel_rfl) (by kernel_rfl) (by kernel_rfl) (by kernel_rfl) rfl (fun _ _ _ h => h) rfl ?_ ?_; rotate_left; (focus (intro w; go_simp; try with_reducible rfl)); (try simp only [List.getElem_toArray, List.getElem_cons_zero, List.getElem_cons_succ, Act.put, List.setIfInBounds_toArray, List.set_cons_zero, List.set_cons_succ]); refine seg_take 1 ?_ rfl (by kernel_rfl) (by kernel_rfl) (by kernel_rfl) (by kernel_rfl) (by kernel_rfl) rfl (fun _ _ _ h => h) rfl ?_ ?_; rotate_left; (focus (intro w; go_simp; try with_reducible rfl)); (try simp only [List.getElem_toArray, List.getElem_cons_zero, List.getElem_cons_succ, Act.put, List.setIfInBounds_toArray, List.set_cons_zero, List.set_cons_succ]); refine seg_take 3 ?_ rfl (by kernel_rfl) (by kernel_rfl) (by kernel_rfl) (by kernel_rfl) (by kernel_rfl) rfl (fun _ _ _ h => h) rfl ?_ ?_; rotate_left; (focus (intro w; go_simp; try with_reducible rfl)); (try simp only [List.getElem_toArray, List.getElem_cons_zero, List.getElem_cons_succ, Act.put, List.setIfInBounds_toArray, List.set_cons_zero, List.set_cons_succ]); refine seg_take 5 ?_ rfl (by kernel_rfl) (by kernel_rfl) (by kernel_rfl) (by kernel_rfl) (by kernel_rfl) rfl (fun _ _ _ h => h) rfl ?_ ?_; rotate_left; (focus (intro w; go_simp; try with_reducible rfl)); (try simp only [List.getElem_toArray, List.getElem_cons_zero, List.getElem_cons_succ, Act.put, List.setIfInBounds_toArray, List.set_cons_zero, List.set_cons_succ]); refine seg_take 6 ?_ rfl (by kernel_rfl) (by kernel_rfl) (by kernel_rfl) (by kernel_rfl) (by kernel_rfl) rfl (fun _ _ _ h => h) rfl ?_ ?_; rotate_left; (focus (intro w; go_simp; try with_reducible rfl)); (try simp only [List.getElem_toArray, List.getElem_cons_zero, List.getElem_cons_succ, Act.put, List.setIfInBounds_toArray, List.set_cons_zero, List.set_cons_succ]); refine seg_take 7 ?_ rfl (by kernel_rfl) (by kernel_rfl) (by kernel_rfl) (by kernel_rfl) (by kernel_rfl) rfl (fun _ _ _ h => h) rfl ?_ ?_; rotate_left; (focus (intro w; go_simp; try with_reducible rfl)); (try simp only [List.getElem_toArray, List.getElem_cons_zero, List.getElem_cons_succ, Act.put, List.setIfInBounds_toArray, List.set_cons_zero, List.set_cons_succ]); refine seg_take 8 ?_ rfl (by kernel_rfl) (by kernel_rfl) (by kernel_rfl) (by kernel_rfl) (by kernel_rfl) rfl (fun _ _ _ h => h) rfl ?_ ?_; rotate_left; (focus (intro w; go_simp; try with_reducible rfl)); (try simp only [List.getElem_toArray, List.getElem_cons_zero, List.getElem_cons_succ, Act.put, List.setIfInBounds_toArray, List.set_cons_zero, List.set_cons_succ]); refine seg_read 2 ?_ rfl (by kernel_rfl) (by kernel_rfl) (by kernel_rfl) (by kernel_rfl) (by kernel_rfl) (by kernel_rfl) (fun _ _ _ h => h) rfl HS4.out ?_ ?_; rotate_left; (focus (intro w hSw; (try dsimp only at hSw); go_split_ands; go_simp; try with_reducible rfl)); (try simp only [List.getElem_toArray, List.getElem_cons_zero, List.getElem_cons_succ, Act.put, List.setIfInBounds_toArray, List.set_cons_zero, List.set_cons_succ]); refine seg_read 4 ?_ rfl (by kernel_rfl) (by kernel_rfl) (by kernel_rfl) (by kernel_rfl) (by kernel_rfl) (by kernel_rfl) (fun _ _ _ h => h) rfl HS4.out ?_ ?_; rotate_left; (focus (intro w hSw; (try dsimp only at hSw); go_split_ands; go_simp; try with_reducible rfl)); (try simp only [List.getElem_toArray, List.getElem_cons_zero, List.getElem_cons_succ, Act.put, List.setIfInBounds_toArray, List.set_cons_zero, List.set_cons_succ]); refine seg_read 9 ?_ rfl (by kernel_rfl) (by kernel_rfl) (by kernel_rfl) (by kernel_rfl) (by kernel_rfl) (by kernel_rfl) (fun _ _ _ h => h) rfl HS4.out ?_ ?_; rotate_left; (focus (intro w hSw; (try dsimp only at hSw); go_split_ands; go_simp; try with_reducible rfl)); (try simp only [List.getElem_toArray, List.getElem_cons_zero, List.getElem_cons_succ, Act.put, List.setIfInBounds_toArray, List.set_cons_zero, List.set_cons_succ]))
          have Hbd : Hid (Below wl.heap.size wl w4.drew) := Lib.hid Hx4.out.drew
          have HJd : Hid (Ba F R w1 root ma oa mb seed tb2 ts i (some ⟨g, 0, none⟩) c ps w4.drew) := Lib.hid (HJ4.out.below (Below.refl _ _).drew)
          have Hhd : Hid (Rd w4.drew t.hA t.hc (t.hd.take 100)) := Lib.hid (Hh4.out.drewN 1)
          have Hpd : Hid (Rd w4.drew t.pA t.pc (t.pl.take 100)) := Lib.hid (Hp4.out.drewN 1)
          have H1d : Hid (Rd w4.drew x1.A x1.c x1.xs) := Lib.hid (Hr1.out.drewN 1)
          have H2d : Hid (Rd w4.drew x2.A x2.c x2.xs) := Lib.hid (Hr2.out.drewN 1)
          have Hbk : Hid (w4.drew.heap[tk]? = some (.cells (tval (t.ep % 256) t.hA hm t.hc t.pA pm t.pc) 32 (0, 0))) := Lib.hid Hb4.out
          have Hcd1 : Hid (w4.drew.cell? ⟨g, j * 2 + 1, none⟩ = some (.slice x2.A (pm + 28) x2.c)) := Lib.hid hc1
          clear hc0 hc1 d0 d1 d2 Hx4 HJ4 Hh4 Hp4 Hr1 Hr2 Hb4
          generalize w4.drew = wd at *
          have Hro := Lib.hid (mropen_any F R ma root oa (t.ep % 256) t.hA hm t.hc (t.hd.take 100) x1.A (pm + 28) x1.c x1.xs wd (HJd.out.wm.choose_spec.choose_spec.choose_spec.choose_spec.1.tabs) HJd.out.mr he0 he1 Hhm.out Hhd.out (by omega) Hl1.out.symm H1d.out (by omega) (by omega))
          (refine anyB_step 10 rfl (by kernel_rfl) ?_; (try simp only [List.getElem_toArray, List.getElem_cons_zero, List.getElem_cons_succ]))
          go_wp2_with (go_at_call 12; go_must (refine Hro.out.mono ?_; rintro e w5 ⟨v5, y5, rfl, q1, -, q3⟩; obtain ⟨rfl, ho5⟩ := q1 _ Hxo.out.1; obtain ⟨A5, c5, rfl, hr5, _⟩ := ho5.rd; rw [← Hpm.out]; have R5 := Lib.hid hr5; have B5 := Lib.hid q3; clear q1 q3 ho5 hr5))
          refine ⟨nofun, ?_⟩
          (refine seg_take 11 ?_ rfl (by kernel_rfl) (by kernel_rfl) (by kernel_rfl) (by kernel_rfl) (by kernel_rfl) rfl (fun _ _ _ h => h) rfl ?_ ?_; rotate_left; (focus (intro w; go_simp; try with_reducible rfl)); (try simp only [List.getElem_toArray, List.getElem_cons_zero, List.getElem_cons_succ, Act.put, List.setIfInBounds_toArray, List.set_cons_zero, List.set_cons_succ]); refine seg_take 12 ?_ rfl (by kernel_rfl) (by kernel_rfl) (by kernel_rfl) (by kernel_rfl) (by kernel_rfl) rfl (fun _ _ _ h => h) rfl ?_ ?_; rotate_left; (focus (intro w; go_simp; try with_reducible rfl)); (try simp only [List.getElem_toArray, List.getElem_cons_zero, List.getElem_cons_succ, Act.put, List.setIfInBounds_toArray, List.set_cons_zero, List.set_cons_succ]); refine seg_take 13 ?_ rfl (by kernel_rfl) (by kernel_rfl) (by kernel_rfl) (by kernel_rfl) (by kernel_rfl) rfl (fun _ _ _ h => h) rfl ?_ ?_; rotate_left; (focus (intro w; go_simp; try with_reducible rfl)); (try simp only [List.getElem_toArray, List.getElem_cons_zero, List.getElem_cons_succ, Act.put, List.setIfInBounds_toArray, List.set_cons_zero, List.set_cons_succ]); refine seg_take 14 ?_ rfl (by kernel_rfl) (by kernel_rfl) (by kernel_rfl) (by kernel_rfl) (by kernel_rfl) rfl (fun _ _ _ h => h) rfl ?_ ?_; rotate_left; (focus (intro w; go_simp; try with_reducible rfl)); (try simp only [List.getElem_toArray, List.getElem_cons_zero, List.getElem_cons_succ, Act.put, List.setIfInBounds_toArray, List.set_cons_zero, List.set_cons_succ]); refine seg_take 15 ?_ rfl (by kernel_rfl) (by kernel_rfl) (by kernel_rfl) (by kernel_rfl) (by kernel_rfl) rfl (fun _ _ _ h => h) rfl ?_ ?_; rotate_left; (focus (intro w; go_simp; try with_reducible rfl)); (try simp only [List.getElem_toArray, List.getElem_cons_zero, List.getElem_cons_succ, Act.put, List.setIfInBounds_toArray, List.set_cons_zero, List.set_cons_succ]))
          (refine anyB_done (by kernel_rfl) ?_)
          have h5s := B5.out.size
          have hbk5 := below_at B5.out Hbk.out (blk_lt Hbk.out)
          have HBl5 : Hid (Below wl.heap.size wl w5) := Lib.hid (Hbd.out.trans (B5.out.mono Hbd.out.size))
          have HJ5 : Hid (Ba F R w1 root ma oa mb seed tb2 ts i (some ⟨g, 0, none⟩) c ps w5) := Lib.hid (HJd.out.below B5.out)
          have Hh5 : Hid (Rd w5 t.hA t.hc (t.hd.take 100)) := Lib.hid (Hhd.out.below B5.out)
          have Hp5 : Hid (Rd w5 t.pA t.pc (t.pl.take 100)) := Lib.hid (Hpd.out.below B5.out)
          have H25 : Hid (Rd w5 x2.A x2.c x2.xs) := Lib.hid (H2d.out.below B5.out)
          have d2 := blk_cell hbk5 2 rfl
          have Hbk5 := Lib.hid hbk5
          clear hbk5 HJd Hhd Hpd H1d H2d Hbk Hcd1 HS4 Hro Hbd B5 h5s
          go_wp2_with (go_at_call 13; go_must (refine (eqb_true A5 t.pA pm c5 pm t.pc (t.pl.take 100) (t.pl.take 100) w5 Hpm.out R5.out Hpm.out Hp5.out rfl).mono ?_; rintro e wv2 ⟨rfl, rfl⟩))
          clear d2
          go_loopw [20, 21] (fun tw qq wr => ∃ (q : Nat) (bt : Bool), j + 1 ≤ q ∧ q ≤ i ∧ qq = .int .i64 q ∧ tw = .bool bt ∧ Hid (bt = false → ∀ (m : Nat) (y : Sl × Sl), j < m → m < q → ps[m]? = some y → strOfNums y.2.xs ≠ strOfNums x2.xs) ∧ Hid (Below w5.heap.size w5 wr)) (fun _ qq _ => i - (intOf qq).toNat)
          case atStart => exact ⟨j + 1, false, by omega, by omega, by go_num, rfl, Lib.hid (fun _ m y h1 h2 => by omega), Lib.hid (Below.refl _ _)⟩
          case round =>
            obtain ⟨q, bt, hq1, hq2, rfl, rfl, Htw, HB5⟩ := hrel
            obtain ⟨wq, rfl⟩ : ∃ wq : World, wq = wr := ⟨_, rfl⟩
            by_cases hqi : q < i
            ·
              --[
              have hqp : q < ps.length := by rw [HJ5.out.len]; exact hqi
              obtain ⟨y, hy⟩ : ∃ y, ps[q]? = some y := ⟨_, List.getElem?_eq_getElem hqp⟩
              obtain ⟨g', hA', _, _, hgc⟩ := (HJ5.out.below HB5.out).own.cell (by omega)
              cases hA'
              have hyc := hgc _ _ (prVals_get ps q y hy).2
              have hxc := hgc _ _ (prVals_get ps j (x1, x2) Hx.out).2
              rw [Nat.mul_comm 2 q] at hyc
              rw [Nat.mul_comm 2 j] at hxc
              simp only [Sl.val] at hyc hxc
              have hry := (HJ5.out.rd y (List.mem_of_getElem? hy)).2.below HB5.out
              have hrx := H25.out.below HB5.out
              obtain ⟨y1, y2⟩ := y
              obtain ⟨v, hv⟩ : ∃ v : Bool, v = decide (strOfNums x2.xs = strOfNums y2.xs) := ⟨_, rfl⟩
              have Hv := Lib.hid hv
              have Hy := Lib.hid hy
              have Hry := Lib.hid hry
              have Hrx := Lib.hid hrx
              obtain ⟨ylen, hyl⟩ : ∃ ylen, ylen = y2.xs.length := ⟨_, rfl⟩
              obtain ⟨xlen, hxl⟩ : ∃ xlen, xlen = x2.xs.length := ⟨_, rfl⟩
              rw [← hyl] at hyc
              rw [← hxl] at hxc
              have Hyl := Lib.hid hyl
              have Hxl := Lib.hid hxl
              have hjii : j < i := by omega
              have hcc := Hcn.out
              clear hv hy hry hrx hyl hxl hgc hqp
              cases bt with
              | true =>
                go_upto_region 29 with (fail)
                go_big_quiet (fail)
                go_wp2
                exact ⟨⟨q + 1, true, by omega, by omega, by go_num, rfl, Lib.hid (by simp), Lib.hid (below_drewN HB5.out _)⟩, by simp [intOf]; omega⟩
              | false =>
                go_upto_region 29 with (fail)
                go_big_quiet ((go_at_call 13; refine Calls.quiet_of_same (eqb_q x2.A y2.A xlen x2.c ylen y2.c x2.xs y2.xs v _ Hxl.out (Hrx.out.drewN _) Hyl.out (Hry.out.drewN _) Hv.out)))
                go_wp2
                refine ⟨⟨q + 1, v, by omega, by omega, by go_num, rfl, Lib.hid (fun hv0 m z h1 h2 h3 => ?_), Lib.hid (below_drewN HB5.out _)⟩, by simp [intOf]; omega⟩
                by_cases hmq : m = q
                · subst hmq
                  rw [Hy.out] at h3
                  cases h3
                  have := Hv.out
                  rw [hv0] at this
                  exact fun e => (of_decide_eq_false this.symm) e.symm
                · exact Htw.out rfl m z h1 (by omega) h3
              --]
            · obtain rfl : q = i := by omega
              obtain ⟨g', hA', _, _, hgc⟩ := (HJ5.out.below HB5.out).own.cell (by omega)
              cases hA'
              have hxc := hgc _ _ (prVals_get ps j (x1, x2) Hx.out).2
              rw [Nat.mul_comm 2 j] at hxc
              simp only [Sl.val] at hxc
              rw [Hl2.out] at hxc
              have hbk6 := below_at HB5.out Hbk5.out (blk_lt Hbk5.out)
              have d0 := blk_cell hbk6 0 rfl
              have d1 := blk_cell hbk6 1 rfl
              have Hbk6 := Lib.hid hbk6
              have hcc := Hcn.out
              clear hgc hbk6 hqi
              go_upto_region 30 with (fail)
              refine seg_begin (fun W => W.cell? ⟨tk, 0, none⟩ = some (.int .i64 (t.ep % 256)) ∧ W.cell? ⟨tk, 1, none⟩ = some (.slice t.hA hm t.hc) ∧ W.cell? ⟨g, j * 2 + 1, none⟩ = some (.slice x2.A (pm + 28) x2.c)) [2, 4, 9] (by kernel_rfl) ?_
              have HS4 : Hid (wq.drew.cell? ⟨tk, 0, none⟩ = some (.int .i64 (t.ep % 256)) ∧ wq.drew.cell? ⟨tk, 1, none⟩ = some (.slice t.hA hm t.hc) ∧ wq.drew.cell? ⟨g, j * 2 + 1, none⟩ = some (.slice x2.A (pm + 28) x2.c)) := Lib.hid ⟨d0, d1, hxc⟩
              (refine seg_take 0 ?_ rfl (by kernel_rfl) (by kernel_rfl) (by kernel_rfl) (by kernel_rfl) (by kernel_rfl) rfl (fun _ _ _ h => h) rfl ?_ ?_; rotate_left; (focus (intro w; go_simp; try with_reducible rfl)); (try simp only [List.getElem_toArray, List.getElem_cons_zero, List.getElem_cons_succ, Act.put, List.setIfInBounds_toArray, List.set_cons_zero, List.set_cons_succ]); refine seg_take 1 ?_ rfl (by kernel_rfl) (by kernel_rfl) (by kernel_rfl) (by kernel_rfl) (by kernel_rfl) rfl (fun _ _ _ h => h) rfl ?_ ?_; rotate_left; (focus (intro w; go_simp; try with_reducible rfl)); (try simp only [List.getElem_toArray, List.getElem_cons_zero, List.getElem_cons_succ, Act.put, List.setIfInBounds_toArray, List.set_cons_zero, List.set_cons_succ]); refine seg_take 3 ?_ rfl (by kernel_rfl) (by kernel_rfl) (by kernel_rfl) (by kernel_rfl) (by kernel_rfl) rfl (fun _ _ _ h => h) rfl ?_ ?_; rotate_left; (focus (intro w; go_simp; try with_reducible rfl)); (try simp only [List.getElem_toArray, List.getElem_cons_zero, List.getElem_cons_succ, Act.put, List.setIfInBounds_toArray, List.set_cons_zero, List.set_cons_succ]); refine seg_take 5 ?_ rfl (by kernel_rfl) (by kernel_rfl) (by kernel_rfl) (by kernel_rfl) (by kernel_rfl) rfl (fun _ _ _ h => h) rfl ?_ ?_; rotate_left; (focus (intro w; go_simp; try with_reducible rfl)); (try simp only [List.getElem_toArray, List.getElem_cons_zero, List.getElem_cons_succ, Act.put, List.setIfInBounds_toArray, List.set_cons_zero, List.set_cons_succ]); refine seg_take 6 ?_ rfl (by kernel_rfl) (by kernel_rfl) (by kernel_rfl) (by kernel_rfl) (by kernel_rfl) rfl (fun _ _ _ h => h) rfl ?_ ?_; rotate_left; (focus (intro w; go_simp; try with_reducible rfl)); (try simp only [List.getElem_toArray, List.getElem_cons_zero, List.getElem_cons_succ, Act.put, List.setIfInBounds_toArray, List.set_cons_zero, List.set_cons_succ]); refine seg_take 7 ?_ rfl (by kernel_rfl) (by kernel_rfl) (by kernel_rfl) (by kernel_rfl) (by kernel_rfl) rfl (fun _ _ _ h => h) rfl ?_ ?_; rotate_left; (focus (intro w; go_simp; try with_reducible rfl)); (try simp only [List.getElem_toArray, List.getElem_cons_zero, List.getElem_cons_succ, Act.put, List.setIfInBounds_toArray, List.set_cons_zero, List.set_cons_succ]); refine seg_take 8 ?_ rfl (by kernel_rfl) (by kernel_rfl) (by kernel_rfl) (by kernel_rfl) (by kernel_rfl) rfl (fun _ _ _ h => h) rfl ?_ ?_; rotate_left; (focus (intro w; go_simp; try with_reducible rfl)); (try simp only [List.getElem_toArray, List.getElem_cons_zero, List.getElem_cons_succ, Act.put, List.setIfInBounds_toArray, List.set_cons_zero, List.set_cons_succ]); refine seg_read 2 ?_ rfl (by kernel_rfl) (by kernel_rfl) (by kernel_rfl) (by kernel_rfl) (by kernel_rfl) (by kernel_rfl) (fun _ _ _ h => h) rfl HS4.out ?_ ?_; rotate_left; (focus (intro w hSw; (try dsimp only at hSw); go_split_ands; go_simp; try with_reducible rfl)); (try simp only [List.getElem_toArray, List.getElem_cons_zero, List.getElem_cons_succ, Act.put, List.setIfInBounds_toArray, List.set_cons_zero, List.set_cons_succ]); refine seg_read 4 ?_ rfl (by kernel_rfl) (by kernel_rfl) (by kernel_rfl) (by kernel_rfl) (by kernel_rfl) (by kernel_rfl) (fun _ _ _ h => h) rfl HS4.out ?_ ?_; rotate_left; (focus (intro w hSw; (try dsimp only at hSw); go_split_ands; go_simp; try with_reducible rfl)); (try simp only [List.getElem_toArray, List.getElem_cons_zero, List.getElem_cons_succ, Act.put, List.setIfInBounds_toArray, List.set_cons_zero, List.set_cons_succ]); refine seg_read 9 ?_ rfl (by kernel_rfl) (by kernel_rfl) (by kernel_rfl) (by kernel_rfl) (by kernel_rfl) (by kernel_rfl) (fun _ _ _ h => h) rfl HS4.out ?_ ?_; rotate_left; (focus (intro w hSw; (try dsimp only at hSw); go_split_ands; go_simp; try with_reducible rfl)); (try simp only [List.getElem_toArray, List.getElem_cons_zero, List.getElem_cons_succ, Act.put, List.setIfInBounds_toArray, List.set_cons_zero, List.set_cons_succ]))
              have Hbd : Hid (Below w5.heap.size w5 wq.drew) := Lib.hid HB5.out.drew
              have Hbkd : Hid (wq.drew.heap[tk]? = some (.cells (tval (t.ep % 256) t.hA hm t.hc t.pA pm t.pc) 32 (0, 0))) := Lib.hid Hbk6.out
              clear d0 d1 hxc Hbk6 HB5
              generalize wq.drew = wd at *
              have HJd : Hid (Ba F R w1 root ma oa mb seed tb2 ts q (some ⟨g, 0, none⟩) c ps wd) := Lib.hid (HJ5.out.below Hbd.out)
              obtain ⟨s, left, p, at_, hwm, hbx, _, _, _⟩ := HJd.out.wm
              have hio := wm_open F R w1 _ mb seed s tb2 seed left p at_ (t.ep % 256) t.hA hm t.hc (t.hd.take 100) x2.A (pm + 28) x2.c x2.xs wd hwm he0 he1 Hhm.out (Hh5.out.below Hbd.out) (by omega) Hl2.out.symm (H25.out.below Hbd.out) (by omega) (by omega)
              have hmg : bt = false → mget (t.ep % 256, strOfNums (t.hd.take 100), strOfNums x2.xs) s.bx = some (strOfNums (t.pl.take 100)) := fun hb => by
                have hlz : ((ts.take q).zip (ps.map (·.2))).length = q := by
                  have h1 := HT.out.len
                  have h2 := HJd.out.len
                  simp; omega
                have hjz : ((ts.take q).zip (ps.map (·.2)))[j]? = some (t, x2) := by
                  rw [List.getElem?_zip_eq_some]
                  refine ⟨?_, ?_⟩
                  · rw [List.getElem?_take, if_pos hlt]; exact Htt.out
                  · rw [List.getElem?_map, Hx.out]; rfl
                have hlj := lastJ_is ((ts.take q).zip (ps.map (·.2))) (t.ep % 256, strOfNums (t.hd.take 100), strOfNums x2.xs) j (t, x2) hjz rfl q hlt (fun m y h1 h2 h3 he => by
                  rw [List.getElem?_zip_eq_some] at h3
                  have h4 := h3.2
                  rw [List.getElem?_map] at h4
                  cases hz : ps[m]? with
                  | none => rw [hz] at h4; cases h4
                  | some z =>
                    rw [hz] at h4
                    simp only [Option.map_some, Option.some.injEq] at h4
                    refine Htw.out hb m z h1 h2 hz ?_
                    have := congrArg (fun k => k.2.2) he
                    rw [h4]
                    exact this)
                rw [hbx, mget_bxOf, hlz, hlj, if_neg (by omega), Int.toNat_natCast, hjz]
                rfl
              obtain ⟨er, her⟩ : ∃ er : Int, er = if (mget (t.ep % 256, strOfNums (t.hd.take 100), strOfNums x2.xs) s.bx).isSome then 0 else 80 := ⟨_, rfl⟩
              rw [← her] at hio
              have her0 : bt = false → er = 0 := fun hb => by rw [her, hmg hb]; rfl
              have Hio := Lib.hid hio
              have Hmg := Lib.hid hmg
              have Her0 := Lib.hid her0
              clear hio hmg her her0 hwm hbx HS4
              (refine anyB_step 10 rfl (by kernel_rfl) ?_; (try simp only [List.getElem_toArray, List.getElem_cons_zero, List.getElem_cons_succ]))
              go_wp2_with (go_at_call 12; go_must (refine Hio.out.mono ?_; rintro e w6 ⟨A6, n6, c6, rfl, xs6, q1, q2, q3, q4⟩; have R6 := Lib.hid q2; have N6 := Lib.hid q1; have E6 := Lib.hid q3; have B6 := Lib.hid q4; clear q1 q2 q3 q4))
              refine ⟨nofun, ?_⟩
              (refine seg_take 11 ?_ rfl (by kernel_rfl) (by kernel_rfl) (by kernel_rfl) (by kernel_rfl) (by kernel_rfl) rfl (fun _ _ _ h => h) rfl ?_ ?_; rotate_left; (focus (intro w; go_simp; try with_reducible rfl)); (try simp only [List.getElem_toArray, List.getElem_cons_zero, List.getElem_cons_succ, Act.put, List.setIfInBounds_toArray, List.set_cons_zero, List.set_cons_succ]); refine seg_take 12 ?_ rfl (by kernel_rfl) (by kernel_rfl) (by kernel_rfl) (by kernel_rfl) (by kernel_rfl) rfl (fun _ _ _ h => h) rfl ?_ ?_; rotate_left; (focus (intro w; go_simp; try with_reducible rfl)); (try simp only [List.getElem_toArray, List.getElem_cons_zero, List.getElem_cons_succ, Act.put, List.setIfInBounds_toArray, List.set_cons_zero, List.set_cons_succ]); refine seg_take 13 ?_ rfl (by kernel_rfl) (by kernel_rfl) (by kernel_rfl) (by kernel_rfl) (by kernel_rfl) rfl (fun _ _ _ h => h) rfl ?_ ?_; rotate_left; (focus (intro w; go_simp; try with_reducible rfl)); (try simp only [List.getElem_toArray, List.getElem_cons_zero, List.getElem_cons_succ, Act.put, List.setIfInBounds_toArray, List.set_cons_zero, List.set_cons_succ]); refine seg_take 14 ?_ rfl (by kernel_rfl) (by kernel_rfl) (by kernel_rfl) (by kernel_rfl) (by kernel_rfl) rfl (fun _ _ _ h => h) rfl ?_ ?_; rotate_left; (focus (intro w; go_simp; try with_reducible rfl)); (try simp only [List.getElem_toArray, List.getElem_cons_zero, List.getElem_cons_succ, Act.put, List.setIfInBounds_toArray, List.set_cons_zero, List.set_cons_succ]); refine seg_take 15 ?_ rfl (by kernel_rfl) (by kernel_rfl) (by kernel_rfl) (by kernel_rfl) (by kernel_rfl) rfl (fun _ _ _ h => h) rfl ?_ ?_; rotate_left; (focus (intro w; go_simp; try with_reducible rfl)); (try simp only [List.getElem_toArray, List.getElem_cons_zero, List.getElem_cons_succ, Act.put, List.setIfInBounds_toArray, List.set_cons_zero, List.set_cons_succ]))
              (refine anyB_done (by kernel_rfl) ?_)
              have hbk7 := below_at B6.out Hbkd.out (blk_lt Hbkd.out)
              have d2 := blk_cell hbk7 2 rfl
              have HBf : Hid (Below wb.heap.size wb w6) := Lib.hid (HBr.out.trans ((HBl5.out.trans ((Hbd.out.trans (B6.out.mono Hbd.out.size)).mono HBl5.out.size)).mono HBr.out.size))
              have Hp6 : Hid (Rd w6 t.pA t.pc (t.pl.take 100)) := Lib.hid ((Hp5.out.below Hbd.out).below B6.out)
              clear hbk7
              cases bt with
              | true =>
                go_wp2
                exact ⟨⟨j + 1, by omega, by go_num, HBf⟩, by simp [intOf]; omega⟩
              | false =>
                have he := Her0.out rfl
                subst he
                have Hst : Hid (strOfNums xs6 = strOfNums (t.pl.take 100)) := Lib.hid (E6.out _ (Hmg.out rfl))
                go_wp2_with (go_at_call 13; go_must (refine (eqb_true A6 t.pA n6 c6 pm t.pc xs6 (t.pl.take 100) w6 N6.out R6.out Hpm.out Hp6.out Hst.out).mono ?_; rintro e wv2 ⟨rfl, rfl⟩))
                exact ⟨⟨j + 1, by omega, by go_num, HBf⟩, by simp [intOf]; omega⟩
        · obtain rfl : j = i := by omega
          go_wp2
          go_ret
          exact ⟨rfl, HB1.out.trans ((HI.out.bel.trans (HBr.out.mono HI.out.bel.size)).mono HB1.out.size)⟩
end Go.Proofs.YtiboflejmnjdhaaDoor
