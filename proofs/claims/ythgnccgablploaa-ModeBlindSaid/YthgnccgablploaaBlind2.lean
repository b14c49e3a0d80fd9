/- ModeBlind: two modes and two tapes side by side. -/
import Derived.Test.YthgnccgablploaaBlind1
set_option linter.unusedVariables false
set_option linter.unusedSimpArgs false
set_option maxRecDepth 100000
namespace Go.Proofs.Ythgnccgablploaa
open Go Go.RowKit Go.Conc
/-- No block of the one list is one of the other. -/
def Apart (l m : List Nat) : Prop := ∀ b ∈ l, b ∉ m
theorem Apart.symm {l m : List Nat} (h : Apart l m) : Apart m l := fun b hb hx => h b hx hb
theorem Apart.fresh {w : World} {l l' m : List Nat} (h : Apart l m) (hf : Fresh w l l') (hm : ∀ b ∈ m, b < w.heap.size) : Apart l' m := fun b hb hx => by
  rcases hf b hb with h1 | h1
  · exact h b h1 hx
  · have := hm b hx; omega
/-- Two modes A, B of one seed, two tapes of one seed. -/
structure Bl (F R : List Int) (w0 : World) (Pr : List Nat) (mA mB : Nat) (seed : List Int) (sA sB : St) (tA tB : Nat) (ts lA : List Int) (pA aA : Nat) (lB : List Int) (pB aB : Nat) (w : World) : Prop where
  tabs : Tabs F R w
  below : Below w0.heap.size w0 w
  ex : ∃ o1 l1 o2 l2, IsMd F R w mA seed sA o1 ∧ IsTp F R w tA ts lA pA aA l1 ∧ IsMd F R w mB seed sB o2 ∧ IsTp F R w tB ts lB pB aB l2 ∧
    Apart o1 l1 ∧ Apart o1 o2 ∧ Apart o1 l2 ∧ Apart l1 o2 ∧ Apart l1 l2 ∧ Apart o2 l2 ∧ (∀ b, b ∈ o1 ∨ b ∈ l1 ∨ b ∈ o2 ∨ b ∈ l2 → w0.heap.size ≤ b ∧ b ∉ Pr)
  prl : ∀ b ∈ Pr, b < w.heap.size
theorem Bl.swap {F R : List Int} {w0 : World} {Pr : List Nat} {mA mB : Nat} {seed : List Int} {sA sB : St} {tA tB : Nat} {ts lA : List Int} {pA aA : Nat} {lB : List Int} {pB aB : Nat} {w : World} (h : Bl F R w0 Pr mA mB seed sA sB tA tB ts lA pA aA lB pB aB w) : Bl F R w0 Pr mB mA seed sB sA tB tA ts lB pB aB lA pA aA w := by
  obtain ⟨o1, l1, o2, l2, h1, h2, h3, h4, d1, d2, d3, d4, d5, d6, hb⟩ := h.ex
  exact ⟨h.tabs, h.below, ⟨o2, l2, o1, l1, h3, h4, h1, h2, d6, d2.symm, d4.symm, d3.symm, d5.symm, d1, fun b hx => hb b (by rcases hx with h | h | h | h <;> simp [h])⟩, h.prl⟩
theorem Bl.step {F R : List Int} {w0 : World} {Pr : List Nat} {mA mB : Nat} {seed : List Int} {sA sB : St} {tA tB : Nat} {ts lA : List Int} {pA aA : Nat} {lB : List Int} {pB aB : Nat} {w w' : World} (h : Bl F R w0 Pr mA mB seed sA sB tA tB ts lA pA aA lB pB aB w) (hk : Below w.heap.size w w') : Bl F R w0 Pr mA mB seed sA sB tA tB ts lA pA aA lB pB aB w' := by
  obtain ⟨o1, l1, o2, l2, h1, h2, h3, h4, d⟩ := h.ex
  exact ⟨h.tabs.below hk, h.below.trans (hk.mono h.below.size), ⟨o1, l1, o2, l2, h1.below hk, h2.below hk, h3.below hk, h4.below hk, d⟩, fun b hb => Nat.lt_of_lt_of_le (h.prl b hb) hk.size⟩
/-- One block more that is none of theirs. -/
theorem Bl.add {F R : List Int} {w0 : World} {Pr : List Nat} {mA mB : Nat} {seed : List Int} {sA sB : St} {tA tB : Nat} {ts lA : List Int} {pA aA : Nat} {lB : List Int} {pB aB : Nat} {w w' : World} (h : Bl F R w0 Pr mA mB seed sA sB tA tB ts lA pA aA lB pB aB w) (hk : Below w.heap.size w w') {b : Nat} (hb : w.heap.size ≤ b) (hb' : b < w'.heap.size) : Bl F R w0 (b :: Pr) mA mB seed sA sB tA tB ts lA pA aA lB pB aB w' := by
  have hs := h.step hk
  obtain ⟨o1, l1, o2, l2, h1, h2, h3, h4, d1, d2, d3, d4, d5, d6, hbb⟩ := h.ex
  refine ⟨hs.tabs, hs.below, ⟨o1, l1, o2, l2, h1.below hk, h2.below hk, h3.below hk, h4.below hk, d1, d2, d3, d4, d5, d6, fun x hx => ⟨(hbb x hx).1, fun hy => ?_⟩⟩, fun x hx => ?_⟩
  · rcases List.mem_cons.1 hy with rfl | hy
    · have : x < w.heap.size := by
        rcases hx with hx | hx | hx | hx
        · exact (h1.blocks x hx).2
        · exact (h2.blocks x hx).2
        · exact (h3.blocks x hx).2
        · exact (h4.blocks x hx).2
      omega
    · exact (hbb x hx).2 hy
  · rcases List.mem_cons.1 hx with rfl | hx
    · exact hb'
    · exact hs.prl x hx
theorem Bl.less {F R : List Int} {w0 : World} {Pr : List Nat} {mA mB : Nat} {seed : List Int} {sA sB : St} {tA tB : Nat} {ts lA : List Int} {pA aA : Nat} {lB : List Int} {pB aB : Nat} {w : World} (h : Bl F R w0 Pr mA mB seed sA sB tA tB ts lA pA aA lB pB aB w) : Bl F R w0 [] mA mB seed sA sB tA tB ts lA pA aA lB pB aB w := by
  obtain ⟨o1, l1, o2, l2, h1, h2, h3, h4, d1, d2, d3, d4, d5, d6, hbb⟩ := h.ex
  exact ⟨h.tabs, h.below, ⟨o1, l1, o2, l2, h1, h2, h3, h4, d1, d2, d3, d4, d5, d6, fun x hx => ⟨(hbb x hx).1, by simp⟩⟩, by simp⟩
theorem inm_bound (F R seed : List Int) (s : St) (k : ByteArray) : (inm F R seed s k).2.left.length ≤ max s.left.length 32 ∧ (inm F R seed s k).2.p ≤ s.p + 32 ∧ (inm F R seed s k).2.at_ ≤ s.at_ + 32 := by
  unfold inm
  have hb := tDraw_bound F R seed 32 s.left s.p
  cases mget k s.nm with
  | some v => exact ⟨by show s.left.length ≤ _; omega, by show s.p ≤ _; omega, by show s.at_ ≤ _; omega⟩
  | none => exact ⟨hb.2, hb.1, Nat.le_refl _⟩
theorem bl_name (F R : List Int) (w0 : World) (Pr : List Nat) (mA mB : Nat) (seed : List Int) (sA sB : St) (tA tB : Nat) (ts lA : List Int) (pA aA : Nat) (lB : List Int) (pB aB : Nat) (kA : Option Addr) (kn kc : Nat) (key : List Int) (w : World) (h : Bl F R w0 Pr mA mB seed sA sB tA tB ts lA pA aA lB pB aB w)
    (hl : seed.length ≤ 10000000000000) (hll : sA.left.length ≤ 10000000000000) (hp : sA.p ≤ 9007199254600000) (hat : sA.at_ ≤ 9007199254600000) (hkn : kn = key.length) (hk : Rd w kA kc key) :
    Calls Try.prog 14 #[.pointer (some ⟨mA, 0, none⟩), .slice kA kn kc] w fun e w' => e = .returned (.tuple #[vvn (inm F R seed sA (strOfNums key)).1, .int .i64 0]) ∧ (inm F R seed sA (strOfNums key)).1.length = 32 ∧ Bl F R w0 Pr mA mB seed (inm F R seed sA (strOfNums key)).2 sB tA tB ts lA pA aA lB pB aB w' ∧ (∃ S, Kp S w w' ∧ ∀ b ∈ S, Hard w b ∧ w0.heap.size ≤ b ∧ b ∉ Pr) := by
  obtain ⟨o1, l1, o2, l2, h1, h2, h3, h4, d1, d2, d3, d4, d5, d6, hb⟩ := h.ex
  refine (mname_any F R mA seed sA o1 kA kn kc key w h.tabs h1 hl hll hp hat hkn hk).mono ?_
  rintro e w' ⟨e1, e2, ⟨o1', e3, e4⟩, e5⟩
  have hh : ∀ b ∈ o1, Hard w b := fun b hx => (h1.blocks b hx).1
  have hsz := h.below.size
  refine ⟨e1, e2, ⟨h.tabs.hard e5 hh, h.below.trans (e5.below h.below.size (fun b hx => (hb b (.inl hx)).1)), ⟨o1', l1, o2, l2, e3, h2.keep e5 hh (fun b hx hy => d1 b hy hx), h3.keep e5 hh (fun b hx hy => d2 b hy hx), h4.keep e5 hh (fun b hx hy => d3 b hy hx),
    d1.fresh e4 (fun b hx => (h2.blocks b hx).2), d2.fresh e4 (fun b hx => (h3.blocks b hx).2), d3.fresh e4 (fun b hx => (h4.blocks b hx).2), d4, d5, d6, ?_⟩, fun b hx => Nat.lt_of_lt_of_le (h.prl b hx) e5.size⟩, o1, e5, fun b hx => ⟨hh b hx, (hb b (.inl hx)).1, (hb b (.inl hx)).2⟩⟩
  rintro b (hx | hx)
  · rcases e4 b hx with h' | h'
    · exact hb b (.inl h')
    · exact ⟨by omega, fun hy => by have := h.prl b hy; omega⟩
  · exact hb b (.inr hx)
theorem bl_seal (F R : List Int) (w0 : World) (Pr : List Nat) (mA mB : Nat) (seed : List Int) (sA sB : St) (tA tB : Nat) (ts lA : List Int) (pA aA : Nat) (lB : List Int) (pB aB : Nat) (ep : Int) (hA : Option Addr) (hn hc : Nat) (hd : List Int) (qA : Option Addr) (pn pc : Nat) (pl : List Int) (w : World) (h : Bl F R w0 Pr mA mB seed sA sB tA tB ts lA pA aA lB pB aB w)
    (hl : ts.length ≤ 10000000000000) (hll : lA.length ≤ 10000000000000) (hp : pA ≤ 9007199254600000) (hat : aA ≤ 9007199254600000) (he0 : 0 ≤ ep) (he1 : ep ≤ 255) (hhn : hn = hd.length) (hh : Rd w hA hc hd) (hhm : hn ≤ 4096) (hpn : pn = pl.length) (hpl : Rd w qA pc pl) (hpm : pn ≤ 4096) :
    Calls Try.prog 8 #[.pointer (some ⟨mA, 0, none⟩), .pointer (some ⟨tA, 0, none⟩), .int .i64 ep, .slice hA hn hc, .slice qA pn pc] w fun e w' => ∃ A c, e = .returned (.tuple #[.slice A (pn + 28) c, .int .i64 0]) ∧ Rd w' A c (tDraw F R ts (pn + 28) lA pA).1 ∧
      (∃ bx, Bl F R w0 Pr mA mB seed { sA with bx := bx } sB tA tB ts (tDraw F R ts (pn + 28) lA pA).2.1 (tDraw F R ts (pn + 28) lA pA).2.2 (aA + (pn + 28)) lB pB aB w') ∧ (∃ S, Kp S w w' ∧ ∀ b ∈ S, Hard w b ∧ w0.heap.size ≤ b ∧ b ∉ Pr) := by
  obtain ⟨o1, l1, o2, l2, h1, h2, h3, h4, d1, d2, d3, d4, d5, d6, hb⟩ := h.ex
  refine (seal_any F R mA seed sA o1 tA ts lA pA aA l1 ep hA hn hc hd qA pn pc pl w h.tabs h1 h2 d1 hl hll hp hat he0 he1 hhn hh hhm hpn hpl hpm).mono ?_
  rintro e w' ⟨A, c, e1, hO⟩
  have hx : ∀ b, b ∈ o1 ++ l1 → b ∈ o1 ∨ b ∈ l1 := fun b hb => List.mem_append.1 hb
  have hhd : ∀ b ∈ o1 ++ l1, Hard w b := fun b hb => (hx b hb).elim (fun h => (h1.blocks b h).1) (fun h => (h2.blocks b h).1)
  have hsz := h.below.size
  obtain ⟨o1', l1', q1, q2, q3, q4, q5⟩ := hO.ex
  have hb0 := hO.box
  rw [← hpn] at q1 q2 hb0
  have h5 := hO.kp
  refine ⟨A, c, e1, hb0, ⟨_, h.tabs.hard h5 hhd, h.below.trans (h5.below h.below.size (fun b hy => (hb b ((hx b hy).elim .inl (fun h => .inr (.inl h)))).1)), ⟨o1', l1', o2, l2, q2, q1, h3.keep h5 hhd (fun b hy hz => (hx b hz).elim (fun h => d2 b h hy) (fun h => d4 b h hy)), h4.keep h5 hhd (fun b hy hz => (hx b hz).elim (fun h => d3 b h hy) (fun h => d5 b h hy)),
    q3, d2.fresh q4 (fun b hy => (h3.blocks b hy).2), d3.fresh q4 (fun b hy => (h4.blocks b hy).2), d4.fresh q5 (fun b hy => (h3.blocks b hy).2), d5.fresh q5 (fun b hy => (h4.blocks b hy).2), d6, ?_⟩, fun b hy => Nat.lt_of_lt_of_le (h.prl b hy) h5.size⟩, o1 ++ l1, h5, fun b hy => ⟨hhd b hy, (hb b ((hx b hy).elim .inl (fun h => .inr (.inl h)))).1, (hb b ((hx b hy).elim .inl (fun h => .inr (.inl h)))).2⟩⟩
  rintro b (hy | hy | hy)
  · rcases q4 b hy with h' | h'
    · exact hb b (.inl h')
    · exact ⟨by omega, fun hz => by have := h.prl b hz; omega⟩
  · rcases q5 b hy with h' | h'
    · exact hb b (.inr (.inl h'))
    · exact ⟨by omega, fun hz => by have := h.prl b hz; omega⟩
  · exact hb b (.inr (.inr hy))
/-- What stands beside the modes and the tapes: two texts' rows, bytes that are read, names. -/
structure Rs (Pr : List Nat) (xb nb : Nat) (X Y : Array Value) (rds : List (Option Addr × Nat × List Int)) (L : List (Nat × List Int)) (w : World) : Prop where
  x : w.heap[xb]? = some (.cells X 32 (0, 0))
  y : w.heap[nb]? = some (.cells Y 32 (0, 0))
  rd : ∀ r ∈ rds, Rd w r.1 r.2.1 r.2.2
  nm : ∀ n ∈ L, w.heap[n.1]? = some (.cells (w8 n.2) 43 (0, 0))
  px : xb ∈ Pr
  py : nb ∈ Pr
  pn : ∀ n ∈ L, n.1 ∈ Pr
theorem Rs.keep {Pr : List Nat} {xb nb : Nat} {X Y : Array Value} {rds : List (Option Addr × Nat × List Int)} {L : List (Nat × List Int)} {w0 w w' : World} (h : Rs Pr xb nb X Y rds L w) (hS : ∃ S, Kp S w w' ∧ ∀ b ∈ S, Hard w b ∧ w0.heap.size ≤ b ∧ b ∉ Pr) : Rs Pr xb nb X Y rds L w' := by
  obtain ⟨S, hk, hS⟩ := hS
  exact ⟨hk.at_ h.x (fun hx => (hS _ hx).2.2 h.px), hk.at_ h.y (fun hx => (hS _ hx).2.2 h.py), fun r hr => (h.rd r hr).hard hk (fun b hb => (hS b hb).1), fun n hn => hk.at_ (h.nm n hn) (fun hx => (hS _ hx).2.2 (h.pn n hn)), h.px, h.py, h.pn⟩
theorem Rs.add {Pr : List Nat} {xb nb : Nat} {X Y : Array Value} {rds : List (Option Addr × Nat × List Int)} {L : List (Nat × List Int)} {w : World} (h : Rs Pr xb nb X Y rds L w) (v : List Int) : Rs (w.heap.size :: Pr) xb nb X Y rds ((w.heap.size, v) :: L) (w.alloc (.cells (w8 v) 43)) :=
  ⟨blk_alloc h.x _, blk_alloc h.y _, fun r hr => (h.rd r hr).alloc _, fun n hn => by
    rcases List.mem_cons.1 hn with rfl | hn
    · exact new_at rfl
    · exact blk_alloc (h.nm n hn) _, List.mem_cons_of_mem _ h.px, List.mem_cons_of_mem _ h.py, fun n hn => by
    rcases List.mem_cons.1 hn with rfl | hn
    · exact List.mem_cons_self
    · exact List.mem_cons_of_mem _ (h.pn n hn)⟩
theorem Rs.read {Pr : List Nat} {xb nb : Nat} {X Y : Array Value} {rds : List (Option Addr × Nat × List Int)} {L : List (Nat × List Int)} {w : World} (h : Rs Pr xb nb X Y rds L w) {A : Option Addr} {c : Nat} {xs : List Int} (hr : Rd w A c xs) : Rs Pr xb nb X Y ((A, c, xs) :: rds) L w :=
  ⟨h.x, h.y, fun r hm => by
    rcases List.mem_cons.1 hm with rfl | hm
    · exact hr
    · exact h.rd r hm, h.nm, h.px, h.py, h.pn⟩
theorem Bl.tapes {F R : List Int} {w0 : World} {Pr : List Nat} {mA mB : Nat} {seed : List Int} {sA sB : St} {tA tB : Nat} {ts lA : List Int} {pA aA : Nat} {lB : List Int} {pB aB : Nat} {w : World} (h : Bl F R w0 Pr mA mB seed sA sB tA tB ts lA pA aA lB pB aB w) : (∃ o, IsTp F R w tA ts lA pA aA o) ∧ (∃ o, IsTp F R w tB ts lB pB aB o) := by
  obtain ⟨o1, l1, o2, l2, h1, h2, h3, h4, _⟩ := h.ex
  exact ⟨⟨l1, h2⟩, ⟨l2, h4⟩⟩
end Go.Proofs.Ythgnccgablploaa
