/- A mode and a tape side by side. -/
import Derived.Test.YtiboflejmnjdhaaDoorJM
section
set_option linter.unusedVariables false
set_option linter.unusedSimpArgs false
set_option maxRecDepth 100000
namespace Go.Proofs.YtiboflejmnjdhaaDoor
open Go Go.RowKit Go.Conc
theorem tFill_len (F R seed l : List Int) (p : Nat) : (tFill F R seed l p).1.length ≤ max l.length 32 := by
  unfold tFill
  split
  · simp only [blkOf_len]; omega
  · show l.length ≤ _; omega
theorem tGo_bound (F R seed : List Int) (n : Nat) : ∀ (f : Nat) (o l : List Int) (p : Nat), (tGo F R seed n f o l p).2.2 ≤ p + f ∧ (tGo F R seed n f o l p).2.1.length ≤ max l.length 32 := by
  intro f
  induction f with
  | zero => intro o l p; simp only [tGo]; omega
  | succ f ih =>
    intro o l p
    rw [tGo]
    split
    · have h := ih (o ++ (tFill F R seed l p).1.take (min (n - o.length) (tFill F R seed l p).1.length)) ((tFill F R seed l p).1.drop (min (n - o.length) (tFill F R seed l p).1.length)) (tFill F R seed l p).2
      have h1 := tFill_le F R seed l p
      have h2 := tFill_len F R seed l p
      have h3 := h.2
      rw [List.length_drop] at h3
      exact ⟨by omega, by omega⟩
    · exact ⟨by show p ≤ _; omega, by show l.length ≤ _; omega⟩
theorem tDraw_bound (F R seed : List Int) (n : Nat) (l : List Int) (p : Nat) : (tDraw F R seed n l p).2.2 ≤ p + n ∧ (tDraw F R seed n l p).2.1.length ≤ max l.length 32 := tGo_bound F R seed n n [] l p
theorem tDraw_short (F R seed : List Int) (n : Nat) (l : List Int) (p : Nat) (h0 : 0 < n) (h : n ≤ l.length) : tDraw F R seed n l p = (l.take n, l.drop n, p) := by
  obtain ⟨f, rfl⟩ : ∃ f, n = f + 1 := ⟨n - 1, by omega⟩
  have hf : tFill F R seed l p = (l, p) := by unfold tFill; rw [if_neg (by omega)]
  unfold tDraw
  rw [tGo, if_pos (by simp), hf]
  simp only [List.length_nil, Nat.sub_zero, List.nil_append]
  rw [Nat.min_eq_left h, tGo_full _ _ _ _ _ _ _ _ (by simp; omega)]
/-- An ideal mode and a tape beside it, their blocks new since w0 and none of Pr. -/
structure Wm (F R : List Int) (w0 : World) (Pr : List Nat) (mb : Nat) (seed : List Int) (s : St) (tb : Nat) (tseed tleft : List Int) (tp tat : Nat) (w : World) : Prop where
  tabs : Tabs F R w
  below : Below w0.heap.size w0 w
  ex : ∃ own town, IsMd F R w mb seed s own ∧ IsTp F R w tb tseed tleft tp tat town ∧ (∀ b ∈ own, b ∉ town) ∧ (∀ b, b ∈ own ∨ b ∈ town → w0.heap.size ≤ b ∧ b ∉ Pr)
  prl : ∀ b ∈ Pr, b < w.heap.size
/-- What the other blocks keep. -/
structure Kept (Pr : List Nat) (w w' : World) : Prop where
  size : w.heap.size ≤ w'.heap.size
  rd : ∀ A c xs, Rd w A c xs → Rd w' A c xs
  pr : ∀ b ∈ Pr, b < w.heap.size → w'.heap[b]? = w.heap[b]?
theorem Kept.of_below {Pr : List Nat} {w w' : World} (h : Below w.heap.size w w') : Kept Pr w w' := ⟨h.size, fun A c xs hr => hr.below h, fun b _ hl => h.block b hl⟩
theorem Wm.step {F R : List Int} {w0 : World} {Pr : List Nat} {mb : Nat} {seed : List Int} {s : St} {tb : Nat} {tseed tleft : List Int} {tp tat : Nat} {w w' : World} (h : Wm F R w0 Pr mb seed s tb tseed tleft tp tat w) (hb : Below w.heap.size w w') : Wm F R w0 Pr mb seed s tb tseed tleft tp tat w' := by
  obtain ⟨own, town, h1, h2, h3, h4⟩ := h.ex
  exact ⟨h.tabs.below hb, h.below.trans (hb.mono h.below.size), ⟨own, town, h1.below hb, h2.below hb, h3, h4⟩, fun b hbb => Nat.lt_of_lt_of_le (h.prl b hbb) hb.size⟩
/-- Other protected blocks. -/
theorem Wm.prot {F R : List Int} {w0 : World} {Pr Pr' : List Nat} {mb : Nat} {seed : List Int} {s : St} {tb : Nat} {tseed tleft : List Int} {tp tat : Nat} {w w' : World} (h : Wm F R w0 Pr mb seed s tb tseed tleft tp tat w) (hk : Kp Pr w w') (hsz : ∀ b ∈ Pr, Hard w b) (hp : ∀ b ∈ Pr', (b ∈ Pr ∨ w.heap.size ≤ b) ∧ b < w'.heap.size) (hw : ∀ b ∈ Pr, w0.heap.size ≤ b) : Wm F R w0 Pr' mb seed s tb tseed tleft tp tat w' := by
  obtain ⟨own, town, h1, h2, h3, h4⟩ := h.ex
  refine ⟨h.tabs.hard hk hsz, ?_, ⟨own, town, h1.keep hk hsz (fun b hb => (h4 b (.inl hb)).2), h2.keep hk hsz (fun b hb => (h4 b (.inr hb)).2), h3, fun b hb => ⟨(h4 b hb).1, fun hx => ?_⟩⟩, fun b hb => (hp b hb).2⟩
  · exact h.below.trans (hk.below h.below.size hw)
  · rcases (hp b hx).1 with h5 | h5
    · exact (h4 b hb).2 h5
    · rcases hb with hb | hb
      · have := (h1.blocks b hb).2; omega
      · have := (h2.blocks b hb).2; omega
theorem wm_ideal (F R : List Int) (w0 : World) (tb : Nat) (seed : List Int) (w : World) (hTb : Tabs F R w) (hB : Below w0.heap.size w0 w) (hT : IsTp F R w tb seed seed 0 0 [tb]) (htb : w0.heap.size ≤ tb) (hl : seed.length ≤ 10000000) :
    Calls Tryd.prog 24 #[.pointer (some ⟨tb, 0, none⟩)] w fun e w' => ∃ mb, e = .returned (.tuple #[.pointer (some ⟨mb, 0, none⟩), .int .i64 0]) ∧ Wm F R w0 [] mb seed ⟨seed, 0, 0, [], []⟩ tb seed seed 0 0 w' ∧ Kept [] w w' := by
  refine (ideal_any F R tb seed seed 0 0 [tb] w hT (by omega) (by omega)).mono ?_
  rintro e w' ⟨mb, rfl, hN⟩
  obtain ⟨mown, town, h1, h2, h3, h4, h5⟩ := hN.ex
  have hh : ∀ b ∈ [tb], Hard w b := fun b hb => (hT.blocks b hb).1
  have hsz := hB.size
  refine ⟨mb, rfl, ⟨hTb.hard hN.kp hh, hB.trans (hN.kp.below hB.size (by simpa using htb)), ⟨mown, town, h1, h2, h3, ?_⟩, by simp⟩, ⟨hN.kp.size, fun A c xs hr => hr.hard hN.kp hh, by simp⟩⟩
  rintro b (hb | hb)
  · exact ⟨Nat.le_trans hsz (h4 b hb), by simp⟩
  · refine ⟨?_, by simp⟩
    rcases h5 b hb with h | h
    · simp at h; omega
    · omega
theorem wm_new (F R : List Int) (w0 : World) (Pr : List Nat) (mb : Nat) (seed : List Int) (s : St) (tb : Nat) (tseed tleft : List Int) (tp tat : Nat) (A : Option Addr) (n c : Nat) (xs : List Int) (w : World) (hW : Wm F R w0 Pr mb seed s tb tseed tleft tp tat w) (hn : n = xs.length) (hr : Rd w A c xs) (hl : xs.length ≤ 65536) :
    Calls Tryd.prog 9 #[.slice A n c] w fun e w' => ∃ tb', e = .returned (.pointer (some ⟨tb', 0, none⟩)) ∧ Wm F R w0 Pr mb seed s tb' xs xs 0 0 w' ∧ Wm F R w0 Pr mb seed s tb tseed tleft tp tat w' ∧ Below w.heap.size w w' := by
  refine (new_tp F R A n c xs w hn hr hl).mono ?_
  rintro e w' ⟨tb', rfl, h1, h2, h3⟩
  have hS := hW.step h3
  obtain ⟨own, town, g1, g2, g3, g4⟩ := hW.ex
  have hsz := hW.below.size
  refine ⟨tb', rfl, ⟨hS.tabs, hS.below, ⟨own, [tb'], g1.below h3, h1, ?_, ?_⟩, hS.prl⟩, hS, h3⟩
  · intro b hb hx
    obtain rfl : b = tb' := by simpa using hx
    have := (g1.blocks b hb).2
    omega
  · rintro b (hb | hb)
    · exact g4 b (.inl hb)
    · obtain rfl : b = tb' := by simpa using hb
      exact ⟨by omega, fun hx => by have := hW.prl b hx; omega⟩
theorem wm_named (F R : List Int) (w0 : World) (Pr : List Nat) (mb : Nat) (seed : List Int) (s : St) (tb : Nat) (tseed tleft : List Int) (tp tat : Nat) (k : ByteArray) (B : Option Addr) (m d : Nat) (ys : List Int) (w : World) (hW : Wm F R w0 Pr mb seed s tb tseed tleft tp tat w)
    (hl : seed.length ≤ 10000000000000) (hll : s.left.length ≤ 10000000000000) (hp : s.p ≤ 9007199254600000) (hat : s.at_ ≤ 9007199254600000) (hks : k.size ≤ 1000) (hm : m = ys.length) (hy : Rd w B d ys) :
    Calls Tryd.prog 26 #[.pointer (some ⟨mb, 0, none⟩), .string k, .slice B m d] w fun e w' => e = .returned (.bool (decide (strOfNums (inm F R seed s k).1 = strOfNums ys))) ∧ Wm F R w0 Pr mb seed (inm F R seed s k).2 tb tseed tleft tp tat w' ∧ Kept Pr w w' := by
  obtain ⟨own, town, g1, g2, g3, g4⟩ := hW.ex
  refine (named_any F R mb seed s own k B m d ys w hW.tabs g1 hl hll hp hat hks hm hy).mono ?_
  rintro e w' ⟨h1, ⟨own', h2, h3⟩, h4⟩
  have hh : ∀ b ∈ own, Hard w b := fun b hb => (g1.blocks b hb).1
  have hsz := hW.below.size
  refine ⟨h1, ⟨hW.tabs.hard h4 hh, hW.below.trans (h4.below hW.below.size (fun b hb => (g4 b (.inl hb)).1)), ⟨own', town, h2, g2.keep h4 hh (fun b hb hx => g3 b hx hb), ?_, ?_⟩, fun b hb => Nat.lt_of_lt_of_le (hW.prl b hb) h4.size⟩, ⟨h4.size, fun A c xs hr => hr.hard h4 hh, fun b hb hl => h4.block b hl (fun hx => (g4 b (.inl hx)).2 hb)⟩⟩
  · intro b hb hx
    rcases h3 b hb with h | h
    · exact g3 b h hx
    · have := (g2.blocks b hx).2; omega
  · rintro b (hb | hb)
    · rcases h3 b hb with h | h
      · exact g4 b (.inl h)
      · exact ⟨by omega, fun hx => by have := hW.prl b hx; omega⟩
    · exact g4 b (.inr hb)
theorem wm_name (F R : List Int) (w0 : World) (Pr : List Nat) (mb : Nat) (seed : List Int) (s : St) (tb : Nat) (tseed tleft : List Int) (tp tat : Nat) (kA : Option Addr) (kn kc : Nat) (key : List Int) (w : World) (hW : Wm F R w0 Pr mb seed s tb tseed tleft tp tat w)
    (hl : seed.length ≤ 10000000000000) (hll : s.left.length ≤ 10000000000000) (hp : s.p ≤ 9007199254600000) (hat : s.at_ ≤ 9007199254600000) (hkn : kn = key.length) (hk : Rd w kA kc key) :
    Calls Tryd.prog 19 #[.pointer (some ⟨mb, 0, none⟩), .slice kA kn kc] w fun e w' => e = .returned (.tuple #[vvn (inm F R seed s (strOfNums key)).1, .int .i64 0]) ∧ (inm F R seed s (strOfNums key)).1.length = 32 ∧ Wm F R w0 Pr mb seed (inm F R seed s (strOfNums key)).2 tb tseed tleft tp tat w' ∧ ∃ own, (∀ b ∈ own, Hard w b ∧ w0.heap.size ≤ b ∧ b ∉ Pr) ∧ (IsMd F R w mb seed s own) ∧ Kp own w w' := by
  obtain ⟨own, town, g1, g2, g3, g4⟩ := hW.ex
  refine (mname_any F R mb seed s own kA kn kc key w hW.tabs g1 hl hll hp hat hkn hk).mono ?_
  rintro e w' ⟨h1, h0, ⟨own', h2, h3⟩, h4⟩
  have hh : ∀ b ∈ own, Hard w b := fun b hb => (g1.blocks b hb).1
  have hsz := hW.below.size
  refine ⟨h1, h0, ⟨hW.tabs.hard h4 hh, hW.below.trans (h4.below hW.below.size (fun b hb => (g4 b (.inl hb)).1)), ⟨own', town, h2, g2.keep h4 hh (fun b hb hx => g3 b hx hb), ?_, ?_⟩, fun b hb => Nat.lt_of_lt_of_le (hW.prl b hb) h4.size⟩, own, fun b hb => ⟨hh b hb, (g4 b (.inl hb)).1, (g4 b (.inl hb)).2⟩, g1, h4⟩
  · intro b hb hx
    rcases h3 b hb with h | h
    · exact g3 b h hx
    · have := (g2.blocks b hx).2; omega
  · rintro b (hb | hb)
    · rcases h3 b hb with h | h
      · exact g4 b (.inl h)
      · exact ⟨by omega, fun hx => by have := hW.prl b hx; omega⟩
    · exact g4 b (.inr hb)
theorem wm_seal (F R : List Int) (w0 : World) (Pr : List Nat) (mb : Nat) (seed : List Int) (s : St) (tb : Nat) (tseed tleft : List Int) (tp tat : Nat) (ep : Int) (hA : Option Addr) (hn hc : Nat) (hd : List Int) (pA : Option Addr) (pn pc : Nat) (pl : List Int) (w : World) (hW : Wm F R w0 Pr mb seed s tb tseed tleft tp tat w)
    (hl : tseed.length ≤ 10000000000000) (hll : tleft.length ≤ 10000000000000) (hp : tp ≤ 9007199254600000) (hat : tat ≤ 9007199254600000) (he0 : 0 ≤ ep) (he1 : ep ≤ 255) (hhn : hn = hd.length) (hh : Rd w hA hc hd) (hhm : hn ≤ 4096) (hpn : pn = pl.length) (hpl : Rd w pA pc pl) (hpm : pn ≤ 4096) :
    Calls Tryd.prog 11 #[.pointer (some ⟨mb, 0, none⟩), .pointer (some ⟨tb, 0, none⟩), .int .i64 ep, .slice hA hn hc, .slice pA pn pc] w fun e w' => ∃ A c, e = .returned (.tuple #[.slice A (pn + 28) c, .int .i64 0]) ∧ Rd w' A c (tDraw F R tseed (pn + 28) tleft tp).1 ∧ (∀ a, A = some a → w.heap.size ≤ a.block) ∧
      Wm F R w0 Pr mb seed { s with bx := mput (ep, strOfNums hd, strOfNums (tDraw F R tseed (pn + 28) tleft tp).1) (strOfNums pl) s.bx } tb tseed (tDraw F R tseed (pn + 28) tleft tp).2.1 (tDraw F R tseed (pn + 28) tleft tp).2.2 (tat + (pn + 28)) w' ∧ Kept Pr w w' := by
  obtain ⟨own, town, g1, g2, g3, g4⟩ := hW.ex
  refine (seal_any F R mb seed s own tb tseed tleft tp tat town ep hA hn hc hd pA pn pc pl w hW.tabs g1 g2 g3 hl hll hp hat he0 he1 hhn hh hhm hpn hpl hpm).mono ?_
  rintro e w' ⟨A, c, h1, hO⟩
  have hx : ∀ b, b ∈ own ++ town → b ∈ own ∨ b ∈ town := fun b hb => List.mem_append.1 hb
  have hhd : ∀ b ∈ own ++ town, Hard w b := fun b hb => (hx b hb).elim (fun h => (g1.blocks b h).1) (fun h => (g2.blocks b h).1)
  have hsz := hW.below.size
  obtain ⟨own', town', q1, q2, q3, q4, q5⟩ := hO.ex
  have hb0 := hO.box
  rw [← hpn] at q1 q2 hb0
  have h4 := hO.kp
  refine ⟨A, c, h1, hb0, hO.new, ⟨hW.tabs.hard h4 hhd, hW.below.trans (h4.below hW.below.size (fun b hb => (g4 b (hx b hb)).1)), ⟨own', town', q2, q1, q3, ?_⟩, fun b hb => Nat.lt_of_lt_of_le (hW.prl b hb) h4.size⟩, ⟨h4.size, fun A c xs hr => hr.hard h4 hhd, fun b hb hl => h4.block b hl (fun hxx => (g4 b (hx b hxx)).2 hb)⟩⟩
  rintro b (hb | hb)
  · rcases q4 b hb with h | h
    · exact g4 b (.inl h)
    · exact ⟨by omega, fun hx => by have := hW.prl b hx; omega⟩
  · rcases q5 b hb with h | h
    · exact g4 b (.inr h)
    · exact ⟨by omega, fun hx => by have := hW.prl b hx; omega⟩
end Go.Proofs.YtiboflejmnjdhaaDoor
end
section
set_option linter.unusedVariables false
set_option linter.unusedSimpArgs false
set_option maxRecDepth 100000
namespace Go.Proofs.YtiboflejmnjdhaaDoor
open Go Go.RowKit Go.Conc
abbrev kyA : ByteArray := ⟨#[97]⟩
abbrev kyB : ByteArray := ⟨#[98]⟩
def ws1 : St := ⟨upL 33 32, 0, 32, [(kyA, upL 1 32)], []⟩
def ws2 : St := ⟨[], 0, 64, [(kyA, upL 1 32), (kyB, upL 33 32)], []⟩
theorem inm_0 (F R seed : List Int) : inm F R seed ⟨upL 1 64, 0, 0, [], []⟩ kyA = (upL 1 32, ws1) := by
  unfold inm
  rw [tDraw_short F R seed 32 (upL 1 64) 0 (by omega) (by simp [upL_len])]
  rfl
theorem inm_1 (F R seed : List Int) : inm F R seed ws1 kyB = (upL 33 32, ws2) := by
  unfold inm ws1
  have h : mget kyB [(kyA, upL 1 32)] = none := by rw [mget, if_neg (by decide)]; rfl
  simp only [h]
  rw [tDraw_short F R seed 32 (upL 33 32) 0 (by omega) (by simp [upL_len])]
  rfl
theorem inm_2 (F R seed : List Int) : inm F R seed ws2 kyA = (upL 1 32, ws2) := by
  unfold inm ws2
  rfl
theorem draw_works (F R : List Int) (pn : Nat) (h : pn = 12) : tDraw F R (List.replicate 40 170) (pn + 28) (List.replicate 40 170) 0 = (List.replicate 40 170, [], 0) := by
  subst h
  rw [tDraw_short F R _ 40 _ 0 (by omega) (by simp)]
  rfl
def m31 : Array Value := madeCells (Value.int .u8 0).cells 31
theorem make31 (w : World) : (Instr.makeSlice 22 (.int .i64 31) (.int .i64 31)).run Tryd.prog w = .ok (.slice (some ⟨w.heap.size, 0, none⟩) 31 31) (w.alloc (.cells m31 5)) := by
  obtain ⟨i0, hi0, hz0, hz1, hz2⟩ := info_parts infoU8
  have := run_makeSlice (P := Tryd.prog) w 22 5 i0 (.int .u8 0) Tryd.underlying22 hi0 hz0 .i64 .i64 31 31 (by decide) (by decide) (by rw [hz1]; decide) (by rw [hz2]; omega) (by decide)
  rw [hz1] at this
  exact this
theorem str_self (xs : List Int) : (decide (strOfNums xs = strOfNums xs)) = true := by simp
theorem named_w0 (F R : List Int) (w0 : World) (mb tb : Nat) (B : Option Addr) (d : Nat) (w : World) (hW : Wm F R w0 [] mb (upL 1 64) ⟨upL 1 64, 0, 0, [], []⟩ tb (upL 1 64) (upL 1 64) 0 0 w) (hy : Rd w B d (upL 1 32)) :
    Calls Tryd.prog 26 #[.pointer (some ⟨mb, 0, none⟩), .string kyA, .slice B 32 d] w fun e w' => e = .returned (.bool true) ∧ Wm F R w0 [] mb (upL 1 64) ws1 tb (upL 1 64) (upL 1 64) 0 0 w' := by
  have h := wm_named F R w0 [] mb (upL 1 64) ⟨upL 1 64, 0, 0, [], []⟩ tb (upL 1 64) (upL 1 64) 0 0 kyA B 32 d (upL 1 32) w hW (by rw [upL_len]; omega) (by simp [ws1, ws2, upL_len]) (by simp [ws1, ws2]) (by simp [ws1, ws2]) (by decide) (upL_len _ _).symm hy
  rw [inm_0] at h
  refine h.mono ?_
  rintro e w' ⟨he, h1, h2⟩
  rw [str_self] at he
  exact ⟨he, h1⟩
theorem named_w1 (F R : List Int) (w0 : World) (mb tb : Nat) (B : Option Addr) (d : Nat) (w : World) (hW : Wm F R w0 [] mb (upL 1 64) ws1 tb (upL 1 64) (upL 1 64) 0 0 w) (hy : Rd w B d (upL 33 32)) :
    Calls Tryd.prog 26 #[.pointer (some ⟨mb, 0, none⟩), .string kyB, .slice B 32 d] w fun e w' => e = .returned (.bool true) ∧ Wm F R w0 [] mb (upL 1 64) ws2 tb (upL 1 64) (upL 1 64) 0 0 w' := by
  have h := wm_named F R w0 [] mb (upL 1 64) ws1 tb (upL 1 64) (upL 1 64) 0 0 kyB B 32 d (upL 33 32) w hW (by rw [upL_len]; omega) (by simp [ws1, ws2, upL_len]) (by simp [ws1, ws2]) (by simp [ws1, ws2]) (by decide) (upL_len _ _).symm hy
  rw [inm_1] at h
  refine h.mono ?_
  rintro e w' ⟨he, h1, h2⟩
  rw [str_self] at he
  exact ⟨he, h1⟩
theorem named_w2 (F R : List Int) (w0 : World) (mb tb : Nat) (B : Option Addr) (d : Nat) (w : World) (hW : Wm F R w0 [] mb (upL 1 64) ws2 tb (upL 1 64) (upL 1 64) 0 0 w) (hy : Rd w B d (upL 1 32)) :
    Calls Tryd.prog 26 #[.pointer (some ⟨mb, 0, none⟩), .string kyA, .slice B 32 d] w fun e w' => e = .returned (.bool true) ∧ Wm F R w0 [] mb (upL 1 64) ws2 tb (upL 1 64) (upL 1 64) 0 0 w' := by
  have h := wm_named F R w0 [] mb (upL 1 64) ws2 tb (upL 1 64) (upL 1 64) 0 0 kyA B 32 d (upL 1 32) w hW (by rw [upL_len]; omega) (by simp [ws1, ws2, upL_len]) (by simp [ws1, ws2]) (by simp [ws1, ws2]) (by decide) (upL_len _ _).symm hy
  rw [inm_2] at h
  refine h.mono ?_
  rintro e w' ⟨he, h1, h2⟩
  rw [str_self] at he
  exact ⟨he, h1⟩
theorem Own.rd' {w : World} {base n c : Nat} {A : Option Addr} {xs : List Int} (h : Own w base (.slice A n c) xs) : Rd w A c xs := by
  obtain ⟨A1, c1, e1, h1, -⟩ := h.rd
  rw [Value.slice.injEq] at e1
  obtain ⟨rfl, -, rfl⟩ := e1
  exact h1
theorem below_one (w : World) (o : Obj) : Below w.heap.size w (w.alloc o) := (Below.refl _ w).alloc (Nat.le_refl _) o
theorem conv_h (w : World) : (convert 22 22 (.slice (some ⟨w.heap.size, 0, none⟩) 1 1)).run Tryd.prog (w.alloc (.cells #[.int .u8 104] 5)) = .ok (.slice (some ⟨w.heap.size, 0, none⟩) 1 1) (w.alloc (.cells #[.int .u8 104] 5 (1, 2))) := by
  have hsh : (w.alloc (.cells #[.int .u8 104] 5)).shape? w.heap.size = some (5, 1) := by
    simp [World.shape?, World.alloc, -World.alloc_eq]
  have hfr : (w.alloc (.cells #[.int .u8 104] 5)).freeze ⟨w.heap.size, 1, none⟩ 1 = w.alloc (.cells #[.int .u8 104] 5 (1, 2)) := by
    have hm : ∀ (a : Array Obj) (x : Obj) (f : Obj → Obj), (a.push x).modify a.size f = a.push (f x) := by
      intro a x f
      apply Array.ext
      · simp
      · intro i h1 h2
        simp only [Array.getElem_modify, Array.getElem_push]
        by_cases h : a.size = i
        · subst h
          simp
        · have hi : i < a.size := by simp at h1; omega
          simp [h, hi]
    unfold World.freeze
    rw [if_neg (by decide)]
    show ({ w.alloc (.cells #[.int .u8 104] 5) with heap := (w.heap.push (.cells #[.int .u8 104] 5)).modify w.heap.size _ } : World) = _
    rw [hm]
    rfl
  simp [convert, run_underlying Tryd.underlying22, run_underlying Tryd.underlying5, markStringish, hsh]
  exact hfr
abbrev forty : List Int := List.replicate 40 170
def ws3 : St := { ws2 with bx := mput (3, strOfNums [104], strOfNums forty) (strOfNums (upL 9 12)) [] }
theorem seal_w (F R : List Int) (w0 : World) (mb tb : Nat) (hA : Option Addr) (hc : Nat) (pA : Option Addr) (pc : Nat) (w : World) (hW : Wm F R w0 [] mb (upL 1 64) ws2 tb forty forty 0 0 w) (hh : Rd w hA hc [104]) (hp : Rd w pA pc (upL 9 12)) :
    Calls Tryd.prog 11 #[.pointer (some ⟨mb, 0, none⟩), .pointer (some ⟨tb, 0, none⟩), .int .i64 3, .slice hA 1 hc, .slice pA 12 pc] w fun e w' => ∃ A c, e = .returned (.tuple #[.slice A 40 c, .int .i64 0]) ∧ Rd w' A c forty ∧ Wm F R w0 [] mb (upL 1 64) ws3 tb forty [] 0 40 w' ∧ Kept [] w w' := by
  have h := wm_seal F R w0 [] mb (upL 1 64) ws2 tb forty forty 0 0 3 hA 1 hc [104] pA 12 pc (upL 9 12) w hW (by simp) (by simp) (by omega) (by omega) (by omega) (by omega) rfl hh (by omega) (upL_len _ _).symm hp (by omega)
  rw [draw_works F R 12 rfl] at h
  refine h.mono ?_
  rintro e w' ⟨A, c, h1, h2, h3, h4, h5⟩
  exact ⟨A, c, h1, h2, h4, h5⟩
theorem wm_open (F R : List Int) (w0 : World) (Pr : List Nat) (mb : Nat) (seed : List Int) (s : St) (tb : Nat) (tseed tleft : List Int) (tp tat : Nat) (ep : Int) (hA : Option Addr) (hn hc : Nat) (hd : List Int) (bA : Option Addr) (bn bc : Nat) (bs : List Int) (w : World) (hW : Wm F R w0 Pr mb seed s tb tseed tleft tp tat w)
    (he0 : 0 ≤ ep) (he1 : ep ≤ 255) (hhn : hn = hd.length) (hh : Rd w hA hc hd) (hhm : hn ≤ 4096) (hbn : bn = bs.length) (hb : Rd w bA bc bs) (hb0 : 28 ≤ bn) (hbm : bn ≤ 4124) :
    Calls Tryd.prog 12 #[.pointer (some ⟨mb, 0, none⟩), .int .i64 ep, .slice hA hn hc, .slice bA bn bc] w fun e w' => ∃ A n c, e = .returned (.tuple #[.slice A n c, .int .i64 (if (mget (ep, strOfNums hd, strOfNums bs) s.bx).isSome then 0 else 80)]) ∧ ∃ xs : List Int, n = xs.length ∧ Rd w' A c xs ∧ (∀ pl, mget (ep, strOfNums hd, strOfNums bs) s.bx = some pl → strOfNums xs = pl) ∧ Below w.heap.size w w' := by
  obtain ⟨own, town, g1, g2, g3, g4⟩ := hW.ex
  exact open_any F R mb seed s own ep hA hn hc hd bA bn bc bs w g1 he0 he1 hhn hh hhm hbn hb hb0 hbm
theorem open_w3 (F R : List Int) (w0 : World) (mb tb : Nat) (hA : Option Addr) (hc : Nat) (bA : Option Addr) (bc : Nat) (w : World) (hW : Wm F R w0 [] mb (upL 1 64) ws3 tb forty [] 0 40 w) (hh : Rd w hA hc [104]) (hb : Rd w bA bc forty) :
    Calls Tryd.prog 12 #[.pointer (some ⟨mb, 0, none⟩), .int .i64 3, .slice hA 1 hc, .slice bA 40 bc] w fun e w' => ∃ A n c, e = .returned (.tuple #[.slice A n c, .int .i64 0]) ∧ ∃ xs : List Int, n = xs.length ∧ Rd w' A c xs ∧ strOfNums xs = strOfNums (upL 9 12) ∧ Below w.heap.size w w' := by
  have h := wm_open F R w0 [] mb (upL 1 64) ws3 tb forty [] 0 40 3 hA 1 hc [104] bA 40 bc forty w hW (by omega) (by omega) rfl hh (by omega) (by simp) hb (by omega) (by omega)
  have hg : mget ((3 : Int), strOfNums [104], strOfNums forty) ws3.bx = some (strOfNums (upL 9 12)) := by
    show mget _ (mput _ _ []) = _
    rw [mget_mput, if_pos rfl]
  rw [hg] at h
  refine h.mono ?_
  rintro e w' ⟨A, n, c, h1, xs, h2, h3, h4, h5⟩
  exact ⟨A, n, c, h1, xs, h2, h3, h4 _ rfl, h5⟩
theorem open_w4 (F R : List Int) (w0 : World) (mb tb : Nat) (hA : Option Addr) (hc : Nat) (bA : Option Addr) (bc : Nat) (w : World) (hW : Wm F R w0 [] mb (upL 1 64) ws3 tb forty [] 0 40 w) (hh : Rd w hA hc [104]) (hb : Rd w bA bc forty) :
    Calls Tryd.prog 12 #[.pointer (some ⟨mb, 0, none⟩), .int .i64 4, .slice hA 1 hc, .slice bA 40 bc] w fun e w' => ∃ A n c, e = .returned (.tuple #[.slice A n c, .int .i64 80]) ∧ Below w.heap.size w w' := by
  have h := wm_open F R w0 [] mb (upL 1 64) ws3 tb forty [] 0 40 4 hA 1 hc [104] bA 40 bc forty w hW (by omega) (by omega) rfl hh (by omega) (by simp) hb (by omega) (by omega)
  have hg : mget ((4 : Int), strOfNums [104], strOfNums forty) ws3.bx = none := by
    show mget _ (mput _ _ []) = _
    rw [mget_mput, if_neg (by simp)]
    rfl
  rw [hg] at h
  refine h.mono ?_
  rintro e w' ⟨A, n, c, h1, xs, h2, h3, h4, h5⟩
  exact ⟨A, n, c, h1, h5⟩
theorem len_w3 (F R : List Int) (w0 : World) (mb tb : Nat) (w : World) (hW : Wm F R w0 [] mb (upL 1 64) ws3 tb forty [] 0 40 w) :
    Calls Tryd.prog 17 #[.pointer (some ⟨mb, 0, none⟩)] w fun e w' => e = .returned (.int .i64 1) ∧ w = w' := by
  obtain ⟨own, town, g1, g2, g3, g4⟩ := hW.ex
  exact len_any F R mb _ _ own w g1
theorem seal_256 (F R : List Int) (w0 : World) (mb tb tb2 : Nat) (w : World) (hW : Wm F R w0 [] mb (upL 1 64) ws3 tb forty [] 0 40 w) :
    Calls Tryd.prog 11 #[.pointer (some ⟨mb, 0, none⟩), .pointer (some ⟨tb2, 0, none⟩), .int .i64 256, .slice none 0 0, .slice none 0 0] w fun e w' => e = .returned (.tuple #[.slice none 0 0, .int .i64 2]) ∧ w = w' := by
  obtain ⟨own, town, g1, g2, g3, g4⟩ := hW.ex
  exact seal_arg F R mb _ _ own tb2 256 none 0 0 none 0 0 w g1 (by omega)
theorem new_nil (F R : List Int) (w : World) : Calls Tryd.prog 9 #[.slice none 0 0] w fun e w' => ∃ tb, e = .returned (.pointer (some ⟨tb, 0, none⟩)) ∧ Below w.heap.size w w' := by
  refine (new_tp F R none 0 0 [] w rfl (Rd.none_ w) (by simp)).mono ?_
  rintro e w' ⟨tb, h1, h2, h3, h4⟩
  exact ⟨tb, h1, h4⟩
theorem eqb_true (A B : Option Addr) (n c m d : Nat) (xs ys : List Int) (w : World) (hn : n = xs.length) (hx : Rd w A c xs) (hm : m = ys.length) (hy : Rd w B d ys) (he : strOfNums xs = strOfNums ys) :
    Calls Tryd.prog 13 #[.slice A n c, .slice B m d] w fun e w' => e = .returned (.bool true) ∧ w = w' := by
  have h := eqb_any A B n c m d xs ys w hn hx hm hy
  rw [he, str_self] at h
  exact h
end Go.Proofs.YtiboflejmnjdhaaDoor
end
section
set_option linter.unusedVariables false
set_option linter.unusedSimpArgs false
set_option maxRecDepth 100000
namespace Go.Proofs.YtiboflejmnjdhaaDoor
open Go Go.RowKit Go.Conc
set_option maxHeartbeats 4000000 in
theorem works_any (F R : List Int) (w : World) (hTb : Tabs F R w) :
    Calls Tryd.prog 7 #[] w fun e w' => e = .returned (.bool true) ∧ Below w.heap.size w w' := by
  have HTb := Lib.hid hTb
  clear hTb
  have hmk := make31
  go_enter Tryd.func7, Tryd.ntmps7
  go_upto_region 2 with (first
    | (go_at_call 25; go_must (refine (up_any 1 64 w (by omega)).mono ?_; rintro e w1 ⟨A1, c1, rfl, h1, h2⟩; obtain ⟨A2, c2, e1, h3, -⟩ := h1.rd; cases e1; have U1 := Lib.hid h3; have U2 := Lib.hid h2; clear h1 h2 h3))
    | (go_at_call 9; go_must (refine (new_tp F R A1 64 c1 (upL 1 64) w1 (upL_len _ _).symm U1.out (by rw [upL_len]; omega)).mono ?_; rintro e w2 ⟨tb, rfl, h1, h2, h3⟩; have N1 := Lib.hid h1; have N2 := Lib.hid h2; have N3 := Lib.hid h3; clear h1 h2 h3))
    | (go_at_call 24; go_must (have hB := U2.out.trans (N3.out.mono U2.out.size); refine (wm_ideal F R w tb (upL 1 64) w2 (HTb.out.below hB) hB N1.out (Nat.le_trans U2.out.size N2.out) (by rw [upL_len]; omega)).mono ?_; rintro e w3 ⟨mb, rfl, h1, h2⟩; have HW := Lib.hid h1; clear hB h1 h2 N1 N2 N3 U1 U2)))
  go_upto_region 3 with (first
    | (go_at_call 15; go_must (refine (real_err _ _ _ _ (by omega)).mono ?_; rintro e w4 ⟨rfl, rfl⟩)))
  have HWx := Lib.hid (HW.out.step ((Below.refl _ w3).alloc (Nat.le_refl _) (.cells m31 5)))
  clear HW
  generalize World.alloc w3 _ = w4 at *
  have HW := HWx
  clear HWx
  go_upto_region 5 with (first
    | (go_at_call 25; go_must ((first | (have hx := HWs2; clear hx; refine (up_any 1 32 _ (by omega)).mono ?_) | (have hx := HWs1; clear hx; refine (up_any 33 32 _ (by omega)).mono ?_) | refine (up_any 1 32 _ (by omega)).mono ?_); rintro e w1 ⟨A1, c1, rfl, h1, h2⟩; obtain ⟨A2, c2, e1, h3, -⟩ := h1.rd; cases e1; have UB := Lib.hid h3; (first | replace HWs2 := Lib.hid (HWs2.out.step h2) | replace HWs1 := Lib.hid (HWs1.out.step h2) | replace HW := Lib.hid (HW.out.step h2)); clear h1 h2 h3))
    | (go_at_call 26; go_must (first
      | (refine (named_w2 F R w mb tb _ _ _ HWs2.out UB.out).mono ?_; rintro e wn ⟨rfl, h1⟩; replace HWs2 := Lib.hid h1; clear h1 UB)
      | (refine (named_w1 F R w mb tb _ _ _ HWs1.out UB.out).mono ?_; rintro e wn ⟨rfl, h1⟩; have HWs2 := Lib.hid h1; clear h1 UB HWs1)
      | (refine (named_w0 F R w mb tb _ _ _ HW.out UB.out).mono ?_; rintro e wn ⟨rfl, h1⟩; have HWs1 := Lib.hid h1; clear h1 UB HW))))
  go_wp2
  go_loopw [5, 6] (fun v i wr => ∃ (k : Nat) (A : Option Addr) (c : Nat), k ≤ 40 ∧ i = .int .i64 k ∧ v = .slice A k c ∧ Hid (Own wr wn.heap.size (.slice A k c) (List.replicate k 170)) ∧ Below wn.heap.size wn wr) (fun _ i _ => 40 - (intOf i).toNat)
  case atStart => exact ⟨0, none, 0, by omega, rfl, rfl, Lib.hid (Own.nil _ _), Below.refl _ _⟩
  case round =>
    obtain ⟨k, A, c, hk, rfl, rfl, Ho, hB⟩ := hrel
    by_cases hlt : k < 40
    · go_wp2_with (at_builtin; go_must (refine app_rd rfl _ _ rfl wn.heap.size (.slice A k c) (List.replicate k 170) rfl (Ho.out.alloc _) _ _ _ [170] rfl rfl (Rd.new1 wr _ _ _) (k + 1) (by simp) (by simp; omega) (by simp; have := hB.size; omega) ?_; intro A' c' w1 ho hg hat; have Ho2 := Lib.hid ho; have Hg := Lib.hid hg; clear ho hg hat))
      go_roundw
      case rel => exact ⟨k + 1, A', c', by omega, by go_num, rfl, by rw [show List.replicate (k + 1) (170 : Int) = List.replicate k 170 ++ [170] from List.replicate_succ']; exact Ho2, (hB.alloc hB.size _).grown Hg.out (by simp; have := hB.size; omega) (fun j hj => (Ho.out.lt j hj).1)⟩
      case measure => simp [intOf]; omega
    · obtain rfl : k = 40 := by omega
      have HF := Lib.hid Ho.out.rd'
      have HW := Lib.hid (HWs2.out.step hB)
      clear Ho hB HWs2
      have hcs := conv_h
      go_wp2_with (first
        | (go_at_call 25; go_must (refine (up_any 9 12 wr (by omega)).mono ?_; rintro e wu ⟨Ap, cp, rfl, h1, h2⟩; have UP := Lib.hid h1.rd'; have UF := Lib.hid (HF.out.below h2); have HWu := Lib.hid (HW.out.step h2); clear h1 h2 HW HF))
        | (go_at_call 9; go_must (first
          | (have hx := HO2; clear hx; refine (new_nil F R _).mono ?_; rintro e wy ⟨tb3, rfl, h2⟩; have HWy := Lib.hid (HW8.out.step h2); have GB3 := Lib.hid (GB2.out.below h2); have GX3 := Lib.hid (GX2.out.below h2); have GF3 := Lib.hid (GF2.out.below h2); have GP3 := Lib.hid (GP2.out.below h2); clear h2 HW8 GB2 GX2 GF2 GP2 HO2)
          | (refine (wm_new F R w [] mb (upL 1 64) ws2 tb (upL 1 64) (upL 1 64) 0 0 A 40 c forty wu HWu.out (by simp) UF.out (by simp)).mono ?_; rintro e wv ⟨tb2, rfl, h1, -, h2⟩; have HT1 := Lib.hid h1; have VP := Lib.hid (UP.out.below h2); have VF := Lib.hid (UF.out.below h2); clear h1 h2 UP UF HWu)))
        | (go_at_call 11; go_must (first
          | (have hx := GB3; clear hx; refine (seal_256 F R w mb tb2 tb3 _ HWy.out).mono ?_; rintro e wz ⟨rfl, rfl⟩)
          | (refine (seal_w F R w mb tb2 _ 1 Ap cp _ (HT1.out.step (below_one wv _)) (Rd.new1 wv 104 _ _) (VP.out.alloc _)).mono ?_; rintro e w5 ⟨A5, c5, rfl, h1, h2, h3⟩; have HS5 := Lib.hid h2; have B5 := Lib.hid h1; have P5 := Lib.hid (h3.rd _ _ _ (VP.out.alloc _)); have F5 := Lib.hid (h3.rd _ _ _ (VF.out.alloc _)); clear h1 h2 h3 HT1 VP VF)))
        | (go_at_call 12; go_must (first
          | (have hx := HX1; clear hx; refine (open_w4 F R w mb tb2 _ 1 A5 c5 _ (HW7.out.step (below_one w7 _)) (Rd.new1 w7 104 _ _) (GB.out.alloc _)).mono ?_; rintro e w8 ⟨A8, n8, c8, rfl, h1⟩; have HW8 := Lib.hid ((HW7.out.step (below_one w7 _)).step h1); have GB2 := Lib.hid ((GB.out.alloc _).below h1); have GX2 := Lib.hid ((GX.out.alloc _).below h1); have GF2 := Lib.hid ((GF.out.alloc _).below h1); have GP2 := Lib.hid ((GP.out.alloc _).below h1); have HO2 := Lib.hid trivial; clear h1 GB GX GF GP HW7 HX1)
          | (refine (open_w3 F R w mb tb2 _ 1 A5 c5 _ (HS5.out.step (below_one w5 _)) (Rd.new1 w5 104 _ _) (B5.out.alloc _)).mono ?_; rintro e w7 ⟨A7, n7, c7, rfl, xs7, hn7, hr7, hs7, h1⟩; have HW7 := Lib.hid ((HS5.out.step (below_one w5 _)).step h1); have GB := Lib.hid ((B5.out.alloc _).below h1); have GX := Lib.hid hr7; have GF := Lib.hid ((F5.out.alloc _).below h1); have GP := Lib.hid ((P5.out.alloc _).below h1); have HX1 := Lib.hid hs7; have HXn := Lib.hid hn7; have HXs := Lib.hid hs7; clear h1 hr7 hs7 hn7 HS5 B5 F5 P5)))
        | (go_at_call 13; go_must (first
          | (have hx := HE1; clear hx; refine (eqb_true A7 Ap n7 c7 12 cp xs7 (upL 9 12) _ HXn.out GX3.out (upL_len _ _).symm GP3.out HXs.out).mono ?_; rintro e wq ⟨rfl, rfl⟩)
          | (refine (eqb_true A5 A 40 c5 40 c forty forty _ (by simp) GB3.out (by simp) GF3.out rfl).mono ?_; rintro e wq ⟨rfl, rfl⟩; have HE1 := Lib.hid trivial)))
        | (go_at_call 17; go_must (refine (len_w3 F R w mb tb2 _ HWy.out).mono ?_; rintro e wq ⟨rfl, rfl⟩)))
      go_ret
      exact ⟨rfl, HWy.out.below⟩
end Go.Proofs.YtiboflejmnjdhaaDoor
end
