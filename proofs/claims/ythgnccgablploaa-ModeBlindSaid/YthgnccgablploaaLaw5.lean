/- A mode and a tape side by side. -/
import Derived.Test.YthgnccgablploaaLaw4
set_option linter.unusedVariables false
set_option linter.unusedSimpArgs false
set_option maxRecDepth 100000
namespace Go.Proofs.Ythgnccgablploaa
open Go Go.RowKit Go.Conc
theorem tFill_len (F R seed l : List Int) (p : Nat) : (tFill F R seed l p).1.length ≤ max l.length 32 := by
  unfold tFill
  split
  · simp only [blkOf_len]; omega
  · show l.length ≤ _; omega
theorem tGo_bound (F R seed : List Int) (n : Nat) : ∀ (f : Nat) (o l : List Int) (p : Nat), (tGo F R seed n f o l p).2.2 ≤ p + f ∧ (tGo F R seed n f o l p).2.1.length ≤ max l.length 32 := by
  intro f
  induction f with
  | zero => intro o l p; simp only [tGo]; omega
  | succ f ih =>
    intro o l p
    rw [tGo]
    split
    · have h := ih (o ++ (tFill F R seed l p).1.take (min (n - o.length) (tFill F R seed l p).1.length)) ((tFill F R seed l p).1.drop (min (n - o.length) (tFill F R seed l p).1.length)) (tFill F R seed l p).2
      have h1 := tFill_le F R seed l p
      have h2 := tFill_len F R seed l p
      have h3 := h.2
      rw [List.length_drop] at h3
      exact ⟨by omega, by omega⟩
    · exact ⟨by show p ≤ _; omega, by show l.length ≤ _; omega⟩
theorem tDraw_bound (F R seed : List Int) (n : Nat) (l : List Int) (p : Nat) : (tDraw F R seed n l p).2.2 ≤ p + n ∧ (tDraw F R seed n l p).2.1.length ≤ max l.length 32 := tGo_bound F R seed n n [] l p
theorem tDraw_short (F R seed : List Int) (n : Nat) (l : List Int) (p : Nat) (h0 : 0 < n) (h : n ≤ l.length) : tDraw F R seed n l p = (l.take n, l.drop n, p) := by
  obtain ⟨f, rfl⟩ : ∃ f, n = f + 1 := ⟨n - 1, by omega⟩
  have hf : tFill F R seed l p = (l, p) := by unfold tFill; rw [if_neg (by omega)]
  unfold tDraw
  rw [tGo, if_pos (by simp), hf]
  simp only [List.length_nil, Nat.sub_zero, List.nil_append]
  rw [Nat.min_eq_left h, tGo_full _ _ _ _ _ _ _ _ (by simp; omega)]
/-- An ideal mode and a tape beside it, their blocks new since w0 and none of Pr. -/
structure Wm (F R : List Int) (w0 : World) (Pr : List Nat) (mb : Nat) (seed : List Int) (s : St) (tb : Nat) (tseed tleft : List Int) (tp tat : Nat) (w : World) : Prop where
  tabs : Tabs F R w
  below : Below w0.heap.size w0 w
  ex : ∃ own town, IsMd F R w mb seed s own ∧ IsTp F R w tb tseed tleft tp tat town ∧ (∀ b ∈ own, b ∉ town) ∧ (∀ b, b ∈ own ∨ b ∈ town → w0.heap.size ≤ b ∧ b ∉ Pr)
  prl : ∀ b ∈ Pr, b < w.heap.size
/-- What the other blocks keep. -/
structure Kept (Pr : List Nat) (w w' : World) : Prop where
  size : w.heap.size ≤ w'.heap.size
  rd : ∀ A c xs, Rd w A c xs → Rd w' A c xs
  pr : ∀ b ∈ Pr, b < w.heap.size → w'.heap[b]? = w.heap[b]?
theorem Kept.of_below {Pr : List Nat} {w w' : World} (h : Below w.heap.size w w') : Kept Pr w w' := ⟨h.size, fun A c xs hr => hr.below h, fun b _ hl => h.block b hl⟩
theorem Wm.step {F R : List Int} {w0 : World} {Pr : List Nat} {mb : Nat} {seed : List Int} {s : St} {tb : Nat} {tseed tleft : List Int} {tp tat : Nat} {w w' : World} (h : Wm F R w0 Pr mb seed s tb tseed tleft tp tat w) (hb : Below w.heap.size w w') : Wm F R w0 Pr mb seed s tb tseed tleft tp tat w' := by
  obtain ⟨own, town, h1, h2, h3, h4⟩ := h.ex
  exact ⟨h.tabs.below hb, h.below.trans (hb.mono h.below.size), ⟨own, town, h1.below hb, h2.below hb, h3, h4⟩, fun b hbb => Nat.lt_of_lt_of_le (h.prl b hbb) hb.size⟩
/-- Other protected blocks. -/
theorem Wm.prot {F R : List Int} {w0 : World} {Pr Pr' : List Nat} {mb : Nat} {seed : List Int} {s : St} {tb : Nat} {tseed tleft : List Int} {tp tat : Nat} {w w' : World} (h : Wm F R w0 Pr mb seed s tb tseed tleft tp tat w) (hk : Kp Pr w w') (hsz : ∀ b ∈ Pr, Hard w b) (hp : ∀ b ∈ Pr', (b ∈ Pr ∨ w.heap.size ≤ b) ∧ b < w'.heap.size) (hw : ∀ b ∈ Pr, w0.heap.size ≤ b) : Wm F R w0 Pr' mb seed s tb tseed tleft tp tat w' := by
  obtain ⟨own, town, h1, h2, h3, h4⟩ := h.ex
  refine ⟨h.tabs.hard hk hsz, ?_, ⟨own, town, h1.keep hk hsz (fun b hb => (h4 b (.inl hb)).2), h2.keep hk hsz (fun b hb => (h4 b (.inr hb)).2), h3, fun b hb => ⟨(h4 b hb).1, fun hx => ?_⟩⟩, fun b hb => (hp b hb).2⟩
  · exact h.below.trans (hk.below h.below.size hw)
  · rcases (hp b hx).1 with h5 | h5
    · exact (h4 b hb).2 h5
    · rcases hb with hb | hb
      · have := (h1.blocks b hb).2; omega
      · have := (h2.blocks b hb).2; omega
theorem wm_ideal (F R : List Int) (w0 : World) (tb : Nat) (seed : List Int) (w : World) (hTb : Tabs F R w) (hB : Below w0.heap.size w0 w) (hT : IsTp F R w tb seed seed 0 0 [tb]) (htb : w0.heap.size ≤ tb) (hl : seed.length ≤ 10000000) :
    Calls Try.prog 5 #[.pointer (some ⟨tb, 0, none⟩)] w fun e w' => ∃ mb, e = .returned (.tuple #[.pointer (some ⟨mb, 0, none⟩), .int .i64 0]) ∧ Wm F R w0 [] mb seed ⟨seed, 0, 0, [], []⟩ tb seed seed 0 0 w' ∧ Kept [] w w' := by
  refine (ideal_any F R tb seed seed 0 0 [tb] w hT (by omega) (by omega)).mono ?_
  rintro e w' ⟨mb, rfl, hN⟩
  obtain ⟨mown, town, h1, h2, h3, h4, h5⟩ := hN.ex
  have hh : ∀ b ∈ [tb], Hard w b := fun b hb => (hT.blocks b hb).1
  have hsz := hB.size
  refine ⟨mb, rfl, ⟨hTb.hard hN.kp hh, hB.trans (hN.kp.below hB.size (by simpa using htb)), ⟨mown, town, h1, h2, h3, ?_⟩, by simp⟩, ⟨hN.kp.size, fun A c xs hr => hr.hard hN.kp hh, by simp⟩⟩
  rintro b (hb | hb)
  · exact ⟨Nat.le_trans hsz (h4 b hb), by simp⟩
  · refine ⟨?_, by simp⟩
    rcases h5 b hb with h | h
    · simp at h; omega
    · omega
theorem wm_new (F R : List Int) (w0 : World) (Pr : List Nat) (mb : Nat) (seed : List Int) (s : St) (tb : Nat) (tseed tleft : List Int) (tp tat : Nat) (A : Option Addr) (n c : Nat) (xs : List Int) (w : World) (hW : Wm F R w0 Pr mb seed s tb tseed tleft tp tat w) (hn : n = xs.length) (hr : Rd w A c xs) (hl : xs.length ≤ 65536) :
    Calls Try.prog 6 #[.slice A n c] w fun e w' => ∃ tb', e = .returned (.pointer (some ⟨tb', 0, none⟩)) ∧ Wm F R w0 Pr mb seed s tb' xs xs 0 0 w' ∧ Wm F R w0 Pr mb seed s tb tseed tleft tp tat w' ∧ Below w.heap.size w w' := by
  refine (new_tp F R A n c xs w hn hr hl).mono ?_
  rintro e w' ⟨tb', rfl, h1, h2, h3⟩
  have hS := hW.step h3
  obtain ⟨own, town, g1, g2, g3, g4⟩ := hW.ex
  have hsz := hW.below.size
  refine ⟨tb', rfl, ⟨hS.tabs, hS.below, ⟨own, [tb'], g1.below h3, h1, ?_, ?_⟩, hS.prl⟩, hS, h3⟩
  · intro b hb hx
    obtain rfl : b = tb' := by simpa using hx
    have := (g1.blocks b hb).2
    omega
  · rintro b (hb | hb)
    · exact g4 b (.inl hb)
    · obtain rfl : b = tb' := by simpa using hb
      exact ⟨by omega, fun hx => by have := hW.prl b hx; omega⟩
theorem wm_named (F R : List Int) (w0 : World) (Pr : List Nat) (mb : Nat) (seed : List Int) (s : St) (tb : Nat) (tseed tleft : List Int) (tp tat : Nat) (k : ByteArray) (B : Option Addr) (m d : Nat) (ys : List Int) (w : World) (hW : Wm F R w0 Pr mb seed s tb tseed tleft tp tat w)
    (hl : seed.length ≤ 10000000000000) (hll : s.left.length ≤ 10000000000000) (hp : s.p ≤ 9007199254600000) (hat : s.at_ ≤ 9007199254600000) (hks : k.size ≤ 1000) (hm : m = ys.length) (hy : Rd w B d ys) :
    Calls Try.prog 23 #[.pointer (some ⟨mb, 0, none⟩), .string k, .slice B m d] w fun e w' => e = .returned (.bool (decide (strOfNums (inm F R seed s k).1 = strOfNums ys))) ∧ Wm F R w0 Pr mb seed (inm F R seed s k).2 tb tseed tleft tp tat w' ∧ Kept Pr w w' := by
  obtain ⟨own, town, g1, g2, g3, g4⟩ := hW.ex
  refine (named_any F R mb seed s own k B m d ys w hW.tabs g1 hl hll hp hat hks hm hy).mono ?_
  rintro e w' ⟨h1, ⟨own', h2, h3⟩, h4⟩
  have hh : ∀ b ∈ own, Hard w b := fun b hb => (g1.blocks b hb).1
  have hsz := hW.below.size
  refine ⟨h1, ⟨hW.tabs.hard h4 hh, hW.below.trans (h4.below hW.below.size (fun b hb => (g4 b (.inl hb)).1)), ⟨own', town, h2, g2.keep h4 hh (fun b hb hx => g3 b hx hb), ?_, ?_⟩, fun b hb => Nat.lt_of_lt_of_le (hW.prl b hb) h4.size⟩, ⟨h4.size, fun A c xs hr => hr.hard h4 hh, fun b hb hl => h4.block b hl (fun hx => (g4 b (.inl hx)).2 hb)⟩⟩
  · intro b hb hx
    rcases h3 b hb with h | h
    · exact g3 b h hx
    · have := (g2.blocks b hx).2; omega
  · rintro b (hb | hb)
    · rcases h3 b hb with h | h
      · exact g4 b (.inl h)
      · exact ⟨by omega, fun hx => by have := hW.prl b hx; omega⟩
    · exact g4 b (.inr hb)
theorem wm_name (F R : List Int) (w0 : World) (Pr : List Nat) (mb : Nat) (seed : List Int) (s : St) (tb : Nat) (tseed tleft : List Int) (tp tat : Nat) (kA : Option Addr) (kn kc : Nat) (key : List Int) (w : World) (hW : Wm F R w0 Pr mb seed s tb tseed tleft tp tat w)
    (hl : seed.length ≤ 10000000000000) (hll : s.left.length ≤ 10000000000000) (hp : s.p ≤ 9007199254600000) (hat : s.at_ ≤ 9007199254600000) (hkn : kn = key.length) (hk : Rd w kA kc key) :
    Calls Try.prog 14 #[.pointer (some ⟨mb, 0, none⟩), .slice kA kn kc] w fun e w' => e = .returned (.tuple #[vvn (inm F R seed s (strOfNums key)).1, .int .i64 0]) ∧ (inm F R seed s (strOfNums key)).1.length = 32 ∧ Wm F R w0 Pr mb seed (inm F R seed s (strOfNums key)).2 tb tseed tleft tp tat w' ∧ ∃ own, (∀ b ∈ own, Hard w b ∧ w0.heap.size ≤ b ∧ b ∉ Pr) ∧ (IsMd F R w mb seed s own) ∧ Kp own w w' := by
  obtain ⟨own, town, g1, g2, g3, g4⟩ := hW.ex
  refine (mname_any F R mb seed s own kA kn kc key w hW.tabs g1 hl hll hp hat hkn hk).mono ?_
  rintro e w' ⟨h1, h0, ⟨own', h2, h3⟩, h4⟩
  have hh : ∀ b ∈ own, Hard w b := fun b hb => (g1.blocks b hb).1
  have hsz := hW.below.size
  refine ⟨h1, h0, ⟨hW.tabs.hard h4 hh, hW.below.trans (h4.below hW.below.size (fun b hb => (g4 b (.inl hb)).1)), ⟨own', town, h2, g2.keep h4 hh (fun b hb hx => g3 b hx hb), ?_, ?_⟩, fun b hb => Nat.lt_of_lt_of_le (hW.prl b hb) h4.size⟩, own, fun b hb => ⟨hh b hb, (g4 b (.inl hb)).1, (g4 b (.inl hb)).2⟩, g1, h4⟩
  · intro b hb hx
    rcases h3 b hb with h | h
    · exact g3 b h hx
    · have := (g2.blocks b hx).2; omega
  · rintro b (hb | hb)
    · rcases h3 b hb with h | h
      · exact g4 b (.inl h)
      · exact ⟨by omega, fun hx => by have := hW.prl b hx; omega⟩
    · exact g4 b (.inr hb)
theorem wm_seal (F R : List Int) (w0 : World) (Pr : List Nat) (mb : Nat) (seed : List Int) (s : St) (tb : Nat) (tseed tleft : List Int) (tp tat : Nat) (ep : Int) (hA : Option Addr) (hn hc : Nat) (hd : List Int) (pA : Option Addr) (pn pc : Nat) (pl : List Int) (w : World) (hW : Wm F R w0 Pr mb seed s tb tseed tleft tp tat w)
    (hl : tseed.length ≤ 10000000000000) (hll : tleft.length ≤ 10000000000000) (hp : tp ≤ 9007199254600000) (hat : tat ≤ 9007199254600000) (he0 : 0 ≤ ep) (he1 : ep ≤ 255) (hhn : hn = hd.length) (hh : Rd w hA hc hd) (hhm : hn ≤ 4096) (hpn : pn = pl.length) (hpl : Rd w pA pc pl) (hpm : pn ≤ 4096) :
    Calls Try.prog 8 #[.pointer (some ⟨mb, 0, none⟩), .pointer (some ⟨tb, 0, none⟩), .int .i64 ep, .slice hA hn hc, .slice pA pn pc] w fun e w' => ∃ A c, e = .returned (.tuple #[.slice A (pn + 28) c, .int .i64 0]) ∧ Rd w' A c (tDraw F R tseed (pn + 28) tleft tp).1 ∧ (∀ a, A = some a → w.heap.size ≤ a.block) ∧
      Wm F R w0 Pr mb seed { s with bx := mput (ep, strOfNums hd, strOfNums (tDraw F R tseed (pn + 28) tleft tp).1) (strOfNums pl) s.bx } tb tseed (tDraw F R tseed (pn + 28) tleft tp).2.1 (tDraw F R tseed (pn + 28) tleft tp).2.2 (tat + (pn + 28)) w' ∧ Kept Pr w w' := by
  obtain ⟨own, town, g1, g2, g3, g4⟩ := hW.ex
  refine (seal_any F R mb seed s own tb tseed tleft tp tat town ep hA hn hc hd pA pn pc pl w hW.tabs g1 g2 g3 hl hll hp hat he0 he1 hhn hh hhm hpn hpl hpm).mono ?_
  rintro e w' ⟨A, c, h1, hO⟩
  have hx : ∀ b, b ∈ own ++ town → b ∈ own ∨ b ∈ town := fun b hb => List.mem_append.1 hb
  have hhd : ∀ b ∈ own ++ town, Hard w b := fun b hb => (hx b hb).elim (fun h => (g1.blocks b h).1) (fun h => (g2.blocks b h).1)
  have hsz := hW.below.size
  obtain ⟨own', town', q1, q2, q3, q4, q5⟩ := hO.ex
  have hb0 := hO.box
  rw [← hpn] at q1 q2 hb0
  have h4 := hO.kp
  refine ⟨A, c, h1, hb0, hO.new, ⟨hW.tabs.hard h4 hhd, hW.below.trans (h4.below hW.below.size (fun b hb => (g4 b (hx b hb)).1)), ⟨own', town', q2, q1, q3, ?_⟩, fun b hb => Nat.lt_of_lt_of_le (hW.prl b hb) h4.size⟩, ⟨h4.size, fun A c xs hr => hr.hard h4 hhd, fun b hb hl => h4.block b hl (fun hxx => (g4 b (hx b hxx)).2 hb)⟩⟩
  rintro b (hb | hb)
  · rcases q4 b hb with h | h
    · exact g4 b (.inl h)
    · exact ⟨by omega, fun hx => by have := hW.prl b hx; omega⟩
  · rcases q5 b hb with h | h
    · exact g4 b (.inr h)
    · exact ⟨by omega, fun hx => by have := hW.prl b hx; omega⟩
end Go.Proofs.Ythgnccgablploaa
