/- The ideal mode: what it holds. -/
import Derived.Test.YthgnccgablploaaMode6
set_option linter.unusedVariables false
set_option linter.unusedSimpArgs false
set_option maxRecDepth 100000
namespace Go.Proofs.Ythgnccgablploaa
open Go Go.RowKit Go.Conc
/-- Neither a byte nor a word of 32 bits lies in this block. -/
def Hard (w : World) (b : Nat) : Prop := ∀ off q x, (q = IntKind.u8 ∨ q = IntKind.u32) → w.cell? ⟨b, off, none⟩ ≠ some (.int q x)
theorem Hard.noByte {w : World} {b : Nat} (h : Hard w b) : NoByte w b := fun off x => h off _ x (.inl rfl)
theorem hard_chan {w : World} {b : Nat} {k0 : Nat} {b0 : Array Value} {l0 : Bool} {s0 r0 : Nat} {m0 : Bool} (hc : w.heap[b]? = some (.chan k0 b0 l0 s0 r0 m0)) : Hard w b := by
  intro off q x _ h
  simp [World.cell?, hc] at h
theorem hard_map {w : World} {b : Nat} {es : Array MapEntry} {c : Nat} (hc : w.heap[b]? = some (.map es c)) : Hard w b := by
  intro off q x _ h
  simp [World.cell?, hc] at h
theorem hard_cells {w : World} {b : Nat} {cs : Array Value} {t : TypeId} {f : Nat × Nat} (h : w.heap[b]? = some (.cells cs t f)) (hn : ∀ v ∈ cs, ∀ q x, (q = IntKind.u8 ∨ q = IntKind.u32) → v ≠ .int q x) : Hard w b := by
  intro off q x hq hx
  simp only [World.cell?, h] at hx
  have hx : cs[off]? = some (.int q x) := hx
  exact hn _ (Array.mem_of_getElem? hx) q x hq rfl
theorem Rd.hard {S : List Nat} {w w' : World} {A : Option Addr} {c : Nat} {xs : List Int} (h : Rd w A c xs) (hk : Kp S w w') (hS : ∀ b ∈ S, Hard w b) : Rd w' A c xs := h.apart hk fun b hb => (hS b hb).noByte
theorem Tabs.hard {F R : List Int} {S : List Nat} {w w' : World} (h : Tabs F R w) (hk : Kp S w w') (hS : ∀ b ∈ S, Hard w b) : Tabs F R w' := by
  refine h.kp hk (fun hb => ?_) (fun hb => ?_)
  · exact hS _ hb 0 _ _ (.inr rfl) (cell_w32 h.f 0 (by rw [h.fl]; omega))
  · exact hS _ hb 0 _ _ (.inr rfl) (cell_w32 h.r 0 (by rw [h.rl]; omega))
/-- A tape's blocks. -/
theorem IsT.hard {F R : List Int} {w : World} {tb : Nat} {ch : Option Nat} {sA : Option Addr} {sc : Nat} {seed left : List Int} {p at_ : Nat} (h : IsT F R w tb ch sA sc seed left p at_) : ∀ b ∈ tb :: ch.toList, Hard w b := by
  obtain ⟨lA, lc, q, bg, h1, h2, h3, h4⟩ := h.row
  intro b hb
  rcases List.mem_cons.1 hb with rfl | hb
  · refine hard_cells h1 ?_
    intro v hv q x hq
    simp only [trow, List.mem_toArray, List.mem_cons, List.not_mem_nil, or_false] at hv
    rcases hv with rfl | rfl | rfl | rfl | rfl | rfl <;> rcases hq with rfl | rfl <;> simp
  · cases ch with
    | none => simp at hb
    | some cb =>
      obtain ⟨_, s, r, h6⟩ := h4
      obtain rfl : b = cb := by simpa using hb
      exact hard_chan h6
theorem IsT.keep {F R : List Int} {S : List Nat} {w w' : World} {tb : Nat} {ch : Option Nat} {sA : Option Addr} {sc : Nat} {seed left : List Int} {p at_ : Nat} (h : IsT F R w tb ch sA sc seed left p at_) (hk : Kp S w w') (hS : ∀ b ∈ S, Hard w b) (hd : ∀ b ∈ tb :: ch.toList, b ∉ S) : IsT F R w' tb ch sA sc seed left p at_ := by
  obtain ⟨lA, lc, q, bg, h1, h2, h3, h4⟩ := h.row
  exact ⟨lA, lc, q, bg, hk.at_ h1 (hd _ (by simp)), h2.hard hk hS, h3.hard hk hS, h4.kp hk (fun c e => hd c (by simp [e]))⟩
theorem IsT.inn {F R : List Int} {w : World} {tb : Nat} {ch : Option Nat} {sA : Option Addr} {sc : Nat} {seed left : List Int} {p at_ : Nat} (h : IsT F R w tb ch sA sc seed left p at_) : ∀ b ∈ tb :: ch.toList, b < w.heap.size := by
  obtain ⟨lA, lc, q, bg, h1, h2, h3, h4⟩ := h.row
  intro b hb
  rcases List.mem_cons.1 hb with rfl | hb
  · exact blk_lt h1
  · cases ch with
    | none => simp at hb
    | some cb =>
      obtain ⟨_, s, r, h6⟩ := h4
      obtain rfl : b = cb := by simpa using hb
      exact blk_lt h6
theorem IsTb.keep {K V : Type} {S : List Nat} {w w' : World} {mr : Option Nat} {kv : K → Value} {vv : V → Value} {m : List (K × V)} (h : IsTb w mr kv vv m) (hk : Kp S w w') (hd : ∀ r, mr = some r → r ∉ S) : IsTb w' mr kv vv m := by
  cases mr with
  | none => exact h
  | some r =>
    obtain ⟨es, cl, h1, h2⟩ := h
    exact ⟨es, cl, hk.at_ h1 (hd r rfl), h2⟩
theorem IsTb.hard {K V : Type} {w : World} {mr : Option Nat} {kv : K → Value} {vv : V → Value} {m : List (K × V)} (h : IsTb w mr kv vv m) : ∀ b ∈ mr.toList, Hard w b ∧ b < w.heap.size := by
  cases mr with
  | none => simp
  | some r =>
    obtain ⟨es, cl, h1, h2⟩ := h
    intro b hb
    obtain rfl : b = r := by simpa using hb
    exact ⟨hard_map h1, blk_lt h1⟩
/-- What an ideal mode is, but for its blocks. -/
structure St where
  left : List Int
  p : Nat
  at_ : Nat
  nm : List (ByteArray × List Int)
  bx : List (BK × ByteArray)
def irow (tb : Nat) (mn mb : Option Nat) : Array Value := #[.pointer (some ⟨tb, 0, none⟩), .map mn, .map mb]
structure IsI (F R : List Int) (w : World) (ib : Nat) (seed : List Int) (s : St) (own : List Nat) : Prop where
  ex : ∃ tb ch sA sc mn mb, own = ib :: (tb :: ch.toList) ++ (mn.toList ++ mb.toList) ∧ w.heap[ib]? = some (.cells (irow tb mn mb) 57 (0, 0)) ∧ IsT F R w tb ch sA sc seed s.left s.p s.at_ ∧ IsTb w mn Value.string vvn s.nm ∧ IsTb w mb kvb Value.string s.bx ∧ (∀ r, mn = some r → mb ≠ some r)
  len : ∀ k v, mget k s.nm = some v → v.length = 32
  lenb : ∀ k v, mget k s.bx = some v → v.size ≤ 65536
theorem hard_irow {w : World} {ib tb : Nat} {mn mb : Option Nat} {t : TypeId} {f : Nat × Nat} (h : w.heap[ib]? = some (.cells (irow tb mn mb) t f)) : Hard w ib := by
  refine hard_cells h ?_
  intro v hv q x hq
  simp only [irow, List.mem_toArray, List.mem_cons, List.not_mem_nil, or_false] at hv
  rcases hv with rfl | rfl | rfl <;> simp
theorem IsI.blocks {F R : List Int} {w : World} {ib : Nat} {seed : List Int} {s : St} {own : List Nat} (h : IsI F R w ib seed s own) : ∀ b ∈ own, Hard w b ∧ b < w.heap.size := by
  obtain ⟨tb, ch, sA, sc, mn, mb, rfl, h1, h2, h3, h4, h5⟩ := h.ex
  intro b hb
  simp only [List.cons_append, List.mem_cons, List.mem_append] at hb
  rcases hb with rfl | rfl | hb | hb | hb
  · exact ⟨hard_irow h1, blk_lt h1⟩
  · exact ⟨h2.hard _ (by simp), h2.inn _ (by simp)⟩
  · exact ⟨h2.hard _ (by simp [hb]), h2.inn _ (by simp [hb])⟩
  · exact h3.hard b hb
  · exact h4.hard b hb
theorem IsI.keep {F R : List Int} {S : List Nat} {w w' : World} {ib : Nat} {seed : List Int} {s : St} {own : List Nat} (h : IsI F R w ib seed s own) (hk : Kp S w w') (hS : ∀ b ∈ S, Hard w b) (hd : ∀ b ∈ own, b ∉ S) : IsI F R w' ib seed s own := by
  obtain ⟨tb, ch, sA, sc, mn, mb, rfl, h1, h2, h3, h4, h5⟩ := h.ex
  refine ⟨⟨tb, ch, sA, sc, mn, mb, rfl, hk.at_ h1 (hd _ (by simp)), h2.keep hk hS (fun b hb => hd b ?_), h3.keep hk (fun r e => hd r ?_), h4.keep hk (fun r e => hd r ?_), h5⟩, h.len, h.lenb⟩
  · simp only [List.mem_cons] at hb
    simp only [List.cons_append, List.mem_cons, List.mem_append]
    rcases hb with hb | hb <;> simp [hb]
  · simp [e]
  · simp [e]
theorem IsI.below {F R : List Int} {w w' : World} {ib : Nat} {seed : List Int} {s : St} {own : List Nat} (h : IsI F R w ib seed s own) (hk : Below w.heap.size w w') : IsI F R w' ib seed s own := h.keep (Kp.of_below (S := []) hk) (by simp) (by simp)
end Go.Proofs.Ythgnccgablploaa
