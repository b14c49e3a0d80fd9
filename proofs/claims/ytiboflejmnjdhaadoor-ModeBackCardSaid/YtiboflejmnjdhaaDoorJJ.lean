/- The ideal mode: what it holds. -/
import Derived.Test.YtiboflejmnjdhaaDoorJI
import Derived.Lib.ConvBytes
section
set_option linter.unusedVariables false
set_option linter.unusedSimpArgs false
set_option maxRecDepth 100000
namespace Go.Proofs.YtiboflejmnjdhaaDoor
open Go Go.RowKit Go.Conc
/-- Neither a byte nor a word of 32 bits lies in this block. -/
def Hard (w : World) (b : Nat) : Prop := ∀ off q x, (q = IntKind.u8 ∨ q = IntKind.u32) → w.cell? ⟨b, off, none⟩ ≠ some (.int q x)
theorem Hard.noByte {w : World} {b : Nat} (h : Hard w b) : NoByte w b := fun off x => h off _ x (.inl rfl)
theorem hard_chan {w : World} {b : Nat} {k0 : Nat} {b0 : Array Value} {l0 : Bool} {s0 r0 : Nat} {m0 : Bool} (hc : w.heap[b]? = some (.chan k0 b0 l0 s0 r0 m0)) : Hard w b := by
  intro off q x _ h
  simp [World.cell?, hc] at h
theorem hard_map {w : World} {b : Nat} {es : Array MapEntry} {c : Nat} (hc : w.heap[b]? = some (.map es c)) : Hard w b := by
  intro off q x _ h
  simp [World.cell?, hc] at h
theorem hard_cells {w : World} {b : Nat} {cs : Array Value} {t : TypeId} {f : Nat × Nat} (h : w.heap[b]? = some (.cells cs t f)) (hn : ∀ v ∈ cs, ∀ q x, (q = IntKind.u8 ∨ q = IntKind.u32) → v ≠ .int q x) : Hard w b := by
  intro off q x hq hx
  simp only [World.cell?, h] at hx
  have hx : cs[off]? = some (.int q x) := hx
  exact hn _ (Array.mem_of_getElem? hx) q x hq rfl
theorem Rd.hard {S : List Nat} {w w' : World} {A : Option Addr} {c : Nat} {xs : List Int} (h : Rd w A c xs) (hk : Kp S w w') (hS : ∀ b ∈ S, Hard w b) : Rd w' A c xs := h.apart hk fun b hb => (hS b hb).noByte
theorem Tabs.hard {F R : List Int} {S : List Nat} {w w' : World} (h : Tabs F R w) (hk : Kp S w w') (hS : ∀ b ∈ S, Hard w b) : Tabs F R w' := by
  refine h.kp hk (fun hb => ?_) (fun hb => ?_)
  · exact hS _ hb 0 _ _ (.inr rfl) (cell_w32 h.f 0 (by rw [h.fl]; omega))
  · exact hS _ hb 0 _ _ (.inr rfl) (cell_w32 h.r 0 (by rw [h.rl]; omega))
/-- A tape's blocks. -/
theorem IsT.hard {F R : List Int} {w : World} {tb : Nat} {ch : Option Nat} {sA : Option Addr} {sc : Nat} {seed left : List Int} {p at_ : Nat} (h : IsT F R w tb ch sA sc seed left p at_) : ∀ b ∈ tb :: ch.toList, Hard w b := by
  obtain ⟨lA, lc, q, bg, h1, h2, h3, h4⟩ := h.row
  intro b hb
  rcases List.mem_cons.1 hb with rfl | hb
  · refine hard_cells h1 ?_
    intro v hv q x hq
    simp only [trow, List.mem_toArray, List.mem_cons, List.not_mem_nil, or_false] at hv
    rcases hv with rfl | rfl | rfl | rfl | rfl | rfl <;> rcases hq with rfl | rfl <;> simp
  · cases ch with
    | none => simp at hb
    | some cb =>
      obtain ⟨_, s, r, h6⟩ := h4
      obtain rfl : b = cb := by simpa using hb
      exact hard_chan h6
theorem IsT.keep {F R : List Int} {S : List Nat} {w w' : World} {tb : Nat} {ch : Option Nat} {sA : Option Addr} {sc : Nat} {seed left : List Int} {p at_ : Nat} (h : IsT F R w tb ch sA sc seed left p at_) (hk : Kp S w w') (hS : ∀ b ∈ S, Hard w b) (hd : ∀ b ∈ tb :: ch.toList, b ∉ S) : IsT F R w' tb ch sA sc seed left p at_ := by
  obtain ⟨lA, lc, q, bg, h1, h2, h3, h4⟩ := h.row
  exact ⟨lA, lc, q, bg, hk.at_ h1 (hd _ (by simp)), h2.hard hk hS, h3.hard hk hS, h4.kp hk (fun c e => hd c (by simp [e]))⟩
theorem IsT.inn {F R : List Int} {w : World} {tb : Nat} {ch : Option Nat} {sA : Option Addr} {sc : Nat} {seed left : List Int} {p at_ : Nat} (h : IsT F R w tb ch sA sc seed left p at_) : ∀ b ∈ tb :: ch.toList, b < w.heap.size := by
  obtain ⟨lA, lc, q, bg, h1, h2, h3, h4⟩ := h.row
  intro b hb
  rcases List.mem_cons.1 hb with rfl | hb
  · exact blk_lt h1
  · cases ch with
    | none => simp at hb
    | some cb =>
      obtain ⟨_, s, r, h6⟩ := h4
      obtain rfl : b = cb := by simpa using hb
      exact blk_lt h6
theorem IsTb.keep {K V : Type} {S : List Nat} {w w' : World} {mr : Option Nat} {kv : K → Value} {vv : V → Value} {m : List (K × V)} (h : IsTb w mr kv vv m) (hk : Kp S w w') (hd : ∀ r, mr = some r → r ∉ S) : IsTb w' mr kv vv m := by
  cases mr with
  | none => exact h
  | some r =>
    obtain ⟨es, cl, h1, h2⟩ := h
    exact ⟨es, cl, hk.at_ h1 (hd r rfl), h2⟩
theorem IsTb.hard {K V : Type} {w : World} {mr : Option Nat} {kv : K → Value} {vv : V → Value} {m : List (K × V)} (h : IsTb w mr kv vv m) : ∀ b ∈ mr.toList, Hard w b ∧ b < w.heap.size := by
  cases mr with
  | none => simp
  | some r =>
    obtain ⟨es, cl, h1, h2⟩ := h
    intro b hb
    obtain rfl : b = r := by simpa using hb
    exact ⟨hard_map h1, blk_lt h1⟩
/-- What an ideal mode is, but for its blocks. -/
structure St where
  left : List Int
  p : Nat
  at_ : Nat
  nm : List (ByteArray × List Int)
  bx : List (BK × ByteArray)
def irow (tb : Nat) (mn mb : Option Nat) : Array Value := #[.pointer (some ⟨tb, 0, none⟩), .map mn, .map mb]
structure IsI (F R : List Int) (w : World) (ib : Nat) (seed : List Int) (s : St) (own : List Nat) : Prop where
  ex : ∃ tb ch sA sc mn mb, own = ib :: (tb :: ch.toList) ++ (mn.toList ++ mb.toList) ∧ w.heap[ib]? = some (.cells (irow tb mn mb) 122 (0, 0)) ∧ IsT F R w tb ch sA sc seed s.left s.p s.at_ ∧ IsTb w mn Value.string vvn s.nm ∧ IsTb w mb kvb Value.string s.bx ∧ (∀ r, mn = some r → mb ≠ some r)
  len : ∀ k v, mget k s.nm = some v → v.length = 32
  lenb : ∀ k v, mget k s.bx = some v → v.size ≤ 65536
theorem hard_irow {w : World} {ib tb : Nat} {mn mb : Option Nat} {t : TypeId} {f : Nat × Nat} (h : w.heap[ib]? = some (.cells (irow tb mn mb) t f)) : Hard w ib := by
  refine hard_cells h ?_
  intro v hv q x hq
  simp only [irow, List.mem_toArray, List.mem_cons, List.not_mem_nil, or_false] at hv
  rcases hv with rfl | rfl | rfl <;> simp
theorem IsI.blocks {F R : List Int} {w : World} {ib : Nat} {seed : List Int} {s : St} {own : List Nat} (h : IsI F R w ib seed s own) : ∀ b ∈ own, Hard w b ∧ b < w.heap.size := by
  obtain ⟨tb, ch, sA, sc, mn, mb, rfl, h1, h2, h3, h4, h5⟩ := h.ex
  intro b hb
  simp only [List.cons_append, List.mem_cons, List.mem_append] at hb
  rcases hb with rfl | rfl | hb | hb | hb
  · exact ⟨hard_irow h1, blk_lt h1⟩
  · exact ⟨h2.hard _ (by simp), h2.inn _ (by simp)⟩
  · exact ⟨h2.hard _ (by simp [hb]), h2.inn _ (by simp [hb])⟩
  · exact h3.hard b hb
  · exact h4.hard b hb
theorem IsI.keep {F R : List Int} {S : List Nat} {w w' : World} {ib : Nat} {seed : List Int} {s : St} {own : List Nat} (h : IsI F R w ib seed s own) (hk : Kp S w w') (hS : ∀ b ∈ S, Hard w b) (hd : ∀ b ∈ own, b ∉ S) : IsI F R w' ib seed s own := by
  obtain ⟨tb, ch, sA, sc, mn, mb, rfl, h1, h2, h3, h4, h5⟩ := h.ex
  refine ⟨⟨tb, ch, sA, sc, mn, mb, rfl, hk.at_ h1 (hd _ (by simp)), h2.keep hk hS (fun b hb => hd b ?_), h3.keep hk (fun r e => hd r ?_), h4.keep hk (fun r e => hd r ?_), h5⟩, h.len, h.lenb⟩
  · simp only [List.mem_cons] at hb
    simp only [List.cons_append, List.mem_cons, List.mem_append]
    rcases hb with hb | hb <;> simp [hb]
  · simp [e]
  · simp [e]
theorem IsI.below {F R : List Int} {w w' : World} {ib : Nat} {seed : List Int} {s : St} {own : List Nat} (h : IsI F R w ib seed s own) (hk : Below w.heap.size w w') : IsI F R w' ib seed s own := h.keep (Kp.of_below (S := []) hk) (by simp) (by simp)
end Go.Proofs.YtiboflejmnjdhaaDoor
end
section
set_option linter.unusedVariables false
set_option linter.unusedSimpArgs false
set_option maxRecDepth 100000
namespace Go.Proofs.YtiboflejmnjdhaaDoor
open Go Go.RowKit Go.Conc
/-- A tape, and its blocks. -/
def IsTp (F R : List Int) (w : World) (tb : Nat) (seed left : List Int) (p at_ : Nat) (own : List Nat) : Prop := ∃ ch sA sc, own = tb :: ch.toList ∧ IsT F R w tb ch sA sc seed left p at_
theorem IsTp.blocks {F R : List Int} {w : World} {tb : Nat} {seed left : List Int} {p at_ : Nat} {own : List Nat} (h : IsTp F R w tb seed left p at_ own) : ∀ b ∈ own, Hard w b ∧ b < w.heap.size := by
  obtain ⟨ch, sA, sc, rfl, h1⟩ := h
  exact fun b hb => ⟨h1.hard b hb, h1.inn b hb⟩
theorem IsTp.keep {F R : List Int} {S : List Nat} {w w' : World} {tb : Nat} {seed left : List Int} {p at_ : Nat} {own : List Nat} (h : IsTp F R w tb seed left p at_ own) (hk : Kp S w w') (hS : ∀ b ∈ S, Hard w b) (hd : ∀ b ∈ own, b ∉ S) : IsTp F R w' tb seed left p at_ own := by
  obtain ⟨ch, sA, sc, rfl, h1⟩ := h
  exact ⟨ch, sA, sc, rfl, h1.keep hk hS hd⟩
theorem IsTp.below {F R : List Int} {w w' : World} {tb : Nat} {seed left : List Int} {p at_ : Nat} {own : List Nat} (h : IsTp F R w tb seed left p at_ own) (hk : Below w.heap.size w w') : IsTp F R w' tb seed left p at_ own := h.keep (Kp.of_below (S := []) hk) (by simp) (by simp)
/-- What is new of the blocks is new in the world. -/
def Fresh (w : World) (own own' : List Nat) : Prop := ∀ b ∈ own', b ∈ own ∨ w.heap.size ≤ b
theorem new_tp (F R : List Int) (A : Option Addr) (n c : Nat) (xs : List Int) (w : World) (hn : n = xs.length) (hr : Rd w A c xs) (hl : xs.length ≤ 65536) :
    Calls Tryd.prog 9 #[.slice A n c] w fun e w' => ∃ tb, e = .returned (.pointer (some ⟨tb, 0, none⟩)) ∧ IsTp F R w' tb xs xs 0 0 [tb] ∧ w.heap.size ≤ tb ∧ Below w.heap.size w w' := by
  refine (new_any F R A n c xs w hn hr hl).mono ?_
  rintro e w' ⟨tb, sA, sc, rfl, h1, h2, h3⟩
  exact ⟨tb, rfl, ⟨none, sA, sc, rfl, h2⟩, h1, h3⟩
theorem at_tp (F R : List Int) (tb : Nat) (seed left : List Int) (p at_ : Nat) (own : List Nat) (w : World) (hT : IsTp F R w tb seed left p at_ own) :
    Calls Tryd.prog 22 #[.pointer (some ⟨tb, 0, none⟩)] w fun e w' => e = .returned (.int .i64 at_) ∧ w = w' := by
  obtain ⟨ch, sA, sc, rfl, h1⟩ := hT
  exact at_any F R tb ch sA sc seed left p at_ w h1
theorem copy_tp (F R : List Int) (tb : Nat) (seed left : List Int) (p at_ : Nat) (own : List Nat) (w : World) (hT : IsTp F R w tb seed left p at_ own) (hl : left.length ≤ 140737488355328) (hp : p ≤ 9007199254740000) :
    Calls Tryd.prog 52 #[.pointer (some ⟨tb, 0, none⟩)] w fun e w' => ∃ tn cn sA sc own', e = .returned (.pointer (some ⟨tn, 0, none⟩)) ∧ w.heap.size ≤ tn ∧ w.heap.size ≤ cn ∧ IsT F R w' tn (some cn) sA sc seed left p at_ ∧ IsTp F R w' tb seed left p at_ own' ∧ Fresh w own own' ∧ (∀ b ∈ own', b ≠ tn ∧ b ≠ cn) ∧ Kp own w w' := by
  obtain ⟨ch, sA, sc, rfl, h1⟩ := hT
  refine (tcopy_any F R tb ch sA sc seed left p at_ w h1 hl hp).mono ?_
  rintro e w' ⟨tn, cn, cb, rfl, h2, h3, h4, h5, h6, h7⟩
  refine ⟨tn, cn, sA, sc, _, rfl, h2, h3, h4, ⟨some cb, sA, sc, rfl, h5⟩, ?_, ?_, h7.mono (by simp)⟩
  · intro b hb
    simp only [Option.toList_some, List.mem_cons, List.not_mem_nil, or_false] at hb
    rcases hb with rfl | rfl
    · simp
    · rcases h6 with rfl | ⟨rfl, h6, _⟩
      · simp
      · exact .inr h6
  · obtain ⟨_, _, _, _, ht, _⟩ := h1.row
    have ht := blk_lt ht
    obtain ⟨_, _, _, _, hn, _, _, _, s, r, hcn⟩ := h4.row
    obtain ⟨_, _, _, _, ho, _, _, _, s2, r2, hcb⟩ := h5.row
    intro b hb
    simp only [Option.toList_some, List.mem_cons, List.not_mem_nil, or_false] at hb
    rcases hb with hb | hb <;> subst hb
    · have hne := blk_lt hn
      refine ⟨by omega, by omega⟩
    · refine ⟨(by rintro rfl; have := hn.symm.trans hcb; cases this), ?_⟩
      rcases h6 with rfl | ⟨rfl, h6, h8⟩
      · have := h1.inn b (by simp)
        omega
      · exact h8
theorem draw_tp (F R : List Int) (tb : Nat) (seed left : List Int) (p at_ n : Nat) (own : List Nat) (w : World) (hTb : Tabs F R w) (hT : IsTp F R w tb seed left p at_ own) (hl : seed.length ≤ 10000000000000) (hll : left.length ≤ 10000000000000) (h0 : 0 < n) (hn : n ≤ 65536) (hp : p ≤ 9007199254600000) (hat : at_ ≤ 9007199254600000) :
    Calls Tryd.prog 14 #[.pointer (some ⟨tb, 0, none⟩), .int .i64 n] w fun e w' => ∃ A c own', e = .returned (.slice A n c) ∧ Rd w' A c (tDraw F R seed n left p).1 ∧ (∀ a, A = some a → w.heap.size ≤ a.block) ∧
      IsTp F R w' tb seed (tDraw F R seed n left p).2.1 (tDraw F R seed n left p).2.2 (at_ + n) own' ∧ Fresh w own own' ∧ Kp own w w' := by
  obtain ⟨ch, sA, sc, rfl, h1⟩ := hT
  refine (draw_any F R tb ch sA sc seed left p at_ n w hTb h1 hl hll h0 hn hp hat).mono ?_
  rintro e w' ⟨A, c, cb, rfl, h2, h3, h4, h5⟩
  obtain ⟨A1, c1, e1, h6, h7⟩ := h2.rd
  rw [Value.slice.injEq] at e1
  obtain ⟨rfl, -, rfl⟩ := e1
  refine ⟨A, c, _, rfl, h6, fun a ha => (h7 a ha).1, ⟨some cb, sA, sc, rfl, h3⟩, ?_, h5⟩
  intro b hb
  simp only [Option.toList_some, List.mem_cons, List.not_mem_nil, or_false] at hb
  rcases hb with rfl | rfl
  · simp
  · rcases h4 with rfl | ⟨rfl, h6⟩
    · simp
    · exact .inr h6
theorem len_map (t tk te : TypeId) (ht : Tryd.prog.underlying t = some (.map tk te)) (r : Nat) (es : Array MapEntry) (cl : Nat) (w : World) (hb : w.heap[r]? = some (.map es cl)) : (Builtin.len_ #[t] 3 #[.map (some r)]).run Tryd.prog w = .ok (.int .i64 es.size) w := by
  have h0 : (getObj r).run Tryd.prog w = .ok (.map es cl) w := by simp [getObj, Sem.run, hb]
  simp [Builtin.len_, run_underlying ht, h0, goInt]
theorem isize_any (F R : List Int) (ib : Nat) (seed : List Int) (s : St) (own : List Nat) (w : World) (h : IsI F R w ib seed s own) :
    Calls Tryd.prog 125 #[.pointer (some ⟨ib, 0, none⟩)] w fun e w' => e = .returned (.int .i64 s.bx.length) ∧ w = w' := by
  obtain ⟨tb, ch, sA, sc, mn, mb, rfl, h1, h2, h3, h4, h5⟩ := h.ex
  have c2 : w.cell? ⟨ib, 2, none⟩ = some (.map mb) := blk_cell h1 2 rfl
  cases mb with
  | none =>
    have hb : s.bx = [] := h4
    rw [hb]
    clear h h1 h2 h3 h4 h5 hb
    go_enter Tryd.func125, Tryd.ntmps125
    go_wp2
    go_ret
    exact ⟨rfl, rfl⟩
  | some r =>
    obtain ⟨es, cl, hb, he⟩ := h4
    have hlen : es.size = s.bx.length := by have := congrArg List.length he; simpa using this
    have hl := len_map 118 _ _ Tryd.underlying118 r es cl w hb
    clear h h1 h2 h3 h5 he
    go_enter Tryd.func125, Tryd.ntmps125
    go_wp2
    go_ret
    exact ⟨rfl, rfl⟩
end Go.Proofs.YtiboflejmnjdhaaDoor
end
section
set_option linter.unusedVariables false
set_option linter.unusedSimpArgs false
set_option maxRecDepth 100000
namespace Go.Proofs.YtiboflejmnjdhaaDoor
open Go Go.RowKit Go.Conc
/-- A string's bytes. -/
def numsOf (s : ByteArray) : List Int := s.data.toList.map fun b => (b.toNat : Int)
theorem numsOf_length (s : ByteArray) : (numsOf s).length = s.size := by
  rw [numsOf, List.length_map, Array.length_toList]; rfl
theorem strOf_numsOf (s : ByteArray) : strOfNums (numsOf s) = s := by
  obtain ⟨d⟩ := s
  have h : ((fun n : Int => UInt8.ofNat n.toNat) ∘ fun b : UInt8 => (b.toNat : Int)) = id := by
    funext b
    show UInt8.ofNat ((b.toNat : Int)).toNat = b
    rw [Int.toNat_natCast, UInt8.ofNat_toNat]
  show ByteArray.mk ((List.map _ (List.map _ d.toList)).toArray) = ByteArray.mk d
  rw [List.map_map, h, List.map_id, Array.toArray_toList]
theorem conv_bytes (s : ByteArray) (w : World) (hs : s.size ≤ 140737488355328) : ∃ c w1, (convert 9 22 (.string s)).run Tryd.prog w = .ok (.slice (some ⟨w.heap.size, 0, none⟩) s.size c) w1 ∧ Rd w1 (some ⟨w.heap.size, 0, none⟩) c (numsOf s) ∧ Below w.heap.size w w1 := by
  refine ⟨_, _, Lib.run_convert_string_bytes w 9 22 5 s Tryd.underlying9 Tryd.underlying22 Tryd.underlying5, ⟨?_, ?_, by simp, fun _ => ⟨_, 0, rfl, fun j hj => ?_⟩⟩, ?_⟩
  · rw [numsOf_length]; exact grownCap_ge w s.size 0 5
  · have := grownCap_le_maxLen w s.size 0 5 (by simp only [maxLen]; omega)
    simpa only [maxLen] using this
  · rw [numsOf_length] at hj
    rw [Nat.zero_add, Lib.bytesWorld_cell w 5 s j hj]
    have hj2 : j < s.data.size := hj
    simp [numsOf, List.getD, hj2, Array.getElem?_eq_getElem hj2]
  · refine ⟨?_, ?_, ?_, ?_, fun k hk => Lib.bytesWorld_at_old w 5 s k hk⟩
    · rfl
    · rfl
    · rfl
    · rw [Lib.bytesWorld_size]; omega
theorem yields_conv {P : Program} {o : Oper} {a : Act} {W : World} (tf tt : TypeId) (x : Operand) (ho : o.op = .convert tf tt x) (vx v : Value) (hx : a.eval x = vx) (h : (convert tf tt vx).run P W = .ok v W) : (execOp a.eval o).run P W = .ok (.value v) W := by
  unfold execOp
  simp [ho, hx, h]
theorem iopen_any (F R : List Int) (ib : Nat) (seed : List Int) (s : St) (own : List Nat) (ep : Int) (hA : Option Addr) (hn hc : Nat) (hd : List Int) (bA : Option Addr) (bn bc : Nat) (bs : List Int) (w : World) (hI : IsI F R w ib seed s own) (hhn : hn = hd.length) (hh : Rd w hA hc hd) (hbn : bn = bs.length) (hb : Rd w bA bc bs) :
    Calls Tryd.prog 123 #[.pointer (some ⟨ib, 0, none⟩), .int .i64 ep, .slice hA hn hc, .slice bA bn bc] w fun e w' => ∃ A n c, e = .returned (.tuple #[.slice A n c, .int .i64 (if (mget (ep, strOfNums hd, strOfNums bs) s.bx).isSome then 0 else 80)]) ∧ ∃ xs : List Int, n = xs.length ∧ Rd w' A c xs ∧ (∀ pl, mget (ep, strOfNums hd, strOfNums bs) s.bx = some pl → strOfNums xs = pl) ∧ Below w.heap.size w w' := by
  obtain ⟨tb, ch, sA, sc, mn, mb, rfl, h1, h2, h3, h4, h5⟩ := hI.ex
  have Hlb := Lib.hid hI.lenb
  have Hh := Lib.hid hh
  have Hb := Lib.hid hb
  have Hhn := Lib.hid hhn
  have Hbn := Lib.hid hbn
  have H1 := Lib.hid h1
  have H4 := Lib.hid h4
  have hf : ∃ fv fb, found (ep, strOfNums hd, strOfNums bs) s.bx Value.string (.string ByteArray.empty) = .tuple #[.string fv, .bool fb] ∧ fb = (mget (ep, strOfNums hd, strOfNums bs) s.bx).isSome ∧ (∀ pl, mget (ep, strOfNums hd, strOfNums bs) s.bx = some pl → fv = pl) ∧ fv.size ≤ 65536 := by
    unfold found
    cases h : mget (ep, strOfNums hd, strOfNums bs) s.bx with
    | none => exact ⟨_, _, rfl, rfl, by simp, by decide⟩
    | some v => exact ⟨_, _, rfl, rfl, by simp, hI.lenb _ _ h⟩
  obtain ⟨fv, fb, hf, hfb, hfv, hfs⟩ := hf
  have Hf := Lib.hid hf
  obtain ⟨r, hr⟩ : ∃ r, r = mget (ep, strOfNums hd, strOfNums bs) s.bx := ⟨_, rfl⟩
  rw [← hr] at hfb hfv ⊢
  have Hfb := Lib.hid hfb
  have Hfv := Lib.hid hfv
  obtain ⟨er, her⟩ : ∃ er : Int, er = if r.isSome then 0 else 80 := ⟨_, rfl⟩
  rw [← her]
  have Her := Lib.hid her
  clear her hI h1 h2 h3 h4 h5 hh hb hhn hbn hr hf hfb hfv
  go_enter Tryd.func123, Tryd.ntmps123
  go_upto_region 1 with (fail)
  refine seg_begin (fun W => Rd W hA hc hd ∧ Rd W bA bc bs) [5, 7] (by kernel_rfl) ?_
  have HS : Hid (Rd w.drew hA hc hd ∧ Rd w.drew bA bc bs) := Lib.hid ⟨Hh.out.drewN 1, Hb.out.drewN 1⟩
  have H1d : Hid (w.drew.heap[ib]? = some (.cells (irow tb mn mb) 122 (0, 0))) := Lib.hid H1.out
  have H4d : Hid (IsTb w.drew mb kvb Value.string s.bx) := Lib.hid (H4.out.below (Below.refl _ w).drew)
  have HBd : Hid (Below w.heap.size w w.drew) := Lib.hid (Below.refl _ w).drew
  clear H1 H4 Hh Hb
  generalize w.drew = wd at *
  have c2 : Hid (wd.cell? ⟨ib, 2, none⟩ = some (.map mb)) := Lib.hid (blk_cell H1d.out 2 rfl)
  (refine seg_take 0 ?_ rfl (by kernel_rfl) (by kernel_rfl) (by kernel_rfl) (by kernel_rfl) (by kernel_rfl) rfl (fun _ _ _ h => h) rfl ?_ ?_; rotate_left; (focus (intro w; go_simp; try with_reducible rfl)); (try simp only [List.getElem_toArray, List.getElem_cons_zero, List.getElem_cons_succ, Act.put, List.setIfInBounds_toArray, List.set_cons_zero, List.set_cons_succ]); refine seg_take 1 ?_ rfl (by kernel_rfl) (by kernel_rfl) (by kernel_rfl) (by kernel_rfl) (by kernel_rfl) rfl (fun _ _ _ h => h) rfl ?_ ?_; rotate_left; (focus (intro w; go_simp; try with_reducible rfl)); (try simp only [List.getElem_toArray, List.getElem_cons_zero, List.getElem_cons_succ, Act.put, List.setIfInBounds_toArray, List.set_cons_zero, List.set_cons_succ]); refine seg_take 2 ?_ rfl (by kernel_rfl) (by kernel_rfl) (by kernel_rfl) (by kernel_rfl) (by kernel_rfl) rfl (fun _ _ _ h => h) rfl ?_ ?_; rotate_left; (focus (intro w; go_simp; try with_reducible rfl)); (try simp only [List.getElem_toArray, List.getElem_cons_zero, List.getElem_cons_succ, Act.put, List.setIfInBounds_toArray, List.set_cons_zero, List.set_cons_succ]); refine seg_take 3 ?_ rfl (by kernel_rfl) (by kernel_rfl) (by kernel_rfl) (by kernel_rfl) (by kernel_rfl) rfl (fun _ _ _ h => h) rfl ?_ ?_; rotate_left; (focus (intro w; go_simp; try with_reducible rfl)); (try simp only [List.getElem_toArray, List.getElem_cons_zero, List.getElem_cons_succ, Act.put, List.setIfInBounds_toArray, List.set_cons_zero, List.set_cons_succ]); refine seg_take 4 ?_ rfl (by kernel_rfl) (by kernel_rfl) (by kernel_rfl) (by kernel_rfl) (by kernel_rfl) rfl (fun _ _ _ h => h) rfl ?_ ?_; rotate_left; (focus (intro w; go_simp; try with_reducible rfl)); (try simp only [List.getElem_toArray, List.getElem_cons_zero, List.getElem_cons_succ, Act.put, List.setIfInBounds_toArray, List.set_cons_zero, List.set_cons_succ]); refine seg_take 6 ?_ rfl (by kernel_rfl) (by kernel_rfl) (by kernel_rfl) (by kernel_rfl) (by kernel_rfl) rfl (fun _ _ _ h => h) rfl ?_ ?_; rotate_left; (focus (intro w; go_simp; try with_reducible rfl)); (try simp only [List.getElem_toArray, List.getElem_cons_zero, List.getElem_cons_succ, Act.put, List.setIfInBounds_toArray, List.set_cons_zero, List.set_cons_succ]))
  (refine seg_read 5 (.string (strOfNums hd)) rfl (by kernel_rfl) (by kernel_rfl) (by kernel_rfl) (by kernel_rfl) (by kernel_rfl) (by kernel_rfl) (fun _ _ _ h => h) rfl HS.out (fun W hW => yields_conv _ _ _ rfl _ _ rfl (conv_str hW.1 hn Hhn.out)) ?_; (try simp only [List.getElem_toArray, List.getElem_cons_zero, List.getElem_cons_succ, Act.put, List.setIfInBounds_toArray, List.set_cons_zero, List.set_cons_succ]))
  skip
  (refine seg_read 7 (.string (strOfNums bs)) rfl (by kernel_rfl) (by kernel_rfl) (by kernel_rfl) (by kernel_rfl) (by kernel_rfl) (by kernel_rfl) (fun _ _ _ h => h) rfl HS.out (fun W hW => yields_conv _ _ _ rfl _ _ rfl (conv_str hW.2 bn Hbn.out)) ?_; (try simp only [List.getElem_toArray, List.getElem_cons_zero, List.getElem_cons_succ, Act.put, List.setIfInBounds_toArray, List.set_cons_zero, List.set_cons_succ]))
  (refine seg_take 8 ?_ rfl (by kernel_rfl) (by kernel_rfl) (by kernel_rfl) (by kernel_rfl) (by kernel_rfl) rfl (fun _ _ _ h => h) rfl ?_ ?_; rotate_left; (focus (intro w; go_simp; try with_reducible rfl)); (try simp only [List.getElem_toArray, List.getElem_cons_zero, List.getElem_cons_succ, Act.put, List.setIfInBounds_toArray, List.set_cons_zero, List.set_cons_succ]))
  (refine anyB_step 9 rfl (by kernel_rfl) ?_; (try simp only [List.getElem_toArray, List.getElem_cons_zero, List.getElem_cons_succ]))
  go_wp2_with (go_at_call 128; go_must (refine (get_box ib 2 mb ep (strOfNums hd) (strOfNums bs) s.bx wd c2.out H4d.out).mono ?_; rintro e w1 ⟨he, h2⟩; rw [Hf.out] at he; subst he; have HB1 := Lib.hid h2; clear h2))
  refine ⟨nofun, ?_⟩
  (refine seg_take 10 ?_ rfl (by kernel_rfl) (by kernel_rfl) (by kernel_rfl) (by kernel_rfl) (by kernel_rfl) rfl (fun _ _ _ h => h) rfl ?_ ?_; rotate_left; (focus (intro w; go_simp; try with_reducible rfl)); (try simp only [List.getElem_toArray, List.getElem_cons_zero, List.getElem_cons_succ, Act.put, List.setIfInBounds_toArray, List.set_cons_zero, List.set_cons_succ]); refine seg_take 11 ?_ rfl (by kernel_rfl) (by kernel_rfl) (by kernel_rfl) (by kernel_rfl) (by kernel_rfl) rfl (fun _ _ _ h => h) rfl ?_ ?_; rotate_left; (focus (intro w; go_simp; try with_reducible rfl)); (try simp only [List.getElem_toArray, List.getElem_cons_zero, List.getElem_cons_succ, Act.put, List.setIfInBounds_toArray, List.set_cons_zero, List.set_cons_succ]); refine seg_take 12 ?_ rfl (by kernel_rfl) (by kernel_rfl) (by kernel_rfl) (by kernel_rfl) (by kernel_rfl) rfl (fun _ _ _ h => h) rfl ?_ ?_; rotate_left; (focus (intro w; go_simp; try with_reducible rfl)); (try simp only [List.getElem_toArray, List.getElem_cons_zero, List.getElem_cons_succ, Act.put, List.setIfInBounds_toArray, List.set_cons_zero, List.set_cons_succ]); refine seg_take 13 ?_ rfl (by kernel_rfl) (by kernel_rfl) (by kernel_rfl) (by kernel_rfl) (by kernel_rfl) rfl (fun _ _ _ h => h) rfl ?_ ?_; rotate_left; (focus (intro w; go_simp; try with_reducible rfl)); (try simp only [List.getElem_toArray, List.getElem_cons_zero, List.getElem_cons_succ, Act.put, List.setIfInBounds_toArray, List.set_cons_zero, List.set_cons_succ]); refine seg_take 14 ?_ rfl (by kernel_rfl) (by kernel_rfl) (by kernel_rfl) (by kernel_rfl) (by kernel_rfl) rfl (fun _ _ _ h => h) rfl ?_ ?_; rotate_left; (focus (intro w; go_simp; try with_reducible rfl)); (try simp only [List.getElem_toArray, List.getElem_cons_zero, List.getElem_cons_succ, Act.put, List.setIfInBounds_toArray, List.set_cons_zero, List.set_cons_succ]))
  (refine anyB_done (by kernel_rfl) ?_)
  have HB : Hid (Below w.heap.size w w1) := Lib.hid (HBd.out.trans (HB1.out.mono HBd.out.size))
  cases fb with
  | false =>
    have hr : r.isSome = false := Hfb.out.symm
    have Her2 : Hid (er = 80) := Lib.hid (by rw [Her.out, hr]; rfl)
    have Hrs := Lib.hid hr
    clear hr
    go_wp2
    go_ret2
    refine ⟨none, 0, 0, by rw [Her2.out]; rfl, [], rfl, Rd.none_ _, ?_, HB.out⟩
    intro pl h
    have hr := Hrs.out
    rw [h] at hr; cases hr
  | true =>
    have hr : r.isSome = true := Hfb.out.symm
    have Her2 : Hid (er = 0) := Lib.hid (by rw [Her.out, hr]; rfl)
    clear hr
    obtain ⟨c9, w9, hcv, hrd, hbl⟩ := conv_bytes fv w1 (by omega)
    have Hrd := Lib.hid hrd
    have Hbl := Lib.hid hbl
    clear hrd hbl
    go_wp2
    go_ret2
    refine ⟨some ⟨w1.heap.size, 0, none⟩, fv.size, c9, by rw [Her2.out]; rfl, numsOf fv, (numsOf_length fv).symm, Hrd.out, ?_, HB.out.trans (Hbl.out.mono HB.out.size)⟩
    intro pl h
    rw [strOf_numsOf]
    exact Hfv.out pl h
end Go.Proofs.YtiboflejmnjdhaaDoor
end
