/- The arguments, as they are read: bytes, texts, boxes; the tables. -/
import Derived.Test.YtiboflejmnjdhaaDoorJX
import Derived.ProofKit
import Derived.OpenShut
import Derived.Deep.Slices
import Derived.Deep.Strs
import Derived.HandedShaped
set_option linter.unusedVariables false
set_option linter.unusedSimpArgs false
set_option maxRecDepth 100000
namespace Go.Proofs.YtiboflejmnjdhaaDoor
open Go Go.RowKit Go.ChangeShapes Go.WideShapes Go.Deep
/-- Bytes in their range. -/
def Byt (xs : List Int) : Prop := ∀ z ∈ xs, 0 ≤ z ∧ z < 256
theorem wf_byte {z : Int} (h : (Lit.int .u8 z).wf = true) : 0 ≤ z ∧ z < 256 := by
  simp only [Lit.wf, Bool.and_eq_true, decide_eq_true_eq] at h
  have h1 : IntKind.u8.min = 0 := by decide
  have h2 : IntKind.u8.max = 255 := by decide
  rw [h1, h2] at h
  omega
theorem wf_int {z : Int} (h : (Lit.int .i64 z).wf = true) : -9223372036854775808 ≤ z ∧ z ≤ 9223372036854775807 := by
  simp only [Lit.wf, Bool.and_eq_true, decide_eq_true_eq] at h
  have h1 : IntKind.i64.min = -9223372036854775808 := by decide
  have h2 : IntKind.i64.max = 9223372036854775807 := by decide
  rw [h1, h2] at h
  exact h
section
variable {H : Type} {enc : TypeId × Value → H} {W : World} {fuel : Nat}
theorem bytes_of {a : Option Addr} {n c : Nat} {x : DataW H × List MemPlace} (h : DataW.trod enc Tryd.prog W 0 (fun _ => true) true fuel 22 [.slice a n c] = some x) : ∃ xs, n = xs.length ∧ Rd W a c xs ∧ Byt xs := by
  rcases open_ints Tryd.underlying22 Tryd.underlying5 (by kernel_rfl) h with ⟨hcs, _⟩ | ⟨ad, l, cp, zs, hcs, _, hl, hm, hz, _, hcell, hwz⟩
  · simp only [List.cons.injEq, Value.slice.injEq, and_true] at hcs
    obtain ⟨rfl, rfl, rfl⟩ := hcs
    exact ⟨[], rfl, Rd.none_ _, by simp [Byt]⟩
  · simp only [List.cons.injEq, Value.slice.injEq, and_true] at hcs
    obtain ⟨rfl, rfl, rfl⟩ := hcs
    simp only [if_true] at hz
    refine ⟨zs.take n, by simp; omega, ⟨by simp; omega, by simpa [maxLen] using hm, by simp, fun h0 => ?_⟩, ?_⟩
    · have hn0 : 0 < n := by simp at h0; omega
      obtain ⟨b, off, spot⟩ := ad
      have hc0 := hcell 0 (by omega)
      have hspot : spot = none := by simpa [Addr.add] using World.cell?_spot hc0
      subst hspot
      refine ⟨b, off, rfl, fun j hj => ?_⟩
      have hjn : j < n := by simp at hj; omega
      have := hcell j (by omega)
      rw [Addr.add_mid] at this
      rw [this]
      simp [List.getD, hjn]
    · intro z hz2
      have := hwz z (List.mem_of_mem_take hz2)
      exact wf_byte this
theorem slice_of {t e : TypeId} {v : Value} {x : DataW H × List MemPlace} (ht : Tryd.prog.underlying t = some (.slice e)) (h : DataW.trod enc Tryd.prog W 0 (fun _ => true) true fuel t [v] = some x) : ∃ a n c, v = .slice a n c := by
  rcases open_slice ht h with ⟨hcs, _⟩ | ⟨ad, l, cp, m, n, D, Pl, hcs, _⟩
  · simp only [List.cons.injEq, and_true] at hcs
    exact ⟨_, _, _, hcs⟩
  · simp only [List.cons.injEq, and_true] at hcs
    exact ⟨_, _, _, hcs⟩
theorem text_of {v : List Value} {x : DataW H × List MemPlace} (h : DataW.trod enc Tryd.prog W 0 (fun _ => true) true fuel 32 v = some x) : ∃ t : Tx, v = t.val.toList ∧ t.ok W ∧ Byt t.hd ∧ Byt t.pl := by
  obtain ⟨y0, y1, y2, n, rfl, hl, h0, h1, h2⟩ := trod_struct3 Tryd.underlying32 h
  have c3 : Tryd.prog.cellsOf 3 = 1 := by kernel_rfl
  have c22 : Tryd.prog.cellsOf 22 = 1 := by kernel_rfl
  have c32 : Tryd.prog.cellsOf 32 = 3 := by kernel_rfl
  rw [c32] at hl
  match v, hl with
  | [v0, v1, v2], _ =>
    simp only [c3, c22, List.drop_zero, List.drop_succ_cons, List.take_succ_cons, List.take_zero] at h0 h1 h2
    obtain ⟨ep, e0, _, hw⟩ := DataW.trod_int Tryd.underlying3 h0
    obtain ⟨a1, n1, c1, rfl⟩ := slice_of Tryd.underlying22 h1
    obtain ⟨a2, n2, c2, rfl⟩ := slice_of Tryd.underlying22 h2
    obtain ⟨xs1, rfl, r1, b1⟩ := bytes_of h1
    obtain ⟨xs2, rfl, r2, b2⟩ := bytes_of h2
    simp only [List.cons.injEq, and_true] at e0
    subst e0
    exact ⟨⟨ep, a1, c1, xs1, a2, c2, xs2⟩, rfl, ⟨(wf_int hw).1, (wf_int hw).2, r1, r2⟩, b1, b2⟩
theorem texts_of {a : Option Addr} {n c : Nat} {x : DataW H × List MemPlace} (h : DataW.trod enc Tryd.prog W 0 (fun _ => true) true fuel 23 [.slice a n c] = some x) : ∃ ts, RdT W a n c ts ∧ ∀ t ∈ ts, Byt t.hd ∧ Byt t.pl := by
  rcases open_slice Tryd.underlying23 h with ⟨hcs, _⟩ | ⟨ad, l, cp, m, k, D, Pl, hcs, _, hl, hm, hmm, _, hx⟩
  · simp only [List.cons.injEq, Value.slice.injEq, and_true] at hcs
    obtain ⟨rfl, rfl, rfl⟩ := hcs
    exact ⟨[], ⟨rfl, Nat.le_refl _, by omega, by omega, by simp⟩, by simp⟩
  · simp only [List.cons.injEq, Value.slice.injEq, and_true] at hcs
    obtain ⟨rfl, rfl, rfl⟩ := hcs
    simp only [if_true] at hmm
    subst hmm
    have c32 : Tryd.prog.cellsOf 32 = 3 := by kernel_rfl
    rw [c32] at hx
    haveI : Inhabited Tx := ⟨⟨0, none, 0, [], none, 0, []⟩⟩
    obtain ⟨T, hT⟩ := choose_lt (α := Tx) (p := fun i t => W.cells? 0 (ad.add (i * 3)) 3 = some t.val.toList ∧ t.ok W ∧ Byt t.hd ∧ Byt t.pl) (fun i hi => by
      obtain ⟨cs', g1, g2⟩ := hx i hi
      obtain ⟨t, rfl, g3⟩ := text_of g2
      exact ⟨t, g1, g3⟩)
    refine ⟨(List.range n).map T, ⟨by simp, hl, by simpa [maxLen] using hm, fun h0 => ?_, ?_⟩, ?_⟩
    · obtain ⟨b, off, spot⟩ := ad
      have hc0 := (World.cells?_some (hT 0 (by omega)).1).2.2 0 (by omega)
      have ha : ((⟨b, off, spot⟩ : Addr).add (0 * 3)).add 0 = ⟨b, off, spot⟩ := by simp [Addr.add]
      rw [ha] at hc0
      have hspot : spot = none := World.cell?_spot (w := W) (a := ⟨b, off, spot⟩) (v := .int .i64 (T 0).ep) hc0
      subst hspot
      have hlt : b < W.heap.size := by
        have hc1 : W.cell? ⟨b, off, none⟩ = some (.int .i64 (T 0).ep) := by simpa [Addr.add, Tx.val] using hc0
        exact World.block_lt_of_cell? W _ hc1
      refine ⟨b, off, rfl, hlt, fun j hj i v hv => ?_⟩
      have hjn : j < n := by simpa using hj
      have hg := (World.cells?_some (hT j (by omega)).1).2.2
      have hi : i < 3 := by
        have := (List.getElem?_eq_some_iff.1 hv).1
        simpa [Tx.val] using this
      have := hg i hi
      rw [add_add, Addr.add_mid] at this
      rw [show off + j * 3 + i = off + (j * 3 + i) by omega, this]
      simpa using hv
    · intro t ht
      simp only [List.mem_map, List.mem_range] at ht
      obtain ⟨i, hi, rfl⟩ := ht
      exact (hT i (by omega)).2.1
    · intro t ht
      simp only [List.mem_map, List.mem_range] at ht
      obtain ⟨i, hi, rfl⟩ := ht
      exact (hT i (by omega)).2.2
theorem boxes_of {a : Option Addr} {n c : Nat} {x : DataW H × List MemPlace} (h : DataW.trod enc Tryd.prog W 0 (fun _ => true) true fuel 171 [.slice a n c] = some x) : ∃ ss, RdL W a n c ss := by
  rcases open_slice1 Tryd.underlying171 (by kernel_rfl) h with ⟨hcs, _⟩ | ⟨ad, l, cp, m, k, V, D, Pl, hcs, _, hl, hm, hmm, _, hx⟩
  · simp only [List.cons.injEq, Value.slice.injEq, and_true] at hcs
    obtain ⟨rfl, rfl, rfl⟩ := hcs
    exact ⟨[], ⟨rfl, Nat.le_refl _, by omega, by omega, by simp⟩⟩
  · simp only [List.cons.injEq, Value.slice.injEq, and_true] at hcs
    obtain ⟨rfl, rfl, rfl⟩ := hcs
    simp only [if_true] at hmm
    subst hmm
    haveI : Inhabited Sl := ⟨⟨none, 0, []⟩⟩
    obtain ⟨T, hT⟩ := choose_lt (α := Sl) (p := fun i t => W.cell? (ad.add i) = some t.val ∧ Rd W t.A t.c t.xs) (fun i hi => by
      obtain ⟨g1, g2⟩ := hx i hi
      obtain ⟨a1, n1, c1, e1⟩ := slice_of Tryd.underlying22 g2
      rw [e1] at g1 g2
      obtain ⟨xs, rfl, r1, b1⟩ := bytes_of g2
      exact ⟨⟨a1, c1, xs⟩, g1, r1⟩)
    refine ⟨(List.range n).map T, ⟨by simp, hl, by simpa [maxLen] using hm, fun h0 => ?_, ?_⟩⟩
    · obtain ⟨b, off, spot⟩ := ad
      have hc0 := (hT 0 (by omega)).1
      have hspot : spot = none := by simpa [Addr.add] using World.cell?_spot hc0
      subst hspot
      have hlt : b < W.heap.size := by
        have hc1 : W.cell? ⟨b, off, none⟩ = some (T 0).val := by simpa [Addr.add] using hc0
        exact World.block_lt_of_cell? W _ hc1
      refine ⟨b, off, rfl, hlt, fun j hj => ?_⟩
      have hjn : j < n := by simpa using hj
      have := (hT j (by omega)).1
      rw [Addr.add_mid] at this
      rw [this]
      simp
    · intro t ht
      simp only [List.mem_map, List.mem_range] at ht
      obtain ⟨i, hi, rfl⟩ := ht
      exact (hT i (by omega)).2
end
/-! ### the tables -/
theorem row_of_shaped {w : World} {g n m : Nat} {t e : TypeId} {zero : Array Value} {k : IntKind} (h : w.ShapedOpen Tryd.prog) (hg : g < Tryd.prog.globals.size)
    (h0 : ((begin Tryd.prog (fun _ _ => 0) default).world.heap[g]?).bind Obj.row? = some (zero, t)) (hz : zero.size = n)
    (hb : Tryd.prog.buildable t = true) (hc : Tryd.prog.cellTypes Tryd.prog.depth t = some (List.replicate m e)) (hu : Tryd.prog.underlying e = some (.int k)) :
    ∃ xs : List Int, xs.length = n ∧ w.heap[g]? = some (.cells ((xs.map (Value.int k)).toArray) t (0, 0)) := by
  obtain ⟨cs, hh, hs, hr⟩ := h.1 g zero t hg h0
  obtain ⟨ts, hts, _, hall⟩ := hr hb
  rw [hc] at hts
  cases hts
  have hsz : cs.size = n := by omega
  have hk : ∀ i, i < n → ∃ m : Int, cs[i]? = some (.int k m) := by
    intro i hi
    have hci : i < cs.size := by omega
    obtain ⟨u, hu', hok⟩ := hall i cs[i] (by simp [hci])
    have : u = e := by
      rw [List.getElem?_replicate] at hu'
      split at hu'
      · exact (Option.some.inj hu').symm
      · cases hu'
    subst this
    unfold Cell.ok at hok
    rw [hu] at hok
    rw [Array.getElem?_eq_getElem hci]
    cases hv : cs[i] <;> rw [hv] at hok <;> simp at hok
    case int k' m => exact ⟨m, by rw [hok.1]⟩
  obtain ⟨f, hf⟩ := choose_lt (α := Int) (p := fun i m => cs[i]? = some (.int k m)) hk
  refine ⟨(List.range n).map f, by simp, ?_⟩
  rw [hh]
  congr 2
  apply Array.ext_getElem?
  intro i
  by_cases hi : i < n
  · rw [hf i hi]; simp [hi]
  · rw [Array.getElem?_eq_none (by omega)]; simp [hi]
theorem tabs_of {w : World} (h : w.ShapedOpen Tryd.prog) : ∃ F R, Tabs F R w := by
  obtain ⟨F, hF, h1⟩ := row_of_shaped (g := 1) (n := 8) (m := 8) (e := 160) (k := .u32) (t := 161) (zero := Array.replicate 8 (.int .u32 0)) h (of_decide_eq_true (by kernel_rfl)) (by kernel_rfl) (by simp) (by kernel_rfl) (by kernel_rfl) Tryd.underlying160
  obtain ⟨R, hR, h2⟩ := row_of_shaped (g := 2) (n := 64) (m := 64) (e := 160) (k := .u32) (t := 176) (zero := Array.replicate 64 (.int .u32 0)) h (of_decide_eq_true (by kernel_rfl)) (by kernel_rfl) (by simp) (by kernel_rfl) (by kernel_rfl) Tryd.underlying160
  exact ⟨F, R, h1, h2, hF, hR⟩
end Go.Proofs.YtiboflejmnjdhaaDoor
