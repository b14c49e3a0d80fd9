/- Contracts of package mode: get and put of names. -/
import Derived.Test.YthgnccgablploaaMode4
import Derived.Laws.ResultCell
set_option linter.unusedVariables false
set_option linter.unusedSimpArgs false
set_option maxRecDepth 100000
namespace Go.Proofs.Ythgnccgablploaa
open Go Go.RowKit
/-- A name's block, made anew. -/
abbrev z32 : Array Value := #[.int .u8 0, .int .u8 0, .int .u8 0, .int .u8 0, .int .u8 0, .int .u8 0, .int .u8 0, .int .u8 0, .int .u8 0, .int .u8 0, .int .u8 0, .int .u8 0, .int .u8 0, .int .u8 0, .int .u8 0, .int .u8 0, .int .u8 0, .int .u8 0, .int .u8 0, .int .u8 0, .int .u8 0, .int .u8 0, .int .u8 0, .int .u8 0, .int .u8 0, .int .u8 0, .int .u8 0, .int .u8 0, .int .u8 0, .int .u8 0, .int .u8 0, .int .u8 0]
theorem new_name {w w1 : World} (h : w.alloc (.cells z32 43) = w1) : Below w.heap.size w w1 ∧ w1.heap[w.heap.size]? = some (.cells z32 43 (0, 0)) := by
  subst h
  exact ⟨(Below.refl w.heap.size w).alloc (Nat.le_refl _) _, new_at rfl⟩
theorem results_cell_tmp_row {P : Program} {fn : Func} {p u : Tmp} {ty : TypeId} (h : fn.results = #[.cell p ty, .tmp u]) (tmps : Array Value) (w : World) (g : Nat) (t : TypeId) (cs : Array Value) (fr : Nat × Nat) (d : TypeDesc)
    (hp : tmps.getD p undef = .pointer (some ⟨g, 0, none⟩)) (hg : w.heap[g]? = some (.cells cs t fr))
    (hu : P.underlying ty = some d) (hd : (match d with | .struct _ | .array _ _ => true | _ => false) = true) (hi : (P.info? ty).map (·.size) = some cs.size) :
    (results fn tmps).run P w = .ok (.tuple #[.agg cs, tmps.getD u undef]) w := by
  rw [results_cell_tmp h, hp]
  simp [asAddr, run_loadVar_row w g t ty cs fr d hg hu hd hi]
theorem get_name (ib off : Nat) (mr : Option Nat) (k : ByteArray) (m : List (ByteArray × List Int)) (w : World) (hc : w.cell? ⟨ib, off, none⟩ = some (.map mr)) (hm : IsTb w mr Value.string vvn m) (hl : ∀ v, mget k m = some v → v.length = 32) :
    Calls Try.prog 46 #[.pointer (some ⟨ib, off, none⟩), .string k] w fun e w' => e = .returned (found k m vvn (vvn (List.replicate 32 0))) ∧ Below w.heap.size w w' := by
  have hlt := World.block_lt_of_cell? w _ hc
  obtain ⟨v, fb, hf, hv⟩ : ∃ v fb, found k m vvn (vvn (List.replicate 32 0)) = .tuple #[.agg (w8 v), .bool fb] ∧ v.length = 32 := by
    unfold found
    cases h : mget k m with
    | none => exact ⟨_, _, rfl, by simp⟩
    | some v => exact ⟨_, _, rfl, hl v h⟩
  have hlk : ∀ W, Below w.heap.size w W → (Instr.lookup 50 (.map mr) (.string k) true).run Try.prog W = .ok (.tuple #[.agg (w8 v), .bool fb]) W := fun W hW => by rw [← hf]; exact look_tb_name mr k m W (hm.below hW)
  rw [hf]
  have Hlk := Lib.hid hlk
  have hsz : Hid ((Try.prog.info? 43).map (·.size) = some (w8 v).size) := Lib.hid (by rw [w8_size, hv]; kernel_rfl)
  have hold : Hid (z32.size = (w8 v).size) := Lib.hid (by rw [w8_size, hv]; rfl)
  have Hc := Lib.hid hc
  clear hm hf hl hlk hc
  go_enter Try.func46, Try.ntmps46
  go_upto_region 1 with (fail)
  generalize hw1 : World.alloc w _ = w1
  have hn := new_name hw1
  have c1 : w1.cell? ⟨ib, off, none⟩ = some (.map mr) := (hn.1.cell (p := ⟨ib, off, none⟩) hlt).trans Hc.out
  have H1 := Lib.hid hn.2
  have HB := Lib.hid hn.1
  have hlt1 : ib < w1.heap.size := Nat.lt_of_lt_of_le hlt hn.1.size
  have hlk1 := Hlk.out w1 hn.1
  clear hw1 hn
  go_wp2_with (first
    | (with_reducible refine wpList_store_new rfl 43 _ _ rfl _ rfl rfl _ _ hsz.out hold.out (w8_one _) ?_)
    | (with_reducible refine wpList_load_row rfl 43 _ rfl w1.heap.size rfl _ _ (0, 0) _ (new_at rfl) Try.underlying43 rfl hsz.out ?_)
    | (with_reducible refine wpList_store_row rfl 43 _ _ rfl w.heap.size _ rfl rfl 43 z32 (blk_alloc H1.out _) hsz.out hold.out (w8_one _) ?_))
  refine bodyPost_ret (results_cell_tmp_row Try.results46 _ _ w.heap.size _ _ (0, 0) _ rfl (setRow_heap _ _ _ _ _ _ (blk_alloc H1.out _)) Try.underlying43 rfl hsz.out) rfl ⟨rfl, ?_⟩
  exact below_setRow (HB.out.alloc HB.out.size _) (Nat.le_refl _) _
end Go.Proofs.Ythgnccgablploaa
