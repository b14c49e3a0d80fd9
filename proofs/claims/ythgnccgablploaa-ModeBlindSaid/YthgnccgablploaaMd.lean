/- Contracts of package mode: a mode that is ideal: Len, Real's error. -/
import Derived.Test.YthgnccgablploaaIdeal6
set_option linter.unusedVariables false
set_option linter.unusedSimpArgs false
set_option maxRecDepth 100000
namespace Go.Proofs.Ythgnccgablploaa
open Go Go.RowKit Go.Conc
/-- An ideal mode, and its blocks. -/
def IsMd (F R : List Int) (w : World) (mb : Nat) (seed : List Int) (s : St) (own : List Nat) : Prop :=
  ∃ ib iown, own = mb :: iown ∧ mb ∉ iown ∧ w.heap[mb]? = some (.cells #[.iface 48 (.pointer (some ⟨ib, 0, none⟩))] 61 (0, 0)) ∧ IsI F R w ib seed s iown
theorem IsMd.blocks {F R : List Int} {w : World} {mb : Nat} {seed : List Int} {s : St} {own : List Nat} (h : IsMd F R w mb seed s own) : ∀ b ∈ own, Hard w b ∧ b < w.heap.size := by
  obtain ⟨ib, iown, rfl, h1, h2, h3⟩ := h
  intro b hb
  rcases List.mem_cons.1 hb with rfl | hb
  · refine ⟨hard_cells h2 ?_, blk_lt h2⟩
    intro v hv q x hq
    simp only [List.mem_toArray, List.mem_cons, List.not_mem_nil, or_false] at hv
    rw [hv]; simp
  · exact h3.blocks b hb
theorem IsMd.keep {F R : List Int} {S : List Nat} {w w' : World} {mb : Nat} {seed : List Int} {s : St} {own : List Nat} (h : IsMd F R w mb seed s own) (hk : Kp S w w') (hS : ∀ b ∈ S, Hard w b) (hd : ∀ b ∈ own, b ∉ S) : IsMd F R w' mb seed s own := by
  obtain ⟨ib, iown, rfl, h1, h2, h3⟩ := h
  exact ⟨ib, iown, rfl, h1, hk.at_ h2 (hd _ (by simp)), h3.keep hk hS (fun b hb => hd b (by simp [hb]))⟩
theorem IsMd.below {F R : List Int} {w w' : World} {mb : Nat} {seed : List Int} {s : St} {own : List Nat} (h : IsMd F R w mb seed s own) (hk : Below w.heap.size w w') : IsMd F R w' mb seed s own := h.keep (Kp.of_below (S := []) hk) (by simp) (by simp)
theorem meth_size (k : Nat) (v : Option Addr) (w : World) : (method (k + 1) 48 (.pointer v) "sealchain/mode.size").run Try.prog w = .ok (45, .pointer v) w := by kernel_rfl
theorem meth_seal (k : Nat) (v : Option Addr) (w : World) : (method (k + 1) 48 (.pointer v) "sealchain/mode.seal").run Try.prog w = .ok (44, .pointer v) w := by kernel_rfl
theorem meth_open (k : Nat) (v : Option Addr) (w : World) : (method (k + 1) 48 (.pointer v) "sealchain/mode.open").run Try.prog w = .ok (43, .pointer v) w := by kernel_rfl
theorem meth_name (k : Nat) (v : Option Addr) (w : World) : (method (k + 1) 48 (.pointer v) "sealchain/mode.name").run Try.prog w = .ok (42, .pointer v) w := by kernel_rfl
theorem len_any (F R : List Int) (mb : Nat) (seed : List Int) (s : St) (own : List Nat) (w : World) (h : IsMd F R w mb seed s own) :
    Calls Try.prog 24 #[.pointer (some ⟨mb, 0, none⟩)] w fun e w' => e = .returned (.int .i64 s.bx.length) ∧ w = w' := by
  obtain ⟨ib, iown, rfl, h1, h2, h3⟩ := h
  have c0 := blk_cell h2 0 rfl
  have H3 := Lib.hid h3
  clear h1 h2 h3
  have hm := meth_size
  go_enter Try.func24, Try.ntmps24
  go_wp2_with (first | (go_at_call 19; go_must (refine (none_ok mb ib w c0).mono ?_; rintro e w1 ⟨rfl, rfl⟩)) | (go_at_call 45; go_must (refine (isize_any F R ib seed s iown w H3.out).mono ?_; rintro e w1 ⟨rfl, rfl⟩)))
  go_ret
  exact ⟨rfl, rfl⟩
theorem asked_arg (e : Int) (A B : Option Addr) (n c m d many : Nat) (w : World) (h1 : 255 < e) :
    Calls Try.prog 20 #[.int .i64 e, .slice A n c, .slice B m d, .int .i64 many] w fun e w' => e = .returned (.int .i64 2) ∧ w = w' := by
  go_enter Try.func20, Try.ntmps20
  go_wp2
  go_ret
  exact ⟨rfl, rfl⟩
theorem real_err (A : Option Addr) (n c : Nat) (w : World) (hn : n ≠ 32) :
    Calls Try.prog 22 #[.slice A n c] w fun e w' => e = .returned (.tuple #[.pointer none, .int .i64 2]) ∧ w = w' := by
  have hb : ((n : Int) != 32) = true := by simp; omega
  go_enter Try.func22, Try.ntmps22
  go_wp2
  go_ret2
  exact ⟨rfl, rfl⟩
end Go.Proofs.Ythgnccgablploaa
