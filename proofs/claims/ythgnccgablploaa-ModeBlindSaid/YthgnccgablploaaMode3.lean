/- Contracts of package mode: small ones. -/
import Derived.Test.YthgnccgablploaaMode2
set_option linter.unusedVariables false
set_option linter.unusedSimpArgs false
set_option maxRecDepth 100000
namespace Go.Proofs.Ythgnccgablploaa
open Go Go.RowKit
theorem asked_ok (e : Int) (A B : Option Addr) (n c m d many : Nat) (w : World) (h0 : 0 ≤ e) (h1 : e ≤ 255) (hn : n ≤ 4096) (hm : m ≤ many) :
    Calls Try.prog 20 #[.int .i64 e, .slice A n c, .slice B m d, .int .i64 many] w fun e w' => e = .returned (.int .i64 0) ∧ w = w' := by
  go_enter Try.func20, Try.ntmps20
  go_wp2
  go_ret
  exact ⟨rfl, rfl⟩
/-- A mode that is one: its way is the ideal one at ib. -/
theorem none_ok (mb ib : Nat) (w : World) (h : w.cell? ⟨mb, 0, none⟩ = some (.iface 48 (.pointer (some ⟨ib, 0, none⟩)))) :
    Calls Try.prog 19 #[.pointer (some ⟨mb, 0, none⟩)] w fun e w' => e = .returned (.bool false) ∧ w = w' := by
  go_enter Try.func19, Try.ntmps19
  go_wp2
  go_ret
  exact ⟨rfl, rfl⟩
end Go.Proofs.Ythgnccgablploaa
