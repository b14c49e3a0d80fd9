/- Contracts of package mode: the table of names. -/
import Derived.Test.YthgnccgablploaaMode3
set_option linter.unusedVariables false
set_option linter.unusedSimpArgs false
set_option maxRecDepth 100000
namespace Go.Proofs.Ythgnccgablploaa
open Go Go.RowKit
/-- A name's value. -/
def vvn (v : List Int) : Value := .agg (w8 v)
theorem zero_name (w : World) : (zeroValue 43).run Try.prog w = .ok (vvn (List.replicate 32 0)) w := by
  have h0 : (Try.prog.info? 43).bind (·.zero) = some (vvn (List.replicate 32 0)) := by kernel_rfl
  obtain ⟨i, hi, hz⟩ := Option.bind_eq_some_iff.1 h0
  simp [zeroValue, typeInfo, hi, hz]
theorem look_tb_name (mr : Option Nat) (k : ByteArray) (m : List (ByteArray × List Int)) (w : World) (hm : IsTb w mr Value.string vvn m) : (Instr.lookup 50 (.map mr) (.string k) true).run Try.prog w = .ok (found k m vvn (vvn (List.replicate 32 0))) w := by
  cases mr with
  | none =>
    have hm : m = [] := hm
    subst hm
    exact look_nil (V := Unit) 50 43 Try.underlying50 _ k w (zero_name w)
  | some r => exact look_str 50 43 Try.underlying50 vvn _ k m r w hm (zero_name w)
end Go.Proofs.Ythgnccgablploaa
