/- The card of 'sealchainlaw08.ModeBack'. -/
import Derived.Test.YtiboflejmnjdhaaDoorBacked
set_option linter.unusedVariables false
set_option maxRecDepth 100000
namespace Go.Proofs.YtiboflejmnjdhaaDoor
open Go
theorem modeBack_card : Rows.ModeBackCardSaid :=
  Claim7.holds_tied_plain_at .later [] [.data, .data] true (true, "bc3520d52f4695d449779e7afedad283fc0e1d1046f8934d55588dc13aff00d7") true
    modeBack_proved (fun _ h => by cases h) (by kernel_rfl) (fun _ h => by cases h) modeBack_row_tie rfl ⟨rfl, rfl⟩ (by kernel_rfl) rfl
    (fun f fn hf hfn => by
      obtain rfl : f = 3 := Option.some.inj ((show Tryd.prog.funcNamed "sealchain/sealchainlaw08.ModeBack" = some 3 by kernel_rfl).symm.trans hf) |>.symm
      obtain rfl : fn = Tryd.f3 := (Option.some.inj (Tryd.func3.symm.trans hfn)).symm
      exact ⟨by kernel_rfl, fun j t ht => by
        rw [Tryd.params3] at ht
        have h3 : t = 22 ∨ t = 23 := by
          rcases j with _ | _ | j
          · left; simpa using ht.symm
          · right; simpa using ht.symm
          · simp at ht
        rcases h3 with rfl | rfl
        · exact (show Tryd.prog.wantsStandIn 22 = false by kernel_rfl)
        · exact (show Tryd.prog.wantsStandIn 23 = false by kernel_rfl)⟩)
    (by kernel_rfl)
end Go.Proofs.YtiboflejmnjdhaaDoor
