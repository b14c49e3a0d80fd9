/-
  DERIVED. GIVEN WITH THE SEED: THE CARDS: each row of YtiboflejmnjdhaaDoorRows.lean that lists a variable, with what it lists TIED to the program's text (the seventh form; the later family's looks); each row that meets fmt, with fmt's text TOLD by the authors' own Lean function (tested against real Go, not proved from fmt's source: count such statements apart). THE CARD IS WHAT COUNTS. Prove the row's statement (the work); the ties are given (YtiboflejmnjdhaaDoorTie.lean); close each card by the builder's one call (the guide's Derived/Test/ToyasCard.lean, 'card_holds'). Laid BY PROGRAM, IN A SANDBOX (cutbox-door.mjs). By AI agents, Wed Nov 11 2026. No macro, syntax, notation, axiom, sorry.
-/
import Derived.Test.YtiboflejmnjdhaaDoorRows
import GoSem.ClaimSeven
namespace Go.Proofs.YtiboflejmnjdhaaDoor
namespace Rows

/-- THE TIED CARD OF 'sealchainlaw08.ModeBack'. -/
def modeBackCard : Claim7 := { stood := { row := modeBackRow, standIns := [], harness := (true, "bc3520d52f4695d449779e7afedad283fc0e1d1046f8934d55588dc13aff00d7"), looks := true }, kinds := [], alts := [], laidByText := true, laidKinds := [.data, .data], laidTests := true, laidLooks := .later }
def ModeBackCardSaid : Prop := Claim7.holds Tryd.pinned (.plain (OpenSpec.ofChange modeBackSpec)) modeBackCard

/-- THE TIED CARD OF 'sealchainlaw08.ModeReal'. -/
def modeRealCard : Claim7 := { stood := { row := modeRealRow, standIns := [], harness := (true, "bc3520d52f4695d449779e7afedad283fc0e1d1046f8934d55588dc13aff00d7"), looks := true }, kinds := [], alts := [], laidByText := true, laidKinds := [.data, .data], laidTests := true, laidLooks := .later }
def ModeRealCardSaid : Prop := Claim7.holds Tryd.pinned (.plain (OpenSpec.ofChange modeRealSpec)) modeRealCard

/-- THE TIED CARD OF 'sealchainlaw08.ModeKnown'. -/
def modeKnownCard : Claim7 := { stood := { row := modeKnownRow, standIns := [], harness := (true, "bc3520d52f4695d449779e7afedad283fc0e1d1046f8934d55588dc13aff00d7"), looks := true }, kinds := [], alts := [], laidByText := true, laidKinds := [.data, .data], laidTests := true, laidLooks := .later }
def ModeKnownCardSaid : Prop := Claim7.holds Tryd.pinned (.plain (OpenSpec.ofChange modeKnownSpec)) modeKnownCard

/-- THE TIED CARD OF 'sealchainlaw09.SealBlind'. -/
def sealBlindCard : Claim7 := { stood := { row := sealBlindRow, standIns := [], harness := (true, "bc3520d52f4695d449779e7afedad283fc0e1d1046f8934d55588dc13aff00d7"), looks := true }, kinds := [], alts := [], laidByText := true, laidKinds := [.widerDeep, .data, .data], laidTests := true, laidLooks := .later }
def SealBlindCardSaid : Prop := Claim7.holds Tryd.pinned (.plain (OpenSpec.ofChange sealBlindSpec)) sealBlindCard

/-- THE SECOND FORM's CARD OF 'sealchainlaw08.ModeBack'. -/
def modeBackUptoCard : Claim7 := { stood := { row := modeBackUptoRow, standIns := [], harness := (true, "bc3520d52f4695d449779e7afedad283fc0e1d1046f8934d55588dc13aff00d7"), looks := true }, kinds := [], alts := [], laidByText := true, laidKinds := [.data, .data], laidTests := true, laidLooks := .later }
def ModeBackUptoCardSaid : Prop := Claim7.holds Tryd.pinned (.plain (OpenSpec.upto modeBackSpec)) modeBackUptoCard

/-- THE SECOND FORM's CARD OF 'sealchainlaw08.ModeReal'. -/
def modeRealUptoCard : Claim7 := { stood := { row := modeRealUptoRow, standIns := [], harness := (true, "bc3520d52f4695d449779e7afedad283fc0e1d1046f8934d55588dc13aff00d7"), looks := true }, kinds := [], alts := [], laidByText := true, laidKinds := [.data, .data], laidTests := true, laidLooks := .later }
def ModeRealUptoCardSaid : Prop := Claim7.holds Tryd.pinned (.plain (OpenSpec.upto modeRealSpec)) modeRealUptoCard

/-- THE SECOND FORM's CARD OF 'sealchainlaw08.ModeKnown'. -/
def modeKnownUptoCard : Claim7 := { stood := { row := modeKnownUptoRow, standIns := [], harness := (true, "bc3520d52f4695d449779e7afedad283fc0e1d1046f8934d55588dc13aff00d7"), looks := true }, kinds := [], alts := [], laidByText := true, laidKinds := [.data, .data], laidTests := true, laidLooks := .later }
def ModeKnownUptoCardSaid : Prop := Claim7.holds Tryd.pinned (.plain (OpenSpec.upto modeKnownSpec)) modeKnownUptoCard

/-- THE SECOND FORM's CARD OF 'sealchainlaw09.SealBlind'. -/
def sealBlindUptoCard : Claim7 := { stood := { row := sealBlindUptoRow, standIns := [], harness := (true, "bc3520d52f4695d449779e7afedad283fc0e1d1046f8934d55588dc13aff00d7"), looks := true }, kinds := [], alts := [], laidByText := true, laidKinds := [.widerDeep, .data, .data], laidTests := true, laidLooks := .later }
def SealBlindUptoCardSaid : Prop := Claim7.holds Tryd.pinned (.plain (OpenSpec.upto sealBlindSpec)) sealBlindUptoCard
end Rows
end Go.Proofs.YtiboflejmnjdhaaDoor
