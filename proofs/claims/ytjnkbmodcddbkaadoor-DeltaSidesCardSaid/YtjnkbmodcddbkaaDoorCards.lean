/-
  DERIVED. GIVEN WITH THE SEED: THE CARDS: each row of YtjnkbmodcddbkaaDoorRows.lean that lists a variable, with what it lists TIED to the program's text (the seventh form; the later family's looks); each row that meets fmt, with fmt's text TOLD by the authors' own Lean function (tested against real Go, not proved from fmt's source: count such statements apart). THE CARD IS WHAT COUNTS. Prove the row's statement (the work); the ties are given (YtjnkbmodcddbkaaDoorTie.lean); close each card by the builder's one call (the guide's Derived/Test/ToyasCard.lean, 'card_holds'). Laid BY PROGRAM, IN A SANDBOX (cutbox-door.mjs). By AI agents, Wed Nov 11 2026. No macro, syntax, notation, axiom, sorry.
-/
import Derived.Test.YtjnkbmodcddbkaaDoorRows
import GoSem.ClaimSeven
namespace Go.Proofs.YtjnkbmodcddbkaaDoor
namespace Rows

/-- THE TIED CARD OF 'fastilaw11.DeltaMerges'. -/
def deltaMergesCard : Claim7 := { stood := { row := deltaMergesRow, standIns := [], harness := (true, "116bfa65567fd8ee3f9c95d459e15d4eafa643d3990a44fb07dd22d2cf1bc064"), looks := true }, kinds := [], alts := [], laidByText := true, laidKinds := [.data, .pinned], laidTests := true, laidLooks := .later }
def DeltaMergesCardSaid : Prop := Claim7.holds Tryd.pinned (.plain (OpenSpec.ofChange deltaMergesSpec)) deltaMergesCard

/-- THE TIED CARD OF 'fastilaw32.StatParts'. -/
def statPartsCard : Claim7 := { stood := { row := statPartsRow, standIns := [], harness := (true, "116bfa65567fd8ee3f9c95d459e15d4eafa643d3990a44fb07dd22d2cf1bc064"), looks := true }, kinds := [], alts := [], laidByText := true, laidKinds := [.data, .pinned], laidTests := true, laidLooks := .later }
def StatPartsCardSaid : Prop := Claim7.holds Tryd.pinned (.plain (OpenSpec.ofChange statPartsSpec)) statPartsCard

/-- THE TIED CARD OF 'fastilaw32.StatMore'. -/
def statMoreCard : Claim7 := { stood := { row := statMoreRow, standIns := [], harness := (true, "116bfa65567fd8ee3f9c95d459e15d4eafa643d3990a44fb07dd22d2cf1bc064"), looks := true }, kinds := [], alts := [], laidByText := true, laidKinds := [.data, .pinned], laidTests := true, laidLooks := .later }
def StatMoreCardSaid : Prop := Claim7.holds Tryd.pinned (.plain (OpenSpec.ofChange statMoreSpec)) statMoreCard

/-- THE TIED CARD OF 'fastilaw11.DeltaSides'. -/
def deltaSidesCard : Claim7 := { stood := { row := deltaSidesRow, standIns := [], harness := (true, "116bfa65567fd8ee3f9c95d459e15d4eafa643d3990a44fb07dd22d2cf1bc064"), looks := true }, kinds := [], alts := [], laidByText := true, laidKinds := [.data, .pinned], laidTests := true, laidLooks := .later }
def DeltaSidesCardSaid : Prop := Claim7.holds Tryd.pinned (.plain (OpenSpec.ofChange deltaSidesSpec)) deltaSidesCard

/-- THE TIED CARD OF 'fastilaw11.DeltaBack'. -/
def deltaBackCard : Claim7 := { stood := { row := deltaBackRow, standIns := [], harness := (true, "116bfa65567fd8ee3f9c95d459e15d4eafa643d3990a44fb07dd22d2cf1bc064"), looks := true }, kinds := [], alts := [], laidByText := true, laidKinds := [.data, .pinned], laidTests := true, laidLooks := .later }
def DeltaBackCardSaid : Prop := Claim7.holds Tryd.pinned (.plain (OpenSpec.ofChange deltaBackSpec)) deltaBackCard

/-- THE SECOND FORM's CARD OF 'fastilaw11.DeltaMerges'. -/
def deltaMergesUptoCard : Claim7 := { stood := { row := deltaMergesUptoRow, standIns := [], harness := (true, "116bfa65567fd8ee3f9c95d459e15d4eafa643d3990a44fb07dd22d2cf1bc064"), looks := true }, kinds := [], alts := [], laidByText := true, laidKinds := [.data, .pinned], laidTests := true, laidLooks := .later }
def DeltaMergesUptoCardSaid : Prop := Claim7.holds Tryd.pinned (.plain (OpenSpec.upto deltaMergesSpec)) deltaMergesUptoCard

/-- THE SECOND FORM's CARD OF 'fastilaw32.StatParts'. -/
def statPartsUptoCard : Claim7 := { stood := { row := statPartsUptoRow, standIns := [], harness := (true, "116bfa65567fd8ee3f9c95d459e15d4eafa643d3990a44fb07dd22d2cf1bc064"), looks := true }, kinds := [], alts := [], laidByText := true, laidKinds := [.data, .pinned], laidTests := true, laidLooks := .later }
def StatPartsUptoCardSaid : Prop := Claim7.holds Tryd.pinned (.plain (OpenSpec.upto statPartsSpec)) statPartsUptoCard

/-- THE SECOND FORM's CARD OF 'fastilaw32.StatMore'. -/
def statMoreUptoCard : Claim7 := { stood := { row := statMoreUptoRow, standIns := [], harness := (true, "116bfa65567fd8ee3f9c95d459e15d4eafa643d3990a44fb07dd22d2cf1bc064"), looks := true }, kinds := [], alts := [], laidByText := true, laidKinds := [.data, .pinned], laidTests := true, laidLooks := .later }
def StatMoreUptoCardSaid : Prop := Claim7.holds Tryd.pinned (.plain (OpenSpec.upto statMoreSpec)) statMoreUptoCard

/-- THE SECOND FORM's CARD OF 'fastilaw11.DeltaSides'. -/
def deltaSidesUptoCard : Claim7 := { stood := { row := deltaSidesUptoRow, standIns := [], harness := (true, "116bfa65567fd8ee3f9c95d459e15d4eafa643d3990a44fb07dd22d2cf1bc064"), looks := true }, kinds := [], alts := [], laidByText := true, laidKinds := [.data, .pinned], laidTests := true, laidLooks := .later }
def DeltaSidesUptoCardSaid : Prop := Claim7.holds Tryd.pinned (.plain (OpenSpec.upto deltaSidesSpec)) deltaSidesUptoCard

/-- THE SECOND FORM's CARD OF 'fastilaw11.DeltaBack'. -/
def deltaBackUptoCard : Claim7 := { stood := { row := deltaBackUptoRow, standIns := [], harness := (true, "116bfa65567fd8ee3f9c95d459e15d4eafa643d3990a44fb07dd22d2cf1bc064"), looks := true }, kinds := [], alts := [], laidByText := true, laidKinds := [.data, .pinned], laidTests := true, laidLooks := .later }
def DeltaBackUptoCardSaid : Prop := Claim7.holds Tryd.pinned (.plain (OpenSpec.upto deltaBackSpec)) deltaBackUptoCard
end Rows
end Go.Proofs.YtjnkbmodcddbkaaDoor
