/-
  DERIVED. GIVEN WITH THE SEED: THE CARDS: each row of YtdpadhpcgkjdiaaGreatDoorRows.lean that lists a variable, with what it lists TIED to the program's text (the seventh form; the later family's looks); each row that meets fmt, with fmt's text TOLD by the authors' own Lean function (tested against real Go, not proved from fmt's source: count such statements apart). THE CARD IS WHAT COUNTS. Prove the row's statement (the work); the ties are given (YtdpadhpcgkjdiaaGreatDoorTie.lean); close each card by the builder's one call (the guide's Derived/Test/ToyasCard.lean, 'card_holds'). Laid BY PROGRAM, IN A SANDBOX (cutbox-door.mjs). By AI agents, Wed Nov 11 2026. No macro, syntax, notation, axiom, sorry.
-/
import Derived.Test.YtdpadhpcgkjdiaaGreatDoorRows
import GoSem.ClaimSeven
namespace Go.Proofs.YtdpadhpcgkjdiaaGreatDoor
namespace Rows

/-- THE TIED CARD OF 'winepresslaw31.ScenarioBack'. -/
def scenarioBackCard : Claim7 := { stood := { row := scenarioBackRow, standIns := [], harness := (true, "8f256e56534d99d9d437bf471f491450d71bbf5a85101d6d2f9e9ed11f968928"), looks := true }, kinds := [], alts := [], laidByText := true, laidKinds := [.data, .data, .data, .sentinel, .sentinel], laidTests := true, laidLooks := .later }
def ScenarioBackCardSaid : Prop := Claim7.holds Tryz.pinned (.plain (OpenSpec.ofChange scenarioBackSpec)) scenarioBackCard

/-- THE TIED CARD OF 'winepresslaw31.ScenarioSame'. -/
def scenarioSameCard : Claim7 := { stood := { row := scenarioSameRow, standIns := [], harness := (true, "8f256e56534d99d9d437bf471f491450d71bbf5a85101d6d2f9e9ed11f968928"), looks := true }, kinds := [], alts := [], laidByText := true, laidKinds := [.data, .data, .data, .sentinel, .sentinel], laidTests := true, laidLooks := .later }
def ScenarioSameCardSaid : Prop := Claim7.holds Tryz.pinned (.plain (OpenSpec.ofChange scenarioSameSpec)) scenarioSameCard

/-- THE TIED CARD OF 'winepresslaw31.ScenarioSpoilt'. -/
def scenarioSpoiltCard : Claim7 := { stood := { row := scenarioSpoiltRow, standIns := [], harness := (true, "8f256e56534d99d9d437bf471f491450d71bbf5a85101d6d2f9e9ed11f968928"), looks := true }, kinds := [], alts := [], laidByText := true, laidKinds := [.data, .data, .data, .sentinel, .sentinel], laidTests := true, laidLooks := .later }
def ScenarioSpoiltCardSaid : Prop := Claim7.holds Tryz.pinned (.plain (OpenSpec.ofChange scenarioSpoiltSpec)) scenarioSpoiltCard

/-- THE TIED CARD OF 'winepresslaw31.ScenarioScript'. -/
def scenarioScriptCard : Claim7 := { stood := { row := scenarioScriptRow, standIns := [], harness := (true, "8f256e56534d99d9d437bf471f491450d71bbf5a85101d6d2f9e9ed11f968928"), looks := true }, kinds := [], alts := [], laidByText := true, laidKinds := [.data, .data, .data, .sentinel, .sentinel], laidTests := true, laidLooks := .later }
def ScenarioScriptCardSaid : Prop := Claim7.holds Tryz.pinned (.plain (OpenSpec.ofChange scenarioScriptSpec)) scenarioScriptCard

/-- THE TIED CARD OF 'winepresstop.TopText'. -/
def topTextCard : Claim7 := { stood := { row := topTextRow, standIns := [], harness := (true, "8f256e56534d99d9d437bf471f491450d71bbf5a85101d6d2f9e9ed11f968928"), looks := true }, kinds := [], alts := [], laidByText := true, laidKinds := [.data, .data, .data, .sentinel, .sentinel], laidTests := true, laidLooks := .later }
def TopTextCardSaid : Prop := Claim7.holds Tryz.pinned (.plain (OpenSpec.ofChange topTextSpec)) topTextCard

/-- THE SECOND FORM's CARD OF 'winepresslaw31.ScenarioBack'. -/
def scenarioBackUptoCard : Claim7 := { stood := { row := scenarioBackUptoRow, standIns := [], harness := (true, "8f256e56534d99d9d437bf471f491450d71bbf5a85101d6d2f9e9ed11f968928"), looks := true }, kinds := [], alts := [], laidByText := true, laidKinds := [.data, .data, .data, .sentinel, .sentinel], laidTests := true, laidLooks := .later }
def ScenarioBackUptoCardSaid : Prop := Claim7.holds Tryz.pinned (.plain (OpenSpec.upto scenarioBackSpec)) scenarioBackUptoCard

/-- THE SECOND FORM's CARD OF 'winepresslaw31.ScenarioSame'. -/
def scenarioSameUptoCard : Claim7 := { stood := { row := scenarioSameUptoRow, standIns := [], harness := (true, "8f256e56534d99d9d437bf471f491450d71bbf5a85101d6d2f9e9ed11f968928"), looks := true }, kinds := [], alts := [], laidByText := true, laidKinds := [.data, .data, .data, .sentinel, .sentinel], laidTests := true, laidLooks := .later }
def ScenarioSameUptoCardSaid : Prop := Claim7.holds Tryz.pinned (.plain (OpenSpec.upto scenarioSameSpec)) scenarioSameUptoCard

/-- THE SECOND FORM's CARD OF 'winepresslaw31.ScenarioSpoilt'. -/
def scenarioSpoiltUptoCard : Claim7 := { stood := { row := scenarioSpoiltUptoRow, standIns := [], harness := (true, "8f256e56534d99d9d437bf471f491450d71bbf5a85101d6d2f9e9ed11f968928"), looks := true }, kinds := [], alts := [], laidByText := true, laidKinds := [.data, .data, .data, .sentinel, .sentinel], laidTests := true, laidLooks := .later }
def ScenarioSpoiltUptoCardSaid : Prop := Claim7.holds Tryz.pinned (.plain (OpenSpec.upto scenarioSpoiltSpec)) scenarioSpoiltUptoCard

/-- THE SECOND FORM's CARD OF 'winepresslaw31.ScenarioScript'. -/
def scenarioScriptUptoCard : Claim7 := { stood := { row := scenarioScriptUptoRow, standIns := [], harness := (true, "8f256e56534d99d9d437bf471f491450d71bbf5a85101d6d2f9e9ed11f968928"), looks := true }, kinds := [], alts := [], laidByText := true, laidKinds := [.data, .data, .data, .sentinel, .sentinel], laidTests := true, laidLooks := .later }
def ScenarioScriptUptoCardSaid : Prop := Claim7.holds Tryz.pinned (.plain (OpenSpec.upto scenarioScriptSpec)) scenarioScriptUptoCard

/-- THE SECOND FORM's CARD OF 'winepresstop.TopText'. -/
def topTextUptoCard : Claim7 := { stood := { row := topTextUptoRow, standIns := [], harness := (true, "8f256e56534d99d9d437bf471f491450d71bbf5a85101d6d2f9e9ed11f968928"), looks := true }, kinds := [], alts := [], laidByText := true, laidKinds := [.data, .data, .data, .sentinel, .sentinel], laidTests := true, laidLooks := .later }
def TopTextUptoCardSaid : Prop := Claim7.holds Tryz.pinned (.plain (OpenSpec.upto topTextSpec)) topTextUptoCard
end Rows
end Go.Proofs.YtdpadhpcgkjdiaaGreatDoor
