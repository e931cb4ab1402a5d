/-
  DERIVED. GIVEN WITH THE SEED: THE CARDS: each row of YtjnhljphfgcamaaGreatDoorRows.lean that lists a variable, with what it lists TIED to the program's text (the seventh form; the later family's looks); each row that meets fmt, with fmt's text TOLD by the authors' own Lean function (tested against real Go, not proved from fmt's source: count such statements apart). THE CARD IS WHAT COUNTS. Prove the row's statement (the work); the ties are given (YtjnhljphfgcamaaGreatDoorTie.lean); close each card by the builder's one call (the guide's Derived/Test/ToyasCard.lean, 'card_holds'). Laid BY PROGRAM, IN A SANDBOX (cutbox-door.mjs). By AI agents, Wed Nov 11 2026. No macro, syntax, notation, axiom, sorry.
-/
import Derived.Test.YtjnhljphfgcamaaGreatDoorRows
import GoSem.ClaimSeven
namespace Go.Proofs.YtjnhljphfgcamaaGreatDoor
namespace Rows

/-- THE TIED CARD OF 'winepresslaw31.ScenarioSpoilt'. -/
def scenarioSpoiltCard : Claim7 := { stood := { row := scenarioSpoiltRow, standIns := [], harness := (true, "89ff29f15275d4f4990af4eed1a5e2ec8c97176cefde2bbbf2aa114b094bb343"), looks := true }, kinds := [], alts := [], laidByText := true, laidKinds := [.data, .data, .data, .sentinel, .sentinel], laidTests := true, laidLooks := .later }
def ScenarioSpoiltCardSaid : Prop := Claim7.holds Tryz.pinned (.plain (OpenSpec.ofChange scenarioSpoiltSpec)) scenarioSpoiltCard

/-- THE TIED CARD OF 'winepresstop.TopText'. -/
def topTextCard : Claim7 := { stood := { row := topTextRow, standIns := [], harness := (true, "89ff29f15275d4f4990af4eed1a5e2ec8c97176cefde2bbbf2aa114b094bb343"), looks := true }, kinds := [], alts := [], laidByText := true, laidKinds := [.data, .data, .data, .sentinel, .sentinel], laidTests := true, laidLooks := .later }
def TopTextCardSaid : Prop := Claim7.holds Tryz.pinned (.plain (OpenSpec.ofChange topTextSpec)) topTextCard

/-- THE SECOND FORM's CARD OF 'winepresslaw31.ScenarioSpoilt'. -/
def scenarioSpoiltUptoCard : Claim7 := { stood := { row := scenarioSpoiltUptoRow, standIns := [], harness := (true, "89ff29f15275d4f4990af4eed1a5e2ec8c97176cefde2bbbf2aa114b094bb343"), looks := true }, kinds := [], alts := [], laidByText := true, laidKinds := [.data, .data, .data, .sentinel, .sentinel], laidTests := true, laidLooks := .later }
def ScenarioSpoiltUptoCardSaid : Prop := Claim7.holds Tryz.pinned (.plain (OpenSpec.upto scenarioSpoiltSpec)) scenarioSpoiltUptoCard

/-- THE SECOND FORM's CARD OF 'winepresstop.TopText'. -/
def topTextUptoCard : Claim7 := { stood := { row := topTextUptoRow, standIns := [], harness := (true, "89ff29f15275d4f4990af4eed1a5e2ec8c97176cefde2bbbf2aa114b094bb343"), looks := true }, kinds := [], alts := [], laidByText := true, laidKinds := [.data, .data, .data, .sentinel, .sentinel], laidTests := true, laidLooks := .later }
def TopTextUptoCardSaid : Prop := Claim7.holds Tryz.pinned (.plain (OpenSpec.upto topTextSpec)) topTextUptoCard
end Rows
end Go.Proofs.YtjnhljphfgcamaaGreatDoor
