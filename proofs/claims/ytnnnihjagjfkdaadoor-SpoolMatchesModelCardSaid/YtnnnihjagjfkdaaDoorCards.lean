/-
  DERIVED. GIVEN WITH THE SEED: THE CARDS: each row of YtnnnihjagjfkdaaDoorRows.lean that lists a variable, with what it lists TIED to the program's text (the seventh form; the later family's looks); each row that meets fmt, with fmt's text TOLD by the authors' own Lean function (tested against real Go, not proved from fmt's source: count such statements apart). THE CARD IS WHAT COUNTS. Prove the row's statement (the work); the ties are given (YtnnnihjagjfkdaaDoorTie.lean); close each card by the builder's one call (the guide's Derived/Test/ToyasCard.lean, 'card_holds'). Laid BY PROGRAM, IN A SANDBOX (cutbox-door.mjs). By AI agents, Wed Nov 11 2026. No macro, syntax, notation, axiom, sorry.
-/
import Derived.Test.YtnnnihjagjfkdaaDoorRows
import GoSem.ClaimSeven
namespace Go.Proofs.YtnnnihjagjfkdaaDoor
namespace Rows

/-- THE TIED CARD OF 'printworkslaw4.SpoolCrashArrives'. -/
def spoolCrashArrivesCard : Claim7 := { stood := { row := spoolCrashArrivesRow, standIns := [], harness := (true, "0bd6eec05d7bc2c149d56bee3747e418f42fb76ec06cddd87ec85b1b3d7f2b2d"), looks := false }, kinds := [], alts := [], laidByText := true, laidKinds := [.data, .data, .data, .data], laidTests := true, laidLooks := .later }
def SpoolCrashArrivesCardSaid : Prop := Claim7.holds Tryd.pinned (.plain (OpenSpec.ofChange spoolCrashArrivesSpec)) spoolCrashArrivesCard

/-- THE TIED CARD OF 'printworkskeep4.SpoolLeasesExclusive'. -/
def spoolLeasesExclusiveCard : Claim7 := { stood := { row := spoolLeasesExclusiveRow, standIns := [], harness := (true, "0bd6eec05d7bc2c149d56bee3747e418f42fb76ec06cddd87ec85b1b3d7f2b2d"), looks := false }, kinds := [], alts := [], laidByText := true, laidKinds := [.data, .data, .data, .data], laidTests := true, laidLooks := .later }
def SpoolLeasesExclusiveCardSaid : Prop := Claim7.holds Tryd.pinned (.plain (OpenSpec.ofChange spoolLeasesExclusiveSpec)) spoolLeasesExclusiveCard

/-- THE TIED CARD OF 'printworkslaw4.SpoolMatchesModel'. -/
def spoolMatchesModelCard : Claim7 := { stood := { row := spoolMatchesModelRow, standIns := [], harness := (true, "0bd6eec05d7bc2c149d56bee3747e418f42fb76ec06cddd87ec85b1b3d7f2b2d"), looks := false }, kinds := [], alts := [], laidByText := true, laidKinds := [.data, .data, .data, .data], laidTests := true, laidLooks := .later }
def SpoolMatchesModelCardSaid : Prop := Claim7.holds Tryd.pinned (.plain (OpenSpec.ofChange spoolMatchesModelSpec)) spoolMatchesModelCard

/-- THE SECOND FORM's CARD OF 'printworkslaw4.SpoolCrashArrives'. -/
def spoolCrashArrivesUptoCard : Claim7 := { stood := { row := spoolCrashArrivesUptoRow, standIns := [], harness := (true, "0bd6eec05d7bc2c149d56bee3747e418f42fb76ec06cddd87ec85b1b3d7f2b2d"), looks := false }, kinds := [], alts := [], laidByText := true, laidKinds := [.data, .data, .data, .data], laidTests := true, laidLooks := .later }
def SpoolCrashArrivesUptoCardSaid : Prop := Claim7.holds Tryd.pinned (.plain (OpenSpec.upto spoolCrashArrivesSpec)) spoolCrashArrivesUptoCard

/-- THE SECOND FORM's CARD OF 'printworkskeep4.SpoolLeasesExclusive'. -/
def spoolLeasesExclusiveUptoCard : Claim7 := { stood := { row := spoolLeasesExclusiveUptoRow, standIns := [], harness := (true, "0bd6eec05d7bc2c149d56bee3747e418f42fb76ec06cddd87ec85b1b3d7f2b2d"), looks := false }, kinds := [], alts := [], laidByText := true, laidKinds := [.data, .data, .data, .data], laidTests := true, laidLooks := .later }
def SpoolLeasesExclusiveUptoCardSaid : Prop := Claim7.holds Tryd.pinned (.plain (OpenSpec.upto spoolLeasesExclusiveSpec)) spoolLeasesExclusiveUptoCard

/-- THE SECOND FORM's CARD OF 'printworkslaw4.SpoolMatchesModel'. -/
def spoolMatchesModelUptoCard : Claim7 := { stood := { row := spoolMatchesModelUptoRow, standIns := [], harness := (true, "0bd6eec05d7bc2c149d56bee3747e418f42fb76ec06cddd87ec85b1b3d7f2b2d"), looks := false }, kinds := [], alts := [], laidByText := true, laidKinds := [.data, .data, .data, .data], laidTests := true, laidLooks := .later }
def SpoolMatchesModelUptoCardSaid : Prop := Claim7.holds Tryd.pinned (.plain (OpenSpec.upto spoolMatchesModelSpec)) spoolMatchesModelUptoCard
end Rows
end Go.Proofs.YtnnnihjagjfkdaaDoor
