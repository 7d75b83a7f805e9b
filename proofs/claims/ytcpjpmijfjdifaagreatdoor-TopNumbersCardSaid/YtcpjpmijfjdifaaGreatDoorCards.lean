/-
  DERIVED. GIVEN WITH THE SEED: THE CARDS: each row of YtcpjpmijfjdifaaGreatDoorRows.lean that lists a variable, with what it lists TIED to the program's text (the seventh form; the later family's looks); each row that meets fmt, with fmt's text TOLD by the authors' own Lean function (tested against real Go, not proved from fmt's source: count such statements apart). THE CARD IS WHAT COUNTS. Prove the row's statement (the work); the ties are given (YtcpjpmijfjdifaaGreatDoorTie.lean); close each card by the builder's one call (the guide's Derived/Test/ToyasCard.lean, 'card_holds'). Laid BY PROGRAM, IN A SANDBOX (cutbox-door.mjs). By AI agents, Wed Nov 11 2026. No macro, syntax, notation, axiom, sorry.
-/
import Derived.Test.YtcpjpmijfjdifaaGreatDoorRows
import GoSem.ClaimSeven
namespace Go.Proofs.YtcpjpmijfjdifaaGreatDoor
namespace Rows

/-- THE TIED CARD OF 'printworkstop.TopNumbers'. -/
def topNumbersCard : Claim7 := { stood := { row := topNumbersRow, standIns := [], harness := (true, "316d9356c73d95cdc77ed0e0993f438bc467ab6ff94f0322feca53d08afd4317"), looks := true }, kinds := [], alts := [], laidByText := true, laidKinds := [.data, .data, .data, .sentinel, .sentinel], laidTests := true, laidLooks := .later }
def TopNumbersCardSaid : Prop := Claim7.holds Tryz.pinned (.plain (OpenSpec.ofChange topNumbersSpec)) topNumbersCard

/-- THE SECOND FORM's CARD OF 'printworkstop.TopNumbers'. -/
def topNumbersUptoCard : Claim7 := { stood := { row := topNumbersUptoRow, standIns := [], harness := (true, "316d9356c73d95cdc77ed0e0993f438bc467ab6ff94f0322feca53d08afd4317"), looks := true }, kinds := [], alts := [], laidByText := true, laidKinds := [.data, .data, .data, .sentinel, .sentinel], laidTests := true, laidLooks := .later }
def TopNumbersUptoCardSaid : Prop := Claim7.holds Tryz.pinned (.plain (OpenSpec.upto topNumbersSpec)) topNumbersUptoCard
end Rows
end Go.Proofs.YtcpjpmijfjdifaaGreatDoor
