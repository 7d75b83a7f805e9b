/-
  DERIVED. GIVEN WITH THE SEED: THE CARDS: each row of YtnnnihjagjfkdaaGreatDoorRows.lean that lists a variable, with what it lists TIED to the program's text (the seventh form; the later family's looks); each row that meets fmt, with fmt's text TOLD by the authors' own Lean function (tested against real Go, not proved from fmt's source: count such statements apart). THE CARD IS WHAT COUNTS. Prove the row's statement (the work); the ties are given (YtnnnihjagjfkdaaGreatDoorTie.lean); close each card by the builder's one call (the guide's Derived/Test/ToyasCard.lean, 'card_holds'). Laid BY PROGRAM, IN A SANDBOX (cutbox-door.mjs). By AI agents, Wed Nov 11 2026. No macro, syntax, notation, axiom, sorry.
-/
import Derived.Test.YtnnnihjagjfkdaaGreatDoorRows
import GoSem.ClaimSeven
namespace Go.Proofs.YtnnnihjagjfkdaaGreatDoor
namespace Rows

/-- THE TIED CARD OF 'printworkslaw4.SpoolOpenMatchesReference'. -/
def spoolOpenMatchesReferenceCard : Claim7 := { stood := { row := spoolOpenMatchesReferenceRow, standIns := [], harness := (true, "7366b69017912a9f519f97b66bb674810f7c2ada5968c700791d7de1dd9c8296"), looks := true }, kinds := [], alts := [], laidByText := true, laidKinds := [.data, .data, .data, .data, .sentinel, .sentinel, .data, .pinned], laidTests := true, laidLooks := .later }
def SpoolOpenMatchesReferenceCardSaid : Prop := Claim7.holds Tryz.pinned (.plain (OpenSpec.ofChange spoolOpenMatchesReferenceSpec)) spoolOpenMatchesReferenceCard

/-- THE TIED CARD OF 'printworkskeep4.SpoolReopenStable'. -/
def spoolReopenStableCard : Claim7 := { stood := { row := spoolReopenStableRow, standIns := [], harness := (true, "7366b69017912a9f519f97b66bb674810f7c2ada5968c700791d7de1dd9c8296"), looks := true }, kinds := [], alts := [], laidByText := true, laidKinds := [.data, .data, .data, .data, .sentinel, .sentinel, .data, .pinned], laidTests := true, laidLooks := .later }
def SpoolReopenStableCardSaid : Prop := Claim7.holds Tryz.pinned (.plain (OpenSpec.ofChange spoolReopenStableSpec)) spoolReopenStableCard

/-- THE TIED CARD OF 'printworkskeep4.SpoolCrashIsPrefix'. -/
def spoolCrashIsPrefixCard : Claim7 := { stood := { row := spoolCrashIsPrefixRow, standIns := [], harness := (true, "7366b69017912a9f519f97b66bb674810f7c2ada5968c700791d7de1dd9c8296"), looks := true }, kinds := [], alts := [], laidByText := true, laidKinds := [.data, .data, .data, .data, .sentinel, .sentinel, .data, .pinned], laidTests := true, laidLooks := .later }
def SpoolCrashIsPrefixCardSaid : Prop := Claim7.holds Tryz.pinned (.plain (OpenSpec.ofChange spoolCrashIsPrefixSpec)) spoolCrashIsPrefixCard

/-- THE TIED CARD OF 'printworkskeep4.SpoolCrashKeepsAcknowledged'. -/
def spoolCrashKeepsAcknowledgedCard : Claim7 := { stood := { row := spoolCrashKeepsAcknowledgedRow, standIns := [], harness := (true, "7366b69017912a9f519f97b66bb674810f7c2ada5968c700791d7de1dd9c8296"), looks := true }, kinds := [], alts := [], laidByText := true, laidKinds := [.data, .data, .data, .data, .sentinel, .sentinel, .data, .pinned], laidTests := true, laidLooks := .later }
def SpoolCrashKeepsAcknowledgedCardSaid : Prop := Claim7.holds Tryz.pinned (.plain (OpenSpec.ofChange spoolCrashKeepsAcknowledgedSpec)) spoolCrashKeepsAcknowledgedCard

/-- THE TIED CARD OF 'printworkskeep4.SpoolCompactKeepsJobs'. -/
def spoolCompactKeepsJobsCard : Claim7 := { stood := { row := spoolCompactKeepsJobsRow, standIns := [], harness := (true, "7366b69017912a9f519f97b66bb674810f7c2ada5968c700791d7de1dd9c8296"), looks := true }, kinds := [], alts := [], laidByText := true, laidKinds := [.data, .data, .data, .data, .sentinel, .sentinel, .data, .pinned], laidTests := true, laidLooks := .later }
def SpoolCompactKeepsJobsCardSaid : Prop := Claim7.holds Tryz.pinned (.plain (OpenSpec.ofChange spoolCompactKeepsJobsSpec)) spoolCompactKeepsJobsCard

/-- THE SECOND FORM's CARD OF 'printworkslaw4.SpoolOpenMatchesReference'. -/
def spoolOpenMatchesReferenceUptoCard : Claim7 := { stood := { row := spoolOpenMatchesReferenceUptoRow, standIns := [], harness := (true, "7366b69017912a9f519f97b66bb674810f7c2ada5968c700791d7de1dd9c8296"), looks := true }, kinds := [], alts := [], laidByText := true, laidKinds := [.data, .data, .data, .data, .sentinel, .sentinel, .data, .pinned], laidTests := true, laidLooks := .later }
def SpoolOpenMatchesReferenceUptoCardSaid : Prop := Claim7.holds Tryz.pinned (.plain (OpenSpec.upto spoolOpenMatchesReferenceSpec)) spoolOpenMatchesReferenceUptoCard

/-- THE SECOND FORM's CARD OF 'printworkskeep4.SpoolReopenStable'. -/
def spoolReopenStableUptoCard : Claim7 := { stood := { row := spoolReopenStableUptoRow, standIns := [], harness := (true, "7366b69017912a9f519f97b66bb674810f7c2ada5968c700791d7de1dd9c8296"), looks := true }, kinds := [], alts := [], laidByText := true, laidKinds := [.data, .data, .data, .data, .sentinel, .sentinel, .data, .pinned], laidTests := true, laidLooks := .later }
def SpoolReopenStableUptoCardSaid : Prop := Claim7.holds Tryz.pinned (.plain (OpenSpec.upto spoolReopenStableSpec)) spoolReopenStableUptoCard

/-- THE SECOND FORM's CARD OF 'printworkskeep4.SpoolCrashIsPrefix'. -/
def spoolCrashIsPrefixUptoCard : Claim7 := { stood := { row := spoolCrashIsPrefixUptoRow, standIns := [], harness := (true, "7366b69017912a9f519f97b66bb674810f7c2ada5968c700791d7de1dd9c8296"), looks := true }, kinds := [], alts := [], laidByText := true, laidKinds := [.data, .data, .data, .data, .sentinel, .sentinel, .data, .pinned], laidTests := true, laidLooks := .later }
def SpoolCrashIsPrefixUptoCardSaid : Prop := Claim7.holds Tryz.pinned (.plain (OpenSpec.upto spoolCrashIsPrefixSpec)) spoolCrashIsPrefixUptoCard

/-- THE SECOND FORM's CARD OF 'printworkskeep4.SpoolCrashKeepsAcknowledged'. -/
def spoolCrashKeepsAcknowledgedUptoCard : Claim7 := { stood := { row := spoolCrashKeepsAcknowledgedUptoRow, standIns := [], harness := (true, "7366b69017912a9f519f97b66bb674810f7c2ada5968c700791d7de1dd9c8296"), looks := true }, kinds := [], alts := [], laidByText := true, laidKinds := [.data, .data, .data, .data, .sentinel, .sentinel, .data, .pinned], laidTests := true, laidLooks := .later }
def SpoolCrashKeepsAcknowledgedUptoCardSaid : Prop := Claim7.holds Tryz.pinned (.plain (OpenSpec.upto spoolCrashKeepsAcknowledgedSpec)) spoolCrashKeepsAcknowledgedUptoCard

/-- THE SECOND FORM's CARD OF 'printworkskeep4.SpoolCompactKeepsJobs'. -/
def spoolCompactKeepsJobsUptoCard : Claim7 := { stood := { row := spoolCompactKeepsJobsUptoRow, standIns := [], harness := (true, "7366b69017912a9f519f97b66bb674810f7c2ada5968c700791d7de1dd9c8296"), looks := true }, kinds := [], alts := [], laidByText := true, laidKinds := [.data, .data, .data, .data, .sentinel, .sentinel, .data, .pinned], laidTests := true, laidLooks := .later }
def SpoolCompactKeepsJobsUptoCardSaid : Prop := Claim7.holds Tryz.pinned (.plain (OpenSpec.upto spoolCompactKeepsJobsSpec)) spoolCompactKeepsJobsUptoCard
end Rows
end Go.Proofs.YtnnnihjagjfkdaaGreatDoor
