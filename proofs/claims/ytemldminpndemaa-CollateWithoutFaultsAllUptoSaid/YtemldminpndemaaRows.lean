/-
  No cell of these rows narrows 'for every input' (looked for: loops, veiled, ifaces, maps, wideKeys, modest, calm, conditions, laid).
  DERIVED. THE GIVEN ROWS OF THIS SEAT. 5 by the template 'for every input the law returns true; each argument reads behind the call as it read before'; 0 by the template 'total and deterministic' (their statements: YtemldminpndemaaTotals.lean).
  GIVEN WITH THE SEED: the statements are not yours to turn. If you find one false, say at which input.
  Laid BY PROGRAM, IN A SANDBOX (cutbox-rows.mjs): the forced cells as the released guide's own fill.sh prints them over the translation 23d5edfaadf6f839… (all of the seat's roots in one cut). By AI agents, Wed Nov 11 2026. No macro, syntax, notation, axiom, sorry.
-/
import Derived.Test.YtemldminpndemaaChecked
import GoSem.Claim
import GoSem.ClaimJoined
import GoSem.ClaimMapViews
import Derived.JoinedTies
import Derived.KernelRfl
namespace Go.Proofs.Ytemldminpndemaa
/- THE CELL 'sum', in the pinned program and in every row, IS THE sha256 OF THE DUMP (.gsa) THAT YtemldminpndemaaProg.lean LOADS. Nothing in Lean hashes anything: it is a label: what it is worth is what the hold of that sum in a sandbox is worth. -/
noncomputable def Try.pinned : Pinned := { name := "ytemldminpndemaa", sum := "23d5edfaadf6f839e9e216e5c0292a8749d5a73197fe485f0bc932caad6f4522", checked := Try.checked }
namespace Rows
def none {H : Type} : Left H := { results := [], args := [] }

/-- 'printworkslaw4.CollateMatchesReference': WHATEVER THE INPUT: true; the input reads as it did. -/
def collateMatchesReferenceSpec : ChangeSpec := { name := "collateMatchesReference", fn := fun _ => fun
  | [d1, d2] => { results := [.lit (.bool true)], args := [d1, d2] }
  | _ => none }
def collateMatchesReferenceRow : OpenClaim := { program := "ytemldminpndemaa", sum := "23d5edfaadf6f839e9e216e5c0292a8749d5a73197fe485f0bc932caad6f4522", func := "printworks/printworkslaw4.CollateMatchesReference", spec := "collateMatchesReference", unfollowed := true, recurses := true, apart := false }
def CollateMatchesReferenceSaid : Prop := collateMatchesReferenceRow.holds Try.pinned (OpenSpec.ofChange collateMatchesReferenceSpec)

/-- ITS FALSE NEIGHBOUR: 'it returns false'. Refute it at one input. -/
def collateMatchesReferenceWrong : ChangeSpec := { name := "collateMatchesReference", fn := fun _ => fun
  | [d1, d2] => { results := [.lit (.bool false)], args := [d1, d2] }
  | _ => none }
def CollateMatchesReferenceWrongFalsely : Prop := collateMatchesReferenceRow.holds Try.pinned (OpenSpec.ofChange collateMatchesReferenceWrong)

/-- 'printworkskeep4.CollateCopiesMatch': WHATEVER THE INPUT: true; the input reads as it did. -/
def collateCopiesMatchSpec : ChangeSpec := { name := "collateCopiesMatch", fn := fun _ => fun
  | [d1, d2] => { results := [.lit (.bool true)], args := [d1, d2] }
  | _ => none }
def collateCopiesMatchRow : OpenClaim := { program := "ytemldminpndemaa", sum := "23d5edfaadf6f839e9e216e5c0292a8749d5a73197fe485f0bc932caad6f4522", func := "printworks/printworkskeep4.CollateCopiesMatch", spec := "collateCopiesMatch", unfollowed := true, recurses := true, apart := false }
def CollateCopiesMatchSaid : Prop := collateCopiesMatchRow.holds Try.pinned (OpenSpec.ofChange collateCopiesMatchSpec)

/-- ITS FALSE NEIGHBOUR: 'it returns false'. Refute it at one input. -/
def collateCopiesMatchWrong : ChangeSpec := { name := "collateCopiesMatch", fn := fun _ => fun
  | [d1, d2] => { results := [.lit (.bool false)], args := [d1, d2] }
  | _ => none }
def CollateCopiesMatchWrongFalsely : Prop := collateCopiesMatchRow.holds Try.pinned (OpenSpec.ofChange collateCopiesMatchWrong)

/-- 'printworkskeep4.CollateCountsAddUp': WHATEVER THE INPUT: true; the input reads as it did. -/
def collateCountsAddUpSpec : ChangeSpec := { name := "collateCountsAddUp", fn := fun _ => fun
  | [d1, d2] => { results := [.lit (.bool true)], args := [d1, d2] }
  | _ => none }
def collateCountsAddUpRow : OpenClaim := { program := "ytemldminpndemaa", sum := "23d5edfaadf6f839e9e216e5c0292a8749d5a73197fe485f0bc932caad6f4522", func := "printworks/printworkskeep4.CollateCountsAddUp", spec := "collateCountsAddUp", unfollowed := true, recurses := true, apart := false }
def CollateCountsAddUpSaid : Prop := collateCountsAddUpRow.holds Try.pinned (OpenSpec.ofChange collateCountsAddUpSpec)

/-- ITS FALSE NEIGHBOUR: 'it returns false'. Refute it at one input. -/
def collateCountsAddUpWrong : ChangeSpec := { name := "collateCountsAddUp", fn := fun _ => fun
  | [d1, d2] => { results := [.lit (.bool false)], args := [d1, d2] }
  | _ => none }
def CollateCountsAddUpWrongFalsely : Prop := collateCountsAddUpRow.holds Try.pinned (OpenSpec.ofChange collateCountsAddUpWrong)

/-- 'printworkskeep4.CollateWithoutFaultsAll': WHATEVER THE INPUT: true; the input reads as it did. -/
def collateWithoutFaultsAllSpec : ChangeSpec := { name := "collateWithoutFaultsAll", fn := fun _ => fun
  | [d] => { results := [.lit (.bool true)], args := [d] }
  | _ => none }
def collateWithoutFaultsAllRow : OpenClaim := { program := "ytemldminpndemaa", sum := "23d5edfaadf6f839e9e216e5c0292a8749d5a73197fe485f0bc932caad6f4522", func := "printworks/printworkskeep4.CollateWithoutFaultsAll", spec := "collateWithoutFaultsAll", unfollowed := true, recurses := true, apart := false }
def CollateWithoutFaultsAllSaid : Prop := collateWithoutFaultsAllRow.holds Try.pinned (OpenSpec.ofChange collateWithoutFaultsAllSpec)

/-- ITS FALSE NEIGHBOUR: 'it returns false'. Refute it at one input. -/
def collateWithoutFaultsAllWrong : ChangeSpec := { name := "collateWithoutFaultsAll", fn := fun _ => fun
  | [d] => { results := [.lit (.bool false)], args := [d] }
  | _ => none }
def CollateWithoutFaultsAllWrongFalsely : Prop := collateWithoutFaultsAllRow.holds Try.pinned (OpenSpec.ofChange collateWithoutFaultsAllWrong)

/-- 'printworkskeep4.CollateRemakes': WHATEVER THE INPUT: true; the input reads as it did. -/
def collateRemakesSpec : ChangeSpec := { name := "collateRemakes", fn := fun _ => fun
  | [d1, d2, d3, d4] => { results := [.lit (.bool true)], args := [d1, d2, d3, d4] }
  | _ => none }
def collateRemakesRow : OpenClaim := { program := "ytemldminpndemaa", sum := "23d5edfaadf6f839e9e216e5c0292a8749d5a73197fe485f0bc932caad6f4522", func := "printworks/printworkskeep4.CollateRemakes", spec := "collateRemakes", unfollowed := true, recurses := true, apart := false }
def CollateRemakesSaid : Prop := collateRemakesRow.holds Try.pinned (OpenSpec.ofChange collateRemakesSpec)

/-- ITS FALSE NEIGHBOUR: 'it returns false'. Refute it at one input. -/
def collateRemakesWrong : ChangeSpec := { name := "collateRemakes", fn := fun _ => fun
  | [d1, d2, d3, d4] => { results := [.lit (.bool false)], args := [d1, d2, d3, d4] }
  | _ => none }
def CollateRemakesWrongFalsely : Prop := collateRemakesRow.holds Try.pinned (OpenSpec.ofChange collateRemakesWrong)

/- THE SECOND FORM. 'bulk': how many values and letters a reading holds, each counted each time it is reached (what is shared counts as often as it is met; a slice's spare places count too). A statement '..UptoSaid' is the law's where the arguments, and the package variables that the reading takes, are together of bulk at most 1048576: NARROWER than '..Said'. Prove '..Said' where nothing that the law and all that it calls make is longer than what came in: it says more and counts as full. Else prove '..UptoSaid'. A law counts once. -/
mutual
def uptoBulk {H : Type} : DataW H → Nat
  | .lit (.string bytes) => bytes.length + 1
  | .lit _ => 1
  | .nil => 1
  | .ptr d => uptoBulk d + 1
  | .slice elems spare => uptoBulkAll elems + uptoBulkAll spare + 1
  | .agg parts => uptoBulkAll parts + 1
  | .iface _ d => uptoBulk d + 1
  | .map entries => uptoBulkEntries entries + 1
  | .held _ => 1
def uptoBulkAll {H : Type} : List (DataW H) → Nat
  | [] => 0
  | d :: r => uptoBulk d + uptoBulkAll r
def uptoBulkEntries {H : Type} : List (Lit × DataW H) → Nat
  | [] => 0
  | x :: r => uptoBulkEntry x + uptoBulkEntries r
def uptoBulkEntry {H : Type} : Lit × DataW H → Nat
  | (.string bytes, d) => bytes.length + uptoBulk d + 1
  | (_, d) => uptoBulk d + 1
 end
def uptoSmall : (H : Type) → List (DataW H) → Bool := fun _ ds => decide (uptoBulkAll ds ≤ 1048576)
def OpenSpec.upto (s : _root_.Go.ChangeSpec) : _root_.Go.OpenSpec := { _root_.Go.OpenSpec.ofChange s with cond := some uptoSmall }

/-- 'printworkslaw4.CollateMatchesReference', WHERE WHAT IT READS IS OF BULK AT MOST 1048576: true; the input reads as it did. -/
def collateMatchesReferenceUptoRow : OpenClaim := { program := "ytemldminpndemaa", sum := "23d5edfaadf6f839e9e216e5c0292a8749d5a73197fe485f0bc932caad6f4522", func := "printworks/printworkslaw4.CollateMatchesReference", spec := "collateMatchesReference", unfollowed := true, recurses := true, apart := false, narrowed := true }
def CollateMatchesReferenceUptoSaid : Prop := collateMatchesReferenceUptoRow.holds Try.pinned (OpenSpec.upto collateMatchesReferenceSpec)

/-- 'printworkskeep4.CollateCopiesMatch', WHERE WHAT IT READS IS OF BULK AT MOST 1048576: true; the input reads as it did. -/
def collateCopiesMatchUptoRow : OpenClaim := { program := "ytemldminpndemaa", sum := "23d5edfaadf6f839e9e216e5c0292a8749d5a73197fe485f0bc932caad6f4522", func := "printworks/printworkskeep4.CollateCopiesMatch", spec := "collateCopiesMatch", unfollowed := true, recurses := true, apart := false, narrowed := true }
def CollateCopiesMatchUptoSaid : Prop := collateCopiesMatchUptoRow.holds Try.pinned (OpenSpec.upto collateCopiesMatchSpec)

/-- 'printworkskeep4.CollateCountsAddUp', WHERE WHAT IT READS IS OF BULK AT MOST 1048576: true; the input reads as it did. -/
def collateCountsAddUpUptoRow : OpenClaim := { program := "ytemldminpndemaa", sum := "23d5edfaadf6f839e9e216e5c0292a8749d5a73197fe485f0bc932caad6f4522", func := "printworks/printworkskeep4.CollateCountsAddUp", spec := "collateCountsAddUp", unfollowed := true, recurses := true, apart := false, narrowed := true }
def CollateCountsAddUpUptoSaid : Prop := collateCountsAddUpUptoRow.holds Try.pinned (OpenSpec.upto collateCountsAddUpSpec)

/-- 'printworkskeep4.CollateWithoutFaultsAll', WHERE WHAT IT READS IS OF BULK AT MOST 1048576: true; the input reads as it did. -/
def collateWithoutFaultsAllUptoRow : OpenClaim := { program := "ytemldminpndemaa", sum := "23d5edfaadf6f839e9e216e5c0292a8749d5a73197fe485f0bc932caad6f4522", func := "printworks/printworkskeep4.CollateWithoutFaultsAll", spec := "collateWithoutFaultsAll", unfollowed := true, recurses := true, apart := false, narrowed := true }
def CollateWithoutFaultsAllUptoSaid : Prop := collateWithoutFaultsAllUptoRow.holds Try.pinned (OpenSpec.upto collateWithoutFaultsAllSpec)

/-- 'printworkskeep4.CollateRemakes', WHERE WHAT IT READS IS OF BULK AT MOST 1048576: true; the input reads as it did. -/
def collateRemakesUptoRow : OpenClaim := { program := "ytemldminpndemaa", sum := "23d5edfaadf6f839e9e216e5c0292a8749d5a73197fe485f0bc932caad6f4522", func := "printworks/printworkskeep4.CollateRemakes", spec := "collateRemakes", unfollowed := true, recurses := true, apart := false, narrowed := true }
def CollateRemakesUptoSaid : Prop := collateRemakesUptoRow.holds Try.pinned (OpenSpec.upto collateRemakesSpec)

end Rows
end Go.Proofs.Ytemldminpndemaa
