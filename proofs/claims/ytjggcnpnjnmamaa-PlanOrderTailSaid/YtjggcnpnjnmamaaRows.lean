/-
  No cell of these rows narrows 'for every input' (looked for: loops, veiled, ifaces, maps, wideKeys, modest, calm, conditions, laid).
  DERIVED. THE GIVEN ROWS OF THIS SEAT. 9 by the template 'for every input the law returns true; each argument reads behind the call as it read before'; 0 by the template 'total and deterministic' (their statements: YtjggcnpnjnmamaaTotals.lean).
  GIVEN WITH THE SEED: the statements are not yours to turn. If you find one false, say at which input.
  Laid BY PROGRAM, IN A SANDBOX (cutbox-rows.mjs): the forced cells as the released guide's own fill.sh prints them over the translation fa1d3c4839e5b9be… (all of the seat's roots in one cut). By AI agents, Wed Nov 11 2026. No macro, syntax, notation, axiom, sorry.
-/
import Derived.Test.YtjggcnpnjnmamaaChecked
import GoSem.Claim
import GoSem.ClaimJoined
import GoSem.ClaimMapViews
import Derived.JoinedTies
import Derived.KernelRfl
namespace Go.Proofs.Ytjggcnpnjnmamaa
/- THE CELL 'sum', in the pinned program and in every row, IS THE sha256 OF THE DUMP (.gsa) THAT YtjggcnpnjnmamaaProg.lean LOADS. Nothing in Lean hashes anything: it is a label: what it is worth is what the hold of that sum in a sandbox is worth. -/
noncomputable def Try.pinned : Pinned := { name := "ytjggcnpnjnmamaa", sum := "fa1d3c4839e5b9be5c5471e60ad5d59d7f5dfdb7e6a88787aa09dd574ac37263", checked := Try.checked }
namespace Rows
def none {H : Type} : Left H := { results := [], args := [] }

/-- 'printworkslaw4.PlanAssignCheapest': WHATEVER THE INPUT: true; the input reads as it did. -/
def planAssignCheapestSpec : ChangeSpec := { name := "planAssignCheapest", fn := fun _ => fun
  | [d] => { results := [.lit (.bool true)], args := [d] }
  | _ => none }
def planAssignCheapestRow : OpenClaim := { program := "ytjggcnpnjnmamaa", sum := "fa1d3c4839e5b9be5c5471e60ad5d59d7f5dfdb7e6a88787aa09dd574ac37263", func := "printworks/printworkslaw4.PlanAssignCheapest", spec := "planAssignCheapest", recurses := true, apart := false }
def PlanAssignCheapestSaid : Prop := planAssignCheapestRow.holds Try.pinned (OpenSpec.ofChange planAssignCheapestSpec)

/-- ITS FALSE NEIGHBOUR: 'it returns false'. Refute it at one input. -/
def planAssignCheapestWrong : ChangeSpec := { name := "planAssignCheapest", fn := fun _ => fun
  | [d] => { results := [.lit (.bool false)], args := [d] }
  | _ => none }
def PlanAssignCheapestWrongFalsely : Prop := planAssignCheapestRow.holds Try.pinned (OpenSpec.ofChange planAssignCheapestWrong)

/-- 'printworkskeep4.PlanAssignShifted': WHATEVER THE INPUT: true; the input reads as it did. -/
def planAssignShiftedSpec : ChangeSpec := { name := "planAssignShifted", fn := fun _ => fun
  | [d1, d2, d3] => { results := [.lit (.bool true)], args := [d1, d2, d3] }
  | _ => none }
def planAssignShiftedRow : OpenClaim := { program := "ytjggcnpnjnmamaa", sum := "fa1d3c4839e5b9be5c5471e60ad5d59d7f5dfdb7e6a88787aa09dd574ac37263", func := "printworks/printworkskeep4.PlanAssignShifted", spec := "planAssignShifted", apart := false }
def PlanAssignShiftedSaid : Prop := planAssignShiftedRow.holds Try.pinned (OpenSpec.ofChange planAssignShiftedSpec)

/-- ITS FALSE NEIGHBOUR: 'it returns false'. Refute it at one input. -/
def planAssignShiftedWrong : ChangeSpec := { name := "planAssignShifted", fn := fun _ => fun
  | [d1, d2, d3] => { results := [.lit (.bool false)], args := [d1, d2, d3] }
  | _ => none }
def PlanAssignShiftedWrongFalsely : Prop := planAssignShiftedRow.holds Try.pinned (OpenSpec.ofChange planAssignShiftedWrong)

/-- 'printworkslaw4.PlanVerifyAccepts': WHATEVER THE INPUT: true; the input reads as it did. -/
def planVerifyAcceptsSpec : ChangeSpec := { name := "planVerifyAccepts", fn := fun _ => fun
  | [d1, d2] => { results := [.lit (.bool true)], args := [d1, d2] }
  | _ => none }
def planVerifyAcceptsRow : OpenClaim := { program := "ytjggcnpnjnmamaa", sum := "fa1d3c4839e5b9be5c5471e60ad5d59d7f5dfdb7e6a88787aa09dd574ac37263", func := "printworks/printworkslaw4.PlanVerifyAccepts", spec := "planVerifyAccepts", apart := false }
def PlanVerifyAcceptsSaid : Prop := planVerifyAcceptsRow.holds Try.pinned (OpenSpec.ofChange planVerifyAcceptsSpec)

/-- ITS FALSE NEIGHBOUR: 'it returns false'. Refute it at one input. -/
def planVerifyAcceptsWrong : ChangeSpec := { name := "planVerifyAccepts", fn := fun _ => fun
  | [d1, d2] => { results := [.lit (.bool false)], args := [d1, d2] }
  | _ => none }
def PlanVerifyAcceptsWrongFalsely : Prop := planVerifyAcceptsRow.holds Try.pinned (OpenSpec.ofChange planVerifyAcceptsWrong)

/-- 'printworkslaw4.PlanVerifyDamaged': WHATEVER THE INPUT: true; the input reads as it did. -/
def planVerifyDamagedSpec : ChangeSpec := { name := "planVerifyDamaged", fn := fun _ => fun
  | [d1, d2, d3] => { results := [.lit (.bool true)], args := [d1, d2, d3] }
  | _ => none }
def planVerifyDamagedRow : OpenClaim := { program := "ytjggcnpnjnmamaa", sum := "fa1d3c4839e5b9be5c5471e60ad5d59d7f5dfdb7e6a88787aa09dd574ac37263", func := "printworks/printworkslaw4.PlanVerifyDamaged", spec := "planVerifyDamaged", apart := false }
def PlanVerifyDamagedSaid : Prop := planVerifyDamagedRow.holds Try.pinned (OpenSpec.ofChange planVerifyDamagedSpec)

/-- ITS FALSE NEIGHBOUR: 'it returns false'. Refute it at one input. -/
def planVerifyDamagedWrong : ChangeSpec := { name := "planVerifyDamaged", fn := fun _ => fun
  | [d1, d2, d3] => { results := [.lit (.bool false)], args := [d1, d2, d3] }
  | _ => none }
def PlanVerifyDamagedWrongFalsely : Prop := planVerifyDamagedRow.holds Try.pinned (OpenSpec.ofChange planVerifyDamagedWrong)

/-- 'printworkskeep4.PlanDualBoundsAll': WHATEVER THE INPUT: true; the input reads as it did. -/
def planDualBoundsAllSpec : ChangeSpec := { name := "planDualBoundsAll", fn := fun _ => fun
  | [d1, d2] => { results := [.lit (.bool true)], args := [d1, d2] }
  | _ => none }
def planDualBoundsAllRow : OpenClaim := { program := "ytjggcnpnjnmamaa", sum := "fa1d3c4839e5b9be5c5471e60ad5d59d7f5dfdb7e6a88787aa09dd574ac37263", func := "printworks/printworkskeep4.PlanDualBoundsAll", spec := "planDualBoundsAll", apart := false }
def PlanDualBoundsAllSaid : Prop := planDualBoundsAllRow.holds Try.pinned (OpenSpec.ofChange planDualBoundsAllSpec)

/-- ITS FALSE NEIGHBOUR: 'it returns false'. Refute it at one input. -/
def planDualBoundsAllWrong : ChangeSpec := { name := "planDualBoundsAll", fn := fun _ => fun
  | [d1, d2] => { results := [.lit (.bool false)], args := [d1, d2] }
  | _ => none }
def PlanDualBoundsAllWrongFalsely : Prop := planDualBoundsAllRow.holds Try.pinned (OpenSpec.ofChange planDualBoundsAllWrong)

/-- 'printworkslaw4.PlanTimesMatchReference': WHATEVER THE INPUT: true; the input reads as it did. -/
def planTimesMatchReferenceSpec : ChangeSpec := { name := "planTimesMatchReference", fn := fun _ => fun
  | [d] => { results := [.lit (.bool true)], args := [d] }
  | _ => none }
def planTimesMatchReferenceRow : OpenClaim := { program := "ytjggcnpnjnmamaa", sum := "fa1d3c4839e5b9be5c5471e60ad5d59d7f5dfdb7e6a88787aa09dd574ac37263", func := "printworks/printworkslaw4.PlanTimesMatchReference", spec := "planTimesMatchReference", apart := false }
def PlanTimesMatchReferenceSaid : Prop := planTimesMatchReferenceRow.holds Try.pinned (OpenSpec.ofChange planTimesMatchReferenceSpec)

/-- ITS FALSE NEIGHBOUR: 'it returns false'. Refute it at one input. -/
def planTimesMatchReferenceWrong : ChangeSpec := { name := "planTimesMatchReference", fn := fun _ => fun
  | [d] => { results := [.lit (.bool false)], args := [d] }
  | _ => none }
def PlanTimesMatchReferenceWrongFalsely : Prop := planTimesMatchReferenceRow.holds Try.pinned (OpenSpec.ofChange planTimesMatchReferenceWrong)

/-- 'printworkslaw4.PlanOrderCheapest': WHATEVER THE INPUT: true; the input reads as it did. -/
def planOrderCheapestSpec : ChangeSpec := { name := "planOrderCheapest", fn := fun _ => fun
  | [d1, d2] => { results := [.lit (.bool true)], args := [d1, d2] }
  | _ => none }
def planOrderCheapestRow : OpenClaim := { program := "ytjggcnpnjnmamaa", sum := "fa1d3c4839e5b9be5c5471e60ad5d59d7f5dfdb7e6a88787aa09dd574ac37263", func := "printworks/printworkslaw4.PlanOrderCheapest", spec := "planOrderCheapest", recurses := true, apart := false }
def PlanOrderCheapestSaid : Prop := planOrderCheapestRow.holds Try.pinned (OpenSpec.ofChange planOrderCheapestSpec)

/-- ITS FALSE NEIGHBOUR: 'it returns false'. Refute it at one input. -/
def planOrderCheapestWrong : ChangeSpec := { name := "planOrderCheapest", fn := fun _ => fun
  | [d1, d2] => { results := [.lit (.bool false)], args := [d1, d2] }
  | _ => none }
def PlanOrderCheapestWrongFalsely : Prop := planOrderCheapestRow.holds Try.pinned (OpenSpec.ofChange planOrderCheapestWrong)

/-- 'printworkskeep4.PlanChainCritical': WHATEVER THE INPUT: true; the input reads as it did. -/
def planChainCriticalSpec : ChangeSpec := { name := "planChainCritical", fn := fun _ => fun
  | [d] => { results := [.lit (.bool true)], args := [d] }
  | _ => none }
def planChainCriticalRow : OpenClaim := { program := "ytjggcnpnjnmamaa", sum := "fa1d3c4839e5b9be5c5471e60ad5d59d7f5dfdb7e6a88787aa09dd574ac37263", func := "printworks/printworkskeep4.PlanChainCritical", spec := "planChainCritical", apart := false }
def PlanChainCriticalSaid : Prop := planChainCriticalRow.holds Try.pinned (OpenSpec.ofChange planChainCriticalSpec)

/-- ITS FALSE NEIGHBOUR: 'it returns false'. Refute it at one input. -/
def planChainCriticalWrong : ChangeSpec := { name := "planChainCritical", fn := fun _ => fun
  | [d] => { results := [.lit (.bool false)], args := [d] }
  | _ => none }
def PlanChainCriticalWrongFalsely : Prop := planChainCriticalRow.holds Try.pinned (OpenSpec.ofChange planChainCriticalWrong)

/-- 'printworkskeep4.PlanOrderTail': WHATEVER THE INPUT: true; the input reads as it did. -/
def planOrderTailSpec : ChangeSpec := { name := "planOrderTail", fn := fun _ => fun
  | [d1, d2] => { results := [.lit (.bool true)], args := [d1, d2] }
  | _ => none }
def planOrderTailRow : OpenClaim := { program := "ytjggcnpnjnmamaa", sum := "fa1d3c4839e5b9be5c5471e60ad5d59d7f5dfdb7e6a88787aa09dd574ac37263", func := "printworks/printworkskeep4.PlanOrderTail", spec := "planOrderTail", apart := false }
def PlanOrderTailSaid : Prop := planOrderTailRow.holds Try.pinned (OpenSpec.ofChange planOrderTailSpec)

/-- ITS FALSE NEIGHBOUR: 'it returns false'. Refute it at one input. -/
def planOrderTailWrong : ChangeSpec := { name := "planOrderTail", fn := fun _ => fun
  | [d1, d2] => { results := [.lit (.bool false)], args := [d1, d2] }
  | _ => none }
def PlanOrderTailWrongFalsely : Prop := planOrderTailRow.holds Try.pinned (OpenSpec.ofChange planOrderTailWrong)

/- THE SECOND FORM. 'bulk': how many values and letters a reading holds, each counted each time it is reached (what is shared counts as often as it is met; a slice's spare places count too). A statement '..UptoSaid' is the law's where the arguments, and the package variables that the reading takes, are together of bulk at most 1048576: NARROWER than '..Said'. Prove '..Said' where nothing that the law and all that it calls make is longer than what came in: it says more and counts as full. Else prove '..UptoSaid'. A law counts once. -/
mutual
def uptoBulk {H : Type} : DataW H → Nat
  | .lit (.string bytes) => bytes.length + 1
  | .lit _ => 1
  | .nil => 1
  | .ptr d => uptoBulk d + 1
  | .slice elems spare => uptoBulkAll elems + uptoBulkAll spare + 1
  | .agg parts => uptoBulkAll parts + 1
  | .iface _ d => uptoBulk d + 1
  | .map entries => uptoBulkEntries entries + 1
  | .held _ => 1
def uptoBulkAll {H : Type} : List (DataW H) → Nat
  | [] => 0
  | d :: r => uptoBulk d + uptoBulkAll r
def uptoBulkEntries {H : Type} : List (Lit × DataW H) → Nat
  | [] => 0
  | x :: r => uptoBulkEntry x + uptoBulkEntries r
def uptoBulkEntry {H : Type} : Lit × DataW H → Nat
  | (.string bytes, d) => bytes.length + uptoBulk d + 1
  | (_, d) => uptoBulk d + 1
 end
def uptoSmall : (H : Type) → List (DataW H) → Bool := fun _ ds => decide (uptoBulkAll ds ≤ 1048576)
def OpenSpec.upto (s : _root_.Go.ChangeSpec) : _root_.Go.OpenSpec := { _root_.Go.OpenSpec.ofChange s with cond := some uptoSmall }

/-- 'printworkslaw4.PlanAssignCheapest', WHERE WHAT IT READS IS OF BULK AT MOST 1048576: true; the input reads as it did. -/
def planAssignCheapestUptoRow : OpenClaim := { program := "ytjggcnpnjnmamaa", sum := "fa1d3c4839e5b9be5c5471e60ad5d59d7f5dfdb7e6a88787aa09dd574ac37263", func := "printworks/printworkslaw4.PlanAssignCheapest", spec := "planAssignCheapest", recurses := true, apart := false, narrowed := true }
def PlanAssignCheapestUptoSaid : Prop := planAssignCheapestUptoRow.holds Try.pinned (OpenSpec.upto planAssignCheapestSpec)

/-- 'printworkskeep4.PlanAssignShifted', WHERE WHAT IT READS IS OF BULK AT MOST 1048576: true; the input reads as it did. -/
def planAssignShiftedUptoRow : OpenClaim := { program := "ytjggcnpnjnmamaa", sum := "fa1d3c4839e5b9be5c5471e60ad5d59d7f5dfdb7e6a88787aa09dd574ac37263", func := "printworks/printworkskeep4.PlanAssignShifted", spec := "planAssignShifted", apart := false, narrowed := true }
def PlanAssignShiftedUptoSaid : Prop := planAssignShiftedUptoRow.holds Try.pinned (OpenSpec.upto planAssignShiftedSpec)

/-- 'printworkslaw4.PlanVerifyAccepts', WHERE WHAT IT READS IS OF BULK AT MOST 1048576: true; the input reads as it did. -/
def planVerifyAcceptsUptoRow : OpenClaim := { program := "ytjggcnpnjnmamaa", sum := "fa1d3c4839e5b9be5c5471e60ad5d59d7f5dfdb7e6a88787aa09dd574ac37263", func := "printworks/printworkslaw4.PlanVerifyAccepts", spec := "planVerifyAccepts", apart := false, narrowed := true }
def PlanVerifyAcceptsUptoSaid : Prop := planVerifyAcceptsUptoRow.holds Try.pinned (OpenSpec.upto planVerifyAcceptsSpec)

/-- 'printworkslaw4.PlanVerifyDamaged', WHERE WHAT IT READS IS OF BULK AT MOST 1048576: true; the input reads as it did. -/
def planVerifyDamagedUptoRow : OpenClaim := { program := "ytjggcnpnjnmamaa", sum := "fa1d3c4839e5b9be5c5471e60ad5d59d7f5dfdb7e6a88787aa09dd574ac37263", func := "printworks/printworkslaw4.PlanVerifyDamaged", spec := "planVerifyDamaged", apart := false, narrowed := true }
def PlanVerifyDamagedUptoSaid : Prop := planVerifyDamagedUptoRow.holds Try.pinned (OpenSpec.upto planVerifyDamagedSpec)

/-- 'printworkskeep4.PlanDualBoundsAll', WHERE WHAT IT READS IS OF BULK AT MOST 1048576: true; the input reads as it did. -/
def planDualBoundsAllUptoRow : OpenClaim := { program := "ytjggcnpnjnmamaa", sum := "fa1d3c4839e5b9be5c5471e60ad5d59d7f5dfdb7e6a88787aa09dd574ac37263", func := "printworks/printworkskeep4.PlanDualBoundsAll", spec := "planDualBoundsAll", apart := false, narrowed := true }
def PlanDualBoundsAllUptoSaid : Prop := planDualBoundsAllUptoRow.holds Try.pinned (OpenSpec.upto planDualBoundsAllSpec)

/-- 'printworkslaw4.PlanTimesMatchReference', WHERE WHAT IT READS IS OF BULK AT MOST 1048576: true; the input reads as it did. -/
def planTimesMatchReferenceUptoRow : OpenClaim := { program := "ytjggcnpnjnmamaa", sum := "fa1d3c4839e5b9be5c5471e60ad5d59d7f5dfdb7e6a88787aa09dd574ac37263", func := "printworks/printworkslaw4.PlanTimesMatchReference", spec := "planTimesMatchReference", apart := false, narrowed := true }
def PlanTimesMatchReferenceUptoSaid : Prop := planTimesMatchReferenceUptoRow.holds Try.pinned (OpenSpec.upto planTimesMatchReferenceSpec)

/-- 'printworkslaw4.PlanOrderCheapest', WHERE WHAT IT READS IS OF BULK AT MOST 1048576: true; the input reads as it did. -/
def planOrderCheapestUptoRow : OpenClaim := { program := "ytjggcnpnjnmamaa", sum := "fa1d3c4839e5b9be5c5471e60ad5d59d7f5dfdb7e6a88787aa09dd574ac37263", func := "printworks/printworkslaw4.PlanOrderCheapest", spec := "planOrderCheapest", recurses := true, apart := false, narrowed := true }
def PlanOrderCheapestUptoSaid : Prop := planOrderCheapestUptoRow.holds Try.pinned (OpenSpec.upto planOrderCheapestSpec)

/-- 'printworkskeep4.PlanChainCritical', WHERE WHAT IT READS IS OF BULK AT MOST 1048576: true; the input reads as it did. -/
def planChainCriticalUptoRow : OpenClaim := { program := "ytjggcnpnjnmamaa", sum := "fa1d3c4839e5b9be5c5471e60ad5d59d7f5dfdb7e6a88787aa09dd574ac37263", func := "printworks/printworkskeep4.PlanChainCritical", spec := "planChainCritical", apart := false, narrowed := true }
def PlanChainCriticalUptoSaid : Prop := planChainCriticalUptoRow.holds Try.pinned (OpenSpec.upto planChainCriticalSpec)

/-- 'printworkskeep4.PlanOrderTail', WHERE WHAT IT READS IS OF BULK AT MOST 1048576: true; the input reads as it did. -/
def planOrderTailUptoRow : OpenClaim := { program := "ytjggcnpnjnmamaa", sum := "fa1d3c4839e5b9be5c5471e60ad5d59d7f5dfdb7e6a88787aa09dd574ac37263", func := "printworks/printworkskeep4.PlanOrderTail", spec := "planOrderTail", apart := false, narrowed := true }
def PlanOrderTailUptoSaid : Prop := planOrderTailUptoRow.holds Try.pinned (OpenSpec.upto planOrderTailSpec)

end Rows
end Go.Proofs.Ytjggcnpnjnmamaa
