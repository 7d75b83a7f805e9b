/-
  NARROWER THAN 'FOR EVERY INPUT', by the rows' own cells (each row's printed sentence says how): CutPiecesDisjoint: loops · CutPiecesMatchReference: loops · CutMirrorExchanges: loops · CutMirrorInvolution: loops.
  DERIVED. THE GIVEN ROWS OF THIS SEAT. 7 by the template 'for every input the law returns true; each argument reads behind the call as it read before'; 0 by the template 'total and deterministic' (their statements: YthalimgejohffaaTotals.lean).
  GIVEN WITH THE SEED: the statements are not yours to turn. If you find one false, say at which input.
  Laid BY PROGRAM, IN A SANDBOX (cutbox-rows.mjs): the forced cells as the released guide's own fill.sh prints them over the translation 8c32d6ed6c089971… (all of the seat's roots in one cut). By AI agents, Wed Nov 11 2026. No macro, syntax, notation, axiom, sorry.
-/
import Derived.Test.YthalimgejohffaaChecked
import GoSem.Claim
import GoSem.ClaimJoined
import GoSem.ClaimMapViews
import Derived.JoinedTies
import Derived.KernelRfl
namespace Go.Proofs.Ythalimgejohffaa
/- THE CELL 'sum', in the pinned program and in every row, IS THE sha256 OF THE DUMP (.gsa) THAT YthalimgejohffaaProg.lean LOADS. Nothing in Lean hashes anything: it is a label: what it is worth is what the hold of that sum in a sandbox is worth. -/
noncomputable def Try.pinned : Pinned := { name := "ythalimgejohffaa", sum := "8c32d6ed6c089971f8baee86172213284cc454c1c1c358e160081f29fc633a14", checked := Try.checked }
namespace Rows
def none {H : Type} : Left H := { results := [], args := [] }

/-- 'printworkskeep4.CutPiecesDisjoint': WHATEVER THE INPUT: true; the input reads as it did. -/
def cutPiecesDisjointSpec : ChangeSpec := { name := "cutPiecesDisjoint", fn := fun _ => fun
  | [d1, d2, d3, d4] => { results := [.lit (.bool true)], args := [d1, d2, d3, d4] }
  | _ => none }
def cutPiecesDisjointRow : OpenClaim := { program := "ythalimgejohffaa", sum := "8c32d6ed6c089971f8baee86172213284cc454c1c1c358e160081f29fc633a14", func := "printworks/printworkskeep4.CutPiecesDisjoint", spec := "cutPiecesDisjoint", recurses := true, loops := true, apart := false }
def CutPiecesDisjointSaid : Prop := cutPiecesDisjointRow.holds Try.pinned (OpenSpec.ofChange cutPiecesDisjointSpec)

/-- ITS FALSE NEIGHBOUR: 'it returns false'. Refute it at one input. -/
def cutPiecesDisjointWrong : ChangeSpec := { name := "cutPiecesDisjoint", fn := fun _ => fun
  | [d1, d2, d3, d4] => { results := [.lit (.bool false)], args := [d1, d2, d3, d4] }
  | _ => none }
def CutPiecesDisjointWrongFalsely : Prop := cutPiecesDisjointRow.holds Try.pinned (OpenSpec.ofChange cutPiecesDisjointWrong)

/-- 'printworkslaw4.CutPiecesMatchReference': WHATEVER THE INPUT: true; the input reads as it did. -/
def cutPiecesMatchReferenceSpec : ChangeSpec := { name := "cutPiecesMatchReference", fn := fun _ => fun
  | [d1, d2, d3, d4] => { results := [.lit (.bool true)], args := [d1, d2, d3, d4] }
  | _ => none }
def cutPiecesMatchReferenceRow : OpenClaim := { program := "ythalimgejohffaa", sum := "8c32d6ed6c089971f8baee86172213284cc454c1c1c358e160081f29fc633a14", func := "printworks/printworkslaw4.CutPiecesMatchReference", spec := "cutPiecesMatchReference", recurses := true, loops := true, apart := false }
def CutPiecesMatchReferenceSaid : Prop := cutPiecesMatchReferenceRow.holds Try.pinned (OpenSpec.ofChange cutPiecesMatchReferenceSpec)

/-- ITS FALSE NEIGHBOUR: 'it returns false'. Refute it at one input. -/
def cutPiecesMatchReferenceWrong : ChangeSpec := { name := "cutPiecesMatchReference", fn := fun _ => fun
  | [d1, d2, d3, d4] => { results := [.lit (.bool false)], args := [d1, d2, d3, d4] }
  | _ => none }
def CutPiecesMatchReferenceWrongFalsely : Prop := cutPiecesMatchReferenceRow.holds Try.pinned (OpenSpec.ofChange cutPiecesMatchReferenceWrong)

/-- 'printworkslaw4.CutMirrorExchanges': WHATEVER THE INPUT: true; the input reads as it did. -/
def cutMirrorExchangesSpec : ChangeSpec := { name := "cutMirrorExchanges", fn := fun _ => fun
  | [d1, d2, d3, d4, d5] => { results := [.lit (.bool true)], args := [d1, d2, d3, d4, d5] }
  | _ => none }
def cutMirrorExchangesRow : OpenClaim := { program := "ythalimgejohffaa", sum := "8c32d6ed6c089971f8baee86172213284cc454c1c1c358e160081f29fc633a14", func := "printworks/printworkslaw4.CutMirrorExchanges", spec := "cutMirrorExchanges", recurses := true, loops := true, apart := false }
def CutMirrorExchangesSaid : Prop := cutMirrorExchangesRow.holds Try.pinned (OpenSpec.ofChange cutMirrorExchangesSpec)

/-- ITS FALSE NEIGHBOUR: 'it returns false'. Refute it at one input. -/
def cutMirrorExchangesWrong : ChangeSpec := { name := "cutMirrorExchanges", fn := fun _ => fun
  | [d1, d2, d3, d4, d5] => { results := [.lit (.bool false)], args := [d1, d2, d3, d4, d5] }
  | _ => none }
def CutMirrorExchangesWrongFalsely : Prop := cutMirrorExchangesRow.holds Try.pinned (OpenSpec.ofChange cutMirrorExchangesWrong)

/-- 'printworkskeep4.CutBestAccepted': WHATEVER THE INPUT: true; the input reads as it did. -/
def cutBestAcceptedSpec : ChangeSpec := { name := "cutBestAccepted", fn := fun _ => fun
  | [d1, d2, d3] => { results := [.lit (.bool true)], args := [d1, d2, d3] }
  | _ => none }
def cutBestAcceptedRow : OpenClaim := { program := "ythalimgejohffaa", sum := "8c32d6ed6c089971f8baee86172213284cc454c1c1c358e160081f29fc633a14", func := "printworks/printworkskeep4.CutBestAccepted", spec := "cutBestAccepted", recurses := true, apart := false }
def CutBestAcceptedSaid : Prop := cutBestAcceptedRow.holds Try.pinned (OpenSpec.ofChange cutBestAcceptedSpec)

/-- ITS FALSE NEIGHBOUR: 'it returns false'. Refute it at one input. -/
def cutBestAcceptedWrong : ChangeSpec := { name := "cutBestAccepted", fn := fun _ => fun
  | [d1, d2, d3] => { results := [.lit (.bool false)], args := [d1, d2, d3] }
  | _ => none }
def CutBestAcceptedWrongFalsely : Prop := cutBestAcceptedRow.holds Try.pinned (OpenSpec.ofChange cutBestAcceptedWrong)

/-- 'printworkslaw4.CutBestValue': WHATEVER THE INPUT: true; the input reads as it did. -/
def cutBestValueSpec : ChangeSpec := { name := "cutBestValue", fn := fun _ => fun
  | [d1, d2, d3] => { results := [.lit (.bool true)], args := [d1, d2, d3] }
  | _ => none }
def cutBestValueRow : OpenClaim := { program := "ythalimgejohffaa", sum := "8c32d6ed6c089971f8baee86172213284cc454c1c1c358e160081f29fc633a14", func := "printworks/printworkslaw4.CutBestValue", spec := "cutBestValue", recurses := true, apart := false }
def CutBestValueSaid : Prop := cutBestValueRow.holds Try.pinned (OpenSpec.ofChange cutBestValueSpec)

/-- ITS FALSE NEIGHBOUR: 'it returns false'. Refute it at one input. -/
def cutBestValueWrong : ChangeSpec := { name := "cutBestValue", fn := fun _ => fun
  | [d1, d2, d3] => { results := [.lit (.bool false)], args := [d1, d2, d3] }
  | _ => none }
def CutBestValueWrongFalsely : Prop := cutBestValueRow.holds Try.pinned (OpenSpec.ofChange cutBestValueWrong)

/-- 'printworkskeep4.CutMirrorInvolution': WHATEVER THE INPUT: true; the input reads as it did. -/
def cutMirrorInvolutionSpec : ChangeSpec := { name := "cutMirrorInvolution", fn := fun _ => fun
  | [d1, d2, d3, d4, d5] => { results := [.lit (.bool true)], args := [d1, d2, d3, d4, d5] }
  | _ => none }
def cutMirrorInvolutionRow : OpenClaim := { program := "ythalimgejohffaa", sum := "8c32d6ed6c089971f8baee86172213284cc454c1c1c358e160081f29fc633a14", func := "printworks/printworkskeep4.CutMirrorInvolution", spec := "cutMirrorInvolution", recurses := true, loops := true, apart := false }
def CutMirrorInvolutionSaid : Prop := cutMirrorInvolutionRow.holds Try.pinned (OpenSpec.ofChange cutMirrorInvolutionSpec)

/-- ITS FALSE NEIGHBOUR: 'it returns false'. Refute it at one input. -/
def cutMirrorInvolutionWrong : ChangeSpec := { name := "cutMirrorInvolution", fn := fun _ => fun
  | [d1, d2, d3, d4, d5] => { results := [.lit (.bool false)], args := [d1, d2, d3, d4, d5] }
  | _ => none }
def CutMirrorInvolutionWrongFalsely : Prop := cutMirrorInvolutionRow.holds Try.pinned (OpenSpec.ofChange cutMirrorInvolutionWrong)

/-- 'printworkskeep4.CutBestGrows': WHATEVER THE INPUT: true; the input reads as it did. -/
def cutBestGrowsSpec : ChangeSpec := { name := "cutBestGrows", fn := fun _ => fun
  | [d1, d2, d3, d4, d5] => { results := [.lit (.bool true)], args := [d1, d2, d3, d4, d5] }
  | _ => none }
def cutBestGrowsRow : OpenClaim := { program := "ythalimgejohffaa", sum := "8c32d6ed6c089971f8baee86172213284cc454c1c1c358e160081f29fc633a14", func := "printworks/printworkskeep4.CutBestGrows", spec := "cutBestGrows", recurses := true, apart := false }
def CutBestGrowsSaid : Prop := cutBestGrowsRow.holds Try.pinned (OpenSpec.ofChange cutBestGrowsSpec)

/-- ITS FALSE NEIGHBOUR: 'it returns false'. Refute it at one input. -/
def cutBestGrowsWrong : ChangeSpec := { name := "cutBestGrows", fn := fun _ => fun
  | [d1, d2, d3, d4, d5] => { results := [.lit (.bool false)], args := [d1, d2, d3, d4, d5] }
  | _ => none }
def CutBestGrowsWrongFalsely : Prop := cutBestGrowsRow.holds Try.pinned (OpenSpec.ofChange cutBestGrowsWrong)

/- THE SECOND FORM. 'bulk': how many values and letters a reading holds, each counted each time it is reached (what is shared counts as often as it is met; a slice's spare places count too). A statement '..UptoSaid' is the law's where the arguments, and the package variables that the reading takes, are together of bulk at most 1048576: NARROWER than '..Said'. Prove '..Said' where nothing that the law and all that it calls make is longer than what came in: it says more and counts as full. Else prove '..UptoSaid'. A law counts once. -/
mutual
def uptoBulk {H : Type} : DataW H → Nat
  | .lit (.string bytes) => bytes.length + 1
  | .lit _ => 1
  | .nil => 1
  | .ptr d => uptoBulk d + 1
  | .slice elems spare => uptoBulkAll elems + uptoBulkAll spare + 1
  | .agg parts => uptoBulkAll parts + 1
  | .iface _ d => uptoBulk d + 1
  | .map entries => uptoBulkEntries entries + 1
  | .held _ => 1
def uptoBulkAll {H : Type} : List (DataW H) → Nat
  | [] => 0
  | d :: r => uptoBulk d + uptoBulkAll r
def uptoBulkEntries {H : Type} : List (Lit × DataW H) → Nat
  | [] => 0
  | x :: r => uptoBulkEntry x + uptoBulkEntries r
def uptoBulkEntry {H : Type} : Lit × DataW H → Nat
  | (.string bytes, d) => bytes.length + uptoBulk d + 1
  | (_, d) => uptoBulk d + 1
 end
def uptoSmall : (H : Type) → List (DataW H) → Bool := fun _ ds => decide (uptoBulkAll ds ≤ 1048576)
def OpenSpec.upto (s : _root_.Go.ChangeSpec) : _root_.Go.OpenSpec := { _root_.Go.OpenSpec.ofChange s with cond := some uptoSmall }

/-- 'printworkskeep4.CutPiecesDisjoint', WHERE WHAT IT READS IS OF BULK AT MOST 1048576: true; the input reads as it did. -/
def cutPiecesDisjointUptoRow : OpenClaim := { program := "ythalimgejohffaa", sum := "8c32d6ed6c089971f8baee86172213284cc454c1c1c358e160081f29fc633a14", func := "printworks/printworkskeep4.CutPiecesDisjoint", spec := "cutPiecesDisjoint", recurses := true, loops := true, apart := false, narrowed := true }
def CutPiecesDisjointUptoSaid : Prop := cutPiecesDisjointUptoRow.holds Try.pinned (OpenSpec.upto cutPiecesDisjointSpec)

/-- 'printworkslaw4.CutPiecesMatchReference', WHERE WHAT IT READS IS OF BULK AT MOST 1048576: true; the input reads as it did. -/
def cutPiecesMatchReferenceUptoRow : OpenClaim := { program := "ythalimgejohffaa", sum := "8c32d6ed6c089971f8baee86172213284cc454c1c1c358e160081f29fc633a14", func := "printworks/printworkslaw4.CutPiecesMatchReference", spec := "cutPiecesMatchReference", recurses := true, loops := true, apart := false, narrowed := true }
def CutPiecesMatchReferenceUptoSaid : Prop := cutPiecesMatchReferenceUptoRow.holds Try.pinned (OpenSpec.upto cutPiecesMatchReferenceSpec)

/-- 'printworkslaw4.CutMirrorExchanges', WHERE WHAT IT READS IS OF BULK AT MOST 1048576: true; the input reads as it did. -/
def cutMirrorExchangesUptoRow : OpenClaim := { program := "ythalimgejohffaa", sum := "8c32d6ed6c089971f8baee86172213284cc454c1c1c358e160081f29fc633a14", func := "printworks/printworkslaw4.CutMirrorExchanges", spec := "cutMirrorExchanges", recurses := true, loops := true, apart := false, narrowed := true }
def CutMirrorExchangesUptoSaid : Prop := cutMirrorExchangesUptoRow.holds Try.pinned (OpenSpec.upto cutMirrorExchangesSpec)

/-- 'printworkskeep4.CutBestAccepted', WHERE WHAT IT READS IS OF BULK AT MOST 1048576: true; the input reads as it did. -/
def cutBestAcceptedUptoRow : OpenClaim := { program := "ythalimgejohffaa", sum := "8c32d6ed6c089971f8baee86172213284cc454c1c1c358e160081f29fc633a14", func := "printworks/printworkskeep4.CutBestAccepted", spec := "cutBestAccepted", recurses := true, apart := false, narrowed := true }
def CutBestAcceptedUptoSaid : Prop := cutBestAcceptedUptoRow.holds Try.pinned (OpenSpec.upto cutBestAcceptedSpec)

/-- 'printworkslaw4.CutBestValue', WHERE WHAT IT READS IS OF BULK AT MOST 1048576: true; the input reads as it did. -/
def cutBestValueUptoRow : OpenClaim := { program := "ythalimgejohffaa", sum := "8c32d6ed6c089971f8baee86172213284cc454c1c1c358e160081f29fc633a14", func := "printworks/printworkslaw4.CutBestValue", spec := "cutBestValue", recurses := true, apart := false, narrowed := true }
def CutBestValueUptoSaid : Prop := cutBestValueUptoRow.holds Try.pinned (OpenSpec.upto cutBestValueSpec)

/-- 'printworkskeep4.CutMirrorInvolution', WHERE WHAT IT READS IS OF BULK AT MOST 1048576: true; the input reads as it did. -/
def cutMirrorInvolutionUptoRow : OpenClaim := { program := "ythalimgejohffaa", sum := "8c32d6ed6c089971f8baee86172213284cc454c1c1c358e160081f29fc633a14", func := "printworks/printworkskeep4.CutMirrorInvolution", spec := "cutMirrorInvolution", recurses := true, loops := true, apart := false, narrowed := true }
def CutMirrorInvolutionUptoSaid : Prop := cutMirrorInvolutionUptoRow.holds Try.pinned (OpenSpec.upto cutMirrorInvolutionSpec)

/-- 'printworkskeep4.CutBestGrows', WHERE WHAT IT READS IS OF BULK AT MOST 1048576: true; the input reads as it did. -/
def cutBestGrowsUptoRow : OpenClaim := { program := "ythalimgejohffaa", sum := "8c32d6ed6c089971f8baee86172213284cc454c1c1c358e160081f29fc633a14", func := "printworks/printworkskeep4.CutBestGrows", spec := "cutBestGrows", recurses := true, apart := false, narrowed := true }
def CutBestGrowsUptoSaid : Prop := cutBestGrowsUptoRow.holds Try.pinned (OpenSpec.upto cutBestGrowsSpec)

end Rows
end Go.Proofs.Ythalimgejohffaa
