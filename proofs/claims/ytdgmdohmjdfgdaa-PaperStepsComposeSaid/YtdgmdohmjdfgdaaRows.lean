/-
  No cell of these rows narrows 'for every input' (looked for: loops, veiled, ifaces, maps, wideKeys, modest, calm, conditions, laid).
  DERIVED. THE GIVEN ROWS OF THIS SEAT. 6 by the template 'for every input the law returns true; each argument reads behind the call as it read before'; 0 by the template 'total and deterministic' (their statements: YtdgmdohmjdfgdaaTotals.lean).
  GIVEN WITH THE SEED: the statements are not yours to turn. If you find one false, say at which input.
  Laid BY PROGRAM, IN A SANDBOX (cutbox-rows.mjs): the forced cells as the released guide's own fill.sh prints them over the translation e85e4833b3c83db6… (all of the seat's roots in one cut). By AI agents, Wed Nov 11 2026. No macro, syntax, notation, axiom, sorry.
-/
import Derived.Test.YtdgmdohmjdfgdaaChecked
import GoSem.Claim
import GoSem.ClaimJoined
import GoSem.ClaimMapViews
import Derived.JoinedTies
import Derived.KernelRfl
namespace Go.Proofs.Ytdgmdohmjdfgdaa
/- THE CELL 'sum', in the pinned program and in every row, IS THE sha256 OF THE DUMP (.gsa) THAT YtdgmdohmjdfgdaaProg.lean LOADS. Nothing in Lean hashes anything: it is a label: what it is worth is what the hold of that sum in a sandbox is worth. -/
noncomputable def Try.pinned : Pinned := { name := "ytdgmdohmjdfgdaa", sum := "e85e4833b3c83db65bde7f98013d27c4942f60fcf9eab50932cb746178b61709", checked := Try.checked }
namespace Rows
def none {H : Type} : Left H := { results := [], args := [] }

/-- 'printworkskeep4.PaperInkAdds': WHATEVER THE INPUT: true; the input reads as it did. -/
def paperInkAddsSpec : ChangeSpec := { name := "paperInkAdds", fn := fun _ => fun
  | [d1, d2, d3, d4] => { results := [.lit (.bool true)], args := [d1, d2, d3, d4] }
  | _ => none }
def paperInkAddsRow : OpenClaim := { program := "ytdgmdohmjdfgdaa", sum := "e85e4833b3c83db65bde7f98013d27c4942f60fcf9eab50932cb746178b61709", func := "printworks/printworkskeep4.PaperInkAdds", spec := "paperInkAdds", apart := false }
def PaperInkAddsSaid : Prop := paperInkAddsRow.holds Try.pinned (OpenSpec.ofChange paperInkAddsSpec)

/-- ITS FALSE NEIGHBOUR: 'it returns false'. Refute it at one input. -/
def paperInkAddsWrong : ChangeSpec := { name := "paperInkAdds", fn := fun _ => fun
  | [d1, d2, d3, d4] => { results := [.lit (.bool false)], args := [d1, d2, d3, d4] }
  | _ => none }
def PaperInkAddsWrongFalsely : Prop := paperInkAddsRow.holds Try.pinned (OpenSpec.ofChange paperInkAddsWrong)

/-- 'printworkslaw4.PaperInkRounds': WHATEVER THE INPUT: true; the input reads as it did. -/
def paperInkRoundsSpec : ChangeSpec := { name := "paperInkRounds", fn := fun _ => fun
  | [d1, d2, d3] => { results := [.lit (.bool true)], args := [d1, d2, d3] }
  | _ => none }
def paperInkRoundsRow : OpenClaim := { program := "ytdgmdohmjdfgdaa", sum := "e85e4833b3c83db65bde7f98013d27c4942f60fcf9eab50932cb746178b61709", func := "printworks/printworkslaw4.PaperInkRounds", spec := "paperInkRounds", apart := false }
def PaperInkRoundsSaid : Prop := paperInkRoundsRow.holds Try.pinned (OpenSpec.ofChange paperInkRoundsSpec)

/-- ITS FALSE NEIGHBOUR: 'it returns false'. Refute it at one input. -/
def paperInkRoundsWrong : ChangeSpec := { name := "paperInkRounds", fn := fun _ => fun
  | [d1, d2, d3] => { results := [.lit (.bool false)], args := [d1, d2, d3] }
  | _ => none }
def PaperInkRoundsWrongFalsely : Prop := paperInkRoundsRow.holds Try.pinned (OpenSpec.ofChange paperInkRoundsWrong)

/-- 'printworkslaw4.PaperYieldMatchesReference': WHATEVER THE INPUT: true; the input reads as it did. -/
def paperYieldMatchesReferenceSpec : ChangeSpec := { name := "paperYieldMatchesReference", fn := fun _ => fun
  | [d1, d2] => { results := [.lit (.bool true)], args := [d1, d2] }
  | _ => none }
def paperYieldMatchesReferenceRow : OpenClaim := { program := "ytdgmdohmjdfgdaa", sum := "e85e4833b3c83db65bde7f98013d27c4942f60fcf9eab50932cb746178b61709", func := "printworks/printworkslaw4.PaperYieldMatchesReference", spec := "paperYieldMatchesReference", apart := false }
def PaperYieldMatchesReferenceSaid : Prop := paperYieldMatchesReferenceRow.holds Try.pinned (OpenSpec.ofChange paperYieldMatchesReferenceSpec)

/-- ITS FALSE NEIGHBOUR: 'it returns false'. Refute it at one input. -/
def paperYieldMatchesReferenceWrong : ChangeSpec := { name := "paperYieldMatchesReference", fn := fun _ => fun
  | [d1, d2] => { results := [.lit (.bool false)], args := [d1, d2] }
  | _ => none }
def PaperYieldMatchesReferenceWrongFalsely : Prop := paperYieldMatchesReferenceRow.holds Try.pinned (OpenSpec.ofChange paperYieldMatchesReferenceWrong)

/-- 'printworkskeep4.PaperNeedSuffices': WHATEVER THE INPUT: true; the input reads as it did. -/
def paperNeedSufficesSpec : ChangeSpec := { name := "paperNeedSuffices", fn := fun _ => fun
  | [d1, d2, d3] => { results := [.lit (.bool true)], args := [d1, d2, d3] }
  | _ => none }
def paperNeedSufficesRow : OpenClaim := { program := "ytdgmdohmjdfgdaa", sum := "e85e4833b3c83db65bde7f98013d27c4942f60fcf9eab50932cb746178b61709", func := "printworks/printworkskeep4.PaperNeedSuffices", spec := "paperNeedSuffices", apart := false }
def PaperNeedSufficesSaid : Prop := paperNeedSufficesRow.holds Try.pinned (OpenSpec.ofChange paperNeedSufficesSpec)

/-- ITS FALSE NEIGHBOUR: 'it returns false'. Refute it at one input. -/
def paperNeedSufficesWrong : ChangeSpec := { name := "paperNeedSuffices", fn := fun _ => fun
  | [d1, d2, d3] => { results := [.lit (.bool false)], args := [d1, d2, d3] }
  | _ => none }
def PaperNeedSufficesWrongFalsely : Prop := paperNeedSufficesRow.holds Try.pinned (OpenSpec.ofChange paperNeedSufficesWrong)

/-- 'printworkslaw4.PaperNeedIsLeast': WHATEVER THE INPUT: true; the input reads as it did. -/
def paperNeedIsLeastSpec : ChangeSpec := { name := "paperNeedIsLeast", fn := fun _ => fun
  | [d1, d2] => { results := [.lit (.bool true)], args := [d1, d2] }
  | _ => none }
def paperNeedIsLeastRow : OpenClaim := { program := "ytdgmdohmjdfgdaa", sum := "e85e4833b3c83db65bde7f98013d27c4942f60fcf9eab50932cb746178b61709", func := "printworks/printworkslaw4.PaperNeedIsLeast", spec := "paperNeedIsLeast", apart := false }
def PaperNeedIsLeastSaid : Prop := paperNeedIsLeastRow.holds Try.pinned (OpenSpec.ofChange paperNeedIsLeastSpec)

/-- ITS FALSE NEIGHBOUR: 'it returns false'. Refute it at one input. -/
def paperNeedIsLeastWrong : ChangeSpec := { name := "paperNeedIsLeast", fn := fun _ => fun
  | [d1, d2] => { results := [.lit (.bool false)], args := [d1, d2] }
  | _ => none }
def PaperNeedIsLeastWrongFalsely : Prop := paperNeedIsLeastRow.holds Try.pinned (OpenSpec.ofChange paperNeedIsLeastWrong)

/-- 'printworkskeep4.PaperStepsCompose': WHATEVER THE INPUT: true; the input reads as it did. -/
def paperStepsComposeSpec : ChangeSpec := { name := "paperStepsCompose", fn := fun _ => fun
  | [d1, d2, d3] => { results := [.lit (.bool true)], args := [d1, d2, d3] }
  | _ => none }
def paperStepsComposeRow : OpenClaim := { program := "ytdgmdohmjdfgdaa", sum := "e85e4833b3c83db65bde7f98013d27c4942f60fcf9eab50932cb746178b61709", func := "printworks/printworkskeep4.PaperStepsCompose", spec := "paperStepsCompose", apart := false }
def PaperStepsComposeSaid : Prop := paperStepsComposeRow.holds Try.pinned (OpenSpec.ofChange paperStepsComposeSpec)

/-- ITS FALSE NEIGHBOUR: 'it returns false'. Refute it at one input. -/
def paperStepsComposeWrong : ChangeSpec := { name := "paperStepsCompose", fn := fun _ => fun
  | [d1, d2, d3] => { results := [.lit (.bool false)], args := [d1, d2, d3] }
  | _ => none }
def PaperStepsComposeWrongFalsely : Prop := paperStepsComposeRow.holds Try.pinned (OpenSpec.ofChange paperStepsComposeWrong)

/- THE SECOND FORM. 'bulk': how many values and letters a reading holds, each counted each time it is reached (what is shared counts as often as it is met; a slice's spare places count too). A statement '..UptoSaid' is the law's where the arguments, and the package variables that the reading takes, are together of bulk at most 1048576: NARROWER than '..Said'. Prove '..Said' where nothing that the law and all that it calls make is longer than what came in: it says more and counts as full. Else prove '..UptoSaid'. A law counts once. -/
mutual
def uptoBulk {H : Type} : DataW H → Nat
  | .lit (.string bytes) => bytes.length + 1
  | .lit _ => 1
  | .nil => 1
  | .ptr d => uptoBulk d + 1
  | .slice elems spare => uptoBulkAll elems + uptoBulkAll spare + 1
  | .agg parts => uptoBulkAll parts + 1
  | .iface _ d => uptoBulk d + 1
  | .map entries => uptoBulkEntries entries + 1
  | .held _ => 1
def uptoBulkAll {H : Type} : List (DataW H) → Nat
  | [] => 0
  | d :: r => uptoBulk d + uptoBulkAll r
def uptoBulkEntries {H : Type} : List (Lit × DataW H) → Nat
  | [] => 0
  | x :: r => uptoBulkEntry x + uptoBulkEntries r
def uptoBulkEntry {H : Type} : Lit × DataW H → Nat
  | (.string bytes, d) => bytes.length + uptoBulk d + 1
  | (_, d) => uptoBulk d + 1
 end
def uptoSmall : (H : Type) → List (DataW H) → Bool := fun _ ds => decide (uptoBulkAll ds ≤ 1048576)
def OpenSpec.upto (s : _root_.Go.ChangeSpec) : _root_.Go.OpenSpec := { _root_.Go.OpenSpec.ofChange s with cond := some uptoSmall }

/-- 'printworkskeep4.PaperInkAdds', WHERE WHAT IT READS IS OF BULK AT MOST 1048576: true; the input reads as it did. -/
def paperInkAddsUptoRow : OpenClaim := { program := "ytdgmdohmjdfgdaa", sum := "e85e4833b3c83db65bde7f98013d27c4942f60fcf9eab50932cb746178b61709", func := "printworks/printworkskeep4.PaperInkAdds", spec := "paperInkAdds", apart := false, narrowed := true }
def PaperInkAddsUptoSaid : Prop := paperInkAddsUptoRow.holds Try.pinned (OpenSpec.upto paperInkAddsSpec)

/-- 'printworkslaw4.PaperInkRounds', WHERE WHAT IT READS IS OF BULK AT MOST 1048576: true; the input reads as it did. -/
def paperInkRoundsUptoRow : OpenClaim := { program := "ytdgmdohmjdfgdaa", sum := "e85e4833b3c83db65bde7f98013d27c4942f60fcf9eab50932cb746178b61709", func := "printworks/printworkslaw4.PaperInkRounds", spec := "paperInkRounds", apart := false, narrowed := true }
def PaperInkRoundsUptoSaid : Prop := paperInkRoundsUptoRow.holds Try.pinned (OpenSpec.upto paperInkRoundsSpec)

/-- 'printworkslaw4.PaperYieldMatchesReference', WHERE WHAT IT READS IS OF BULK AT MOST 1048576: true; the input reads as it did. -/
def paperYieldMatchesReferenceUptoRow : OpenClaim := { program := "ytdgmdohmjdfgdaa", sum := "e85e4833b3c83db65bde7f98013d27c4942f60fcf9eab50932cb746178b61709", func := "printworks/printworkslaw4.PaperYieldMatchesReference", spec := "paperYieldMatchesReference", apart := false, narrowed := true }
def PaperYieldMatchesReferenceUptoSaid : Prop := paperYieldMatchesReferenceUptoRow.holds Try.pinned (OpenSpec.upto paperYieldMatchesReferenceSpec)

/-- 'printworkskeep4.PaperNeedSuffices', WHERE WHAT IT READS IS OF BULK AT MOST 1048576: true; the input reads as it did. -/
def paperNeedSufficesUptoRow : OpenClaim := { program := "ytdgmdohmjdfgdaa", sum := "e85e4833b3c83db65bde7f98013d27c4942f60fcf9eab50932cb746178b61709", func := "printworks/printworkskeep4.PaperNeedSuffices", spec := "paperNeedSuffices", apart := false, narrowed := true }
def PaperNeedSufficesUptoSaid : Prop := paperNeedSufficesUptoRow.holds Try.pinned (OpenSpec.upto paperNeedSufficesSpec)

/-- 'printworkslaw4.PaperNeedIsLeast', WHERE WHAT IT READS IS OF BULK AT MOST 1048576: true; the input reads as it did. -/
def paperNeedIsLeastUptoRow : OpenClaim := { program := "ytdgmdohmjdfgdaa", sum := "e85e4833b3c83db65bde7f98013d27c4942f60fcf9eab50932cb746178b61709", func := "printworks/printworkslaw4.PaperNeedIsLeast", spec := "paperNeedIsLeast", apart := false, narrowed := true }
def PaperNeedIsLeastUptoSaid : Prop := paperNeedIsLeastUptoRow.holds Try.pinned (OpenSpec.upto paperNeedIsLeastSpec)

/-- 'printworkskeep4.PaperStepsCompose', WHERE WHAT IT READS IS OF BULK AT MOST 1048576: true; the input reads as it did. -/
def paperStepsComposeUptoRow : OpenClaim := { program := "ytdgmdohmjdfgdaa", sum := "e85e4833b3c83db65bde7f98013d27c4942f60fcf9eab50932cb746178b61709", func := "printworks/printworkskeep4.PaperStepsCompose", spec := "paperStepsCompose", apart := false, narrowed := true }
def PaperStepsComposeUptoSaid : Prop := paperStepsComposeUptoRow.holds Try.pinned (OpenSpec.upto paperStepsComposeSpec)

end Rows
end Go.Proofs.Ytdgmdohmjdfgdaa
