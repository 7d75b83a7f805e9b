/-
  No cell of these rows narrows 'for every input' (looked for: loops, veiled, ifaces, maps, wideKeys, modest, calm, conditions, laid).
  DERIVED. THE GIVEN ROWS OF THIS SEAT. 8 by the template 'for every input the law returns true; each argument reads behind the call as it read before'; 0 by the template 'total and deterministic' (their statements: YtobmpleddhcloaaTotals.lean).
  GIVEN WITH THE SEED: the statements are not yours to turn. If you find one false, say at which input.
  Laid BY PROGRAM, IN A SANDBOX (cutbox-rows.mjs): the forced cells as the released guide's own fill.sh prints them over the translation a670d22735b6b09e… (all of the seat's roots in one cut). By AI agents, Wed Nov 11 2026. No macro, syntax, notation, axiom, sorry.
-/
import Derived.Test.YtobmpleddhcloaaChecked
import GoSem.Claim
import GoSem.ClaimJoined
import GoSem.ClaimMapViews
import Derived.JoinedTies
import Derived.KernelRfl
namespace Go.Proofs.Ytobmpleddhcloaa
/- THE CELL 'sum', in the pinned program and in every row, IS THE sha256 OF THE DUMP (.gsa) THAT YtobmpleddhcloaaProg.lean LOADS. Nothing in Lean hashes anything: it is a label: what it is worth is what the hold of that sum in a sandbox is worth. -/
noncomputable def Try.pinned : Pinned := { name := "ytobmpleddhcloaa", sum := "a670d22735b6b09e82d358526efea59a582f5dbdd6ad7b6aa762c8b387c5cd10", checked := Try.checked }
namespace Rows
def none {H : Type} : Left H := { results := [], args := [] }

/-- 'printworkslaw4.GangAllotLeast': WHATEVER THE INPUT: true; the input reads as it did. -/
def gangAllotLeastSpec : ChangeSpec := { name := "gangAllotLeast", fn := fun _ => fun
  | [d1, d2] => { results := [.lit (.bool true)], args := [d1, d2] }
  | _ => none }
def gangAllotLeastRow : OpenClaim := { program := "ytobmpleddhcloaa", sum := "a670d22735b6b09e82d358526efea59a582f5dbdd6ad7b6aa762c8b387c5cd10", func := "printworks/printworkslaw4.GangAllotLeast", spec := "gangAllotLeast", apart := false }
def GangAllotLeastSaid : Prop := gangAllotLeastRow.holds Try.pinned (OpenSpec.ofChange gangAllotLeastSpec)

/-- ITS FALSE NEIGHBOUR: 'it returns false'. Refute it at one input. -/
def gangAllotLeastWrong : ChangeSpec := { name := "gangAllotLeast", fn := fun _ => fun
  | [d1, d2] => { results := [.lit (.bool false)], args := [d1, d2] }
  | _ => none }
def GangAllotLeastWrongFalsely : Prop := gangAllotLeastRow.holds Try.pinned (OpenSpec.ofChange gangAllotLeastWrong)

/-- 'printworkslaw4.GangNeedSums': WHATEVER THE INPUT: true; the input reads as it did. -/
def gangNeedSumsSpec : ChangeSpec := { name := "gangNeedSums", fn := fun _ => fun
  | [d1, d2, d3] => { results := [.lit (.bool true)], args := [d1, d2, d3] }
  | _ => none }
def gangNeedSumsRow : OpenClaim := { program := "ytobmpleddhcloaa", sum := "a670d22735b6b09e82d358526efea59a582f5dbdd6ad7b6aa762c8b387c5cd10", func := "printworks/printworkslaw4.GangNeedSums", spec := "gangNeedSums", apart := false }
def GangNeedSumsSaid : Prop := gangNeedSumsRow.holds Try.pinned (OpenSpec.ofChange gangNeedSumsSpec)

/-- ITS FALSE NEIGHBOUR: 'it returns false'. Refute it at one input. -/
def gangNeedSumsWrong : ChangeSpec := { name := "gangNeedSums", fn := fun _ => fun
  | [d1, d2, d3] => { results := [.lit (.bool false)], args := [d1, d2, d3] }
  | _ => none }
def GangNeedSumsWrongFalsely : Prop := gangNeedSumsRow.holds Try.pinned (OpenSpec.ofChange gangNeedSumsWrong)

/-- 'printworkskeep4.GangAllotTight': WHATEVER THE INPUT: true; the input reads as it did. -/
def gangAllotTightSpec : ChangeSpec := { name := "gangAllotTight", fn := fun _ => fun
  | [d1, d2] => { results := [.lit (.bool true)], args := [d1, d2] }
  | _ => none }
def gangAllotTightRow : OpenClaim := { program := "ytobmpleddhcloaa", sum := "a670d22735b6b09e82d358526efea59a582f5dbdd6ad7b6aa762c8b387c5cd10", func := "printworks/printworkskeep4.GangAllotTight", spec := "gangAllotTight", apart := false }
def GangAllotTightSaid : Prop := gangAllotTightRow.holds Try.pinned (OpenSpec.ofChange gangAllotTightSpec)

/-- ITS FALSE NEIGHBOUR: 'it returns false'. Refute it at one input. -/
def gangAllotTightWrong : ChangeSpec := { name := "gangAllotTight", fn := fun _ => fun
  | [d1, d2] => { results := [.lit (.bool false)], args := [d1, d2] }
  | _ => none }
def GangAllotTightWrongFalsely : Prop := gangAllotTightRow.holds Try.pinned (OpenSpec.ofChange gangAllotTightWrong)

/-- 'printworkslaw4.GangSurplusSums': WHATEVER THE INPUT: true; the input reads as it did. -/
def gangSurplusSumsSpec : ChangeSpec := { name := "gangSurplusSums", fn := fun _ => fun
  | [d1, d2] => { results := [.lit (.bool true)], args := [d1, d2] }
  | _ => none }
def gangSurplusSumsRow : OpenClaim := { program := "ytobmpleddhcloaa", sum := "a670d22735b6b09e82d358526efea59a582f5dbdd6ad7b6aa762c8b387c5cd10", func := "printworks/printworkslaw4.GangSurplusSums", spec := "gangSurplusSums", apart := false }
def GangSurplusSumsSaid : Prop := gangSurplusSumsRow.holds Try.pinned (OpenSpec.ofChange gangSurplusSumsSpec)

/-- ITS FALSE NEIGHBOUR: 'it returns false'. Refute it at one input. -/
def gangSurplusSumsWrong : ChangeSpec := { name := "gangSurplusSums", fn := fun _ => fun
  | [d1, d2] => { results := [.lit (.bool false)], args := [d1, d2] }
  | _ => none }
def GangSurplusSumsWrongFalsely : Prop := gangSurplusSumsRow.holds Try.pinned (OpenSpec.ofChange gangSurplusSumsWrong)

/-- 'printworkslaw4.GangFormsCheapest': WHATEVER THE INPUT: true; the input reads as it did. -/
def gangFormsCheapestSpec : ChangeSpec := { name := "gangFormsCheapest", fn := fun _ => fun
  | [d1, d2, d3] => { results := [.lit (.bool true)], args := [d1, d2, d3] }
  | _ => none }
def gangFormsCheapestRow : OpenClaim := { program := "ytobmpleddhcloaa", sum := "a670d22735b6b09e82d358526efea59a582f5dbdd6ad7b6aa762c8b387c5cd10", func := "printworks/printworkslaw4.GangFormsCheapest", spec := "gangFormsCheapest", unfollowed := true, recurses := true, apart := false }
def GangFormsCheapestSaid : Prop := gangFormsCheapestRow.holds Try.pinned (OpenSpec.ofChange gangFormsCheapestSpec)

/-- ITS FALSE NEIGHBOUR: 'it returns false'. Refute it at one input. -/
def gangFormsCheapestWrong : ChangeSpec := { name := "gangFormsCheapest", fn := fun _ => fun
  | [d1, d2, d3] => { results := [.lit (.bool false)], args := [d1, d2, d3] }
  | _ => none }
def GangFormsCheapestWrongFalsely : Prop := gangFormsCheapestRow.holds Try.pinned (OpenSpec.ofChange gangFormsCheapestWrong)

/-- 'printworkskeep4.GangMorePlaces': WHATEVER THE INPUT: true; the input reads as it did. -/
def gangMorePlacesSpec : ChangeSpec := { name := "gangMorePlaces", fn := fun _ => fun
  | [d1, d2, d3, d4] => { results := [.lit (.bool true)], args := [d1, d2, d3, d4] }
  | _ => none }
def gangMorePlacesRow : OpenClaim := { program := "ytobmpleddhcloaa", sum := "a670d22735b6b09e82d358526efea59a582f5dbdd6ad7b6aa762c8b387c5cd10", func := "printworks/printworkskeep4.GangMorePlaces", spec := "gangMorePlaces", unfollowed := true, recurses := true, apart := false }
def GangMorePlacesSaid : Prop := gangMorePlacesRow.holds Try.pinned (OpenSpec.ofChange gangMorePlacesSpec)

/-- ITS FALSE NEIGHBOUR: 'it returns false'. Refute it at one input. -/
def gangMorePlacesWrong : ChangeSpec := { name := "gangMorePlaces", fn := fun _ => fun
  | [d1, d2, d3, d4] => { results := [.lit (.bool false)], args := [d1, d2, d3, d4] }
  | _ => none }
def GangMorePlacesWrongFalsely : Prop := gangMorePlacesRow.holds Try.pinned (OpenSpec.ofChange gangMorePlacesWrong)

/-- 'printworkskeep4.GangPermuted': WHATEVER THE INPUT: true; the input reads as it did. -/
def gangPermutedSpec : ChangeSpec := { name := "gangPermuted", fn := fun _ => fun
  | [d1, d2, d3] => { results := [.lit (.bool true)], args := [d1, d2, d3] }
  | _ => none }
def gangPermutedRow : OpenClaim := { program := "ytobmpleddhcloaa", sum := "a670d22735b6b09e82d358526efea59a582f5dbdd6ad7b6aa762c8b387c5cd10", func := "printworks/printworkskeep4.GangPermuted", spec := "gangPermuted", unfollowed := true, recurses := true, apart := false }
def GangPermutedSaid : Prop := gangPermutedRow.holds Try.pinned (OpenSpec.ofChange gangPermutedSpec)

/-- ITS FALSE NEIGHBOUR: 'it returns false'. Refute it at one input. -/
def gangPermutedWrong : ChangeSpec := { name := "gangPermuted", fn := fun _ => fun
  | [d1, d2, d3] => { results := [.lit (.bool false)], args := [d1, d2, d3] }
  | _ => none }
def GangPermutedWrongFalsely : Prop := gangPermutedRow.holds Try.pinned (OpenSpec.ofChange gangPermutedWrong)

/-- 'printworkskeep4.GangFormsSuffice': WHATEVER THE INPUT: true; the input reads as it did. -/
def gangFormsSufficeSpec : ChangeSpec := { name := "gangFormsSuffice", fn := fun _ => fun
  | [d1, d2, d3] => { results := [.lit (.bool true)], args := [d1, d2, d3] }
  | _ => none }
def gangFormsSufficeRow : OpenClaim := { program := "ytobmpleddhcloaa", sum := "a670d22735b6b09e82d358526efea59a582f5dbdd6ad7b6aa762c8b387c5cd10", func := "printworks/printworkskeep4.GangFormsSuffice", spec := "gangFormsSuffice", unfollowed := true, recurses := true, apart := false }
def GangFormsSufficeSaid : Prop := gangFormsSufficeRow.holds Try.pinned (OpenSpec.ofChange gangFormsSufficeSpec)

/-- ITS FALSE NEIGHBOUR: 'it returns false'. Refute it at one input. -/
def gangFormsSufficeWrong : ChangeSpec := { name := "gangFormsSuffice", fn := fun _ => fun
  | [d1, d2, d3] => { results := [.lit (.bool false)], args := [d1, d2, d3] }
  | _ => none }
def GangFormsSufficeWrongFalsely : Prop := gangFormsSufficeRow.holds Try.pinned (OpenSpec.ofChange gangFormsSufficeWrong)

/- THE SECOND FORM. 'bulk': how many values and letters a reading holds, each counted each time it is reached (what is shared counts as often as it is met; a slice's spare places count too). A statement '..UptoSaid' is the law's where the arguments, and the package variables that the reading takes, are together of bulk at most 1048576: NARROWER than '..Said'. Prove '..Said' where nothing that the law and all that it calls make is longer than what came in: it says more and counts as full. Else prove '..UptoSaid'. A law counts once. -/
mutual
def uptoBulk {H : Type} : DataW H → Nat
  | .lit (.string bytes) => bytes.length + 1
  | .lit _ => 1
  | .nil => 1
  | .ptr d => uptoBulk d + 1
  | .slice elems spare => uptoBulkAll elems + uptoBulkAll spare + 1
  | .agg parts => uptoBulkAll parts + 1
  | .iface _ d => uptoBulk d + 1
  | .map entries => uptoBulkEntries entries + 1
  | .held _ => 1
def uptoBulkAll {H : Type} : List (DataW H) → Nat
  | [] => 0
  | d :: r => uptoBulk d + uptoBulkAll r
def uptoBulkEntries {H : Type} : List (Lit × DataW H) → Nat
  | [] => 0
  | x :: r => uptoBulkEntry x + uptoBulkEntries r
def uptoBulkEntry {H : Type} : Lit × DataW H → Nat
  | (.string bytes, d) => bytes.length + uptoBulk d + 1
  | (_, d) => uptoBulk d + 1
 end
def uptoSmall : (H : Type) → List (DataW H) → Bool := fun _ ds => decide (uptoBulkAll ds ≤ 1048576)
def OpenSpec.upto (s : _root_.Go.ChangeSpec) : _root_.Go.OpenSpec := { _root_.Go.OpenSpec.ofChange s with cond := some uptoSmall }

/-- 'printworkslaw4.GangAllotLeast', WHERE WHAT IT READS IS OF BULK AT MOST 1048576: true; the input reads as it did. -/
def gangAllotLeastUptoRow : OpenClaim := { program := "ytobmpleddhcloaa", sum := "a670d22735b6b09e82d358526efea59a582f5dbdd6ad7b6aa762c8b387c5cd10", func := "printworks/printworkslaw4.GangAllotLeast", spec := "gangAllotLeast", apart := false, narrowed := true }
def GangAllotLeastUptoSaid : Prop := gangAllotLeastUptoRow.holds Try.pinned (OpenSpec.upto gangAllotLeastSpec)

/-- 'printworkslaw4.GangNeedSums', WHERE WHAT IT READS IS OF BULK AT MOST 1048576: true; the input reads as it did. -/
def gangNeedSumsUptoRow : OpenClaim := { program := "ytobmpleddhcloaa", sum := "a670d22735b6b09e82d358526efea59a582f5dbdd6ad7b6aa762c8b387c5cd10", func := "printworks/printworkslaw4.GangNeedSums", spec := "gangNeedSums", apart := false, narrowed := true }
def GangNeedSumsUptoSaid : Prop := gangNeedSumsUptoRow.holds Try.pinned (OpenSpec.upto gangNeedSumsSpec)

/-- 'printworkskeep4.GangAllotTight', WHERE WHAT IT READS IS OF BULK AT MOST 1048576: true; the input reads as it did. -/
def gangAllotTightUptoRow : OpenClaim := { program := "ytobmpleddhcloaa", sum := "a670d22735b6b09e82d358526efea59a582f5dbdd6ad7b6aa762c8b387c5cd10", func := "printworks/printworkskeep4.GangAllotTight", spec := "gangAllotTight", apart := false, narrowed := true }
def GangAllotTightUptoSaid : Prop := gangAllotTightUptoRow.holds Try.pinned (OpenSpec.upto gangAllotTightSpec)

/-- 'printworkslaw4.GangSurplusSums', WHERE WHAT IT READS IS OF BULK AT MOST 1048576: true; the input reads as it did. -/
def gangSurplusSumsUptoRow : OpenClaim := { program := "ytobmpleddhcloaa", sum := "a670d22735b6b09e82d358526efea59a582f5dbdd6ad7b6aa762c8b387c5cd10", func := "printworks/printworkslaw4.GangSurplusSums", spec := "gangSurplusSums", apart := false, narrowed := true }
def GangSurplusSumsUptoSaid : Prop := gangSurplusSumsUptoRow.holds Try.pinned (OpenSpec.upto gangSurplusSumsSpec)

/-- 'printworkslaw4.GangFormsCheapest', WHERE WHAT IT READS IS OF BULK AT MOST 1048576: true; the input reads as it did. -/
def gangFormsCheapestUptoRow : OpenClaim := { program := "ytobmpleddhcloaa", sum := "a670d22735b6b09e82d358526efea59a582f5dbdd6ad7b6aa762c8b387c5cd10", func := "printworks/printworkslaw4.GangFormsCheapest", spec := "gangFormsCheapest", unfollowed := true, recurses := true, apart := false, narrowed := true }
def GangFormsCheapestUptoSaid : Prop := gangFormsCheapestUptoRow.holds Try.pinned (OpenSpec.upto gangFormsCheapestSpec)

/-- 'printworkskeep4.GangMorePlaces', WHERE WHAT IT READS IS OF BULK AT MOST 1048576: true; the input reads as it did. -/
def gangMorePlacesUptoRow : OpenClaim := { program := "ytobmpleddhcloaa", sum := "a670d22735b6b09e82d358526efea59a582f5dbdd6ad7b6aa762c8b387c5cd10", func := "printworks/printworkskeep4.GangMorePlaces", spec := "gangMorePlaces", unfollowed := true, recurses := true, apart := false, narrowed := true }
def GangMorePlacesUptoSaid : Prop := gangMorePlacesUptoRow.holds Try.pinned (OpenSpec.upto gangMorePlacesSpec)

/-- 'printworkskeep4.GangPermuted', WHERE WHAT IT READS IS OF BULK AT MOST 1048576: true; the input reads as it did. -/
def gangPermutedUptoRow : OpenClaim := { program := "ytobmpleddhcloaa", sum := "a670d22735b6b09e82d358526efea59a582f5dbdd6ad7b6aa762c8b387c5cd10", func := "printworks/printworkskeep4.GangPermuted", spec := "gangPermuted", unfollowed := true, recurses := true, apart := false, narrowed := true }
def GangPermutedUptoSaid : Prop := gangPermutedUptoRow.holds Try.pinned (OpenSpec.upto gangPermutedSpec)

/-- 'printworkskeep4.GangFormsSuffice', WHERE WHAT IT READS IS OF BULK AT MOST 1048576: true; the input reads as it did. -/
def gangFormsSufficeUptoRow : OpenClaim := { program := "ytobmpleddhcloaa", sum := "a670d22735b6b09e82d358526efea59a582f5dbdd6ad7b6aa762c8b387c5cd10", func := "printworks/printworkskeep4.GangFormsSuffice", spec := "gangFormsSuffice", unfollowed := true, recurses := true, apart := false, narrowed := true }
def GangFormsSufficeUptoSaid : Prop := gangFormsSufficeUptoRow.holds Try.pinned (OpenSpec.upto gangFormsSufficeSpec)

end Rows
end Go.Proofs.Ytobmpleddhcloaa
