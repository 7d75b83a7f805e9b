/-
  CutPiecesMatchReference over opened arguments. Own text.
-/
import Derived.Test.YthalimgejohffaaTreeLaw
import Derived.Test.YthalimgejohffaaMatch
namespace Go.Proofs.Ythalimgejohffaa
open Go.ChangeShapes Go.WideShapes Go.ChangeAt Go.RowKit
theorem match_law (W : Int) (_ : i64ok W) (H : Int) (_ : i64ok H) (v : Value) {w : World} (hv : ItemsArg w v) (u : Value) (hu : TreeArg w u) :
    Calls Try.prog 4 #[.int .i64 W, .int .i64 H, v, u] w fun e w' => e = .returned (.bool true) ∧ Below w.heap.size w w' := by
  obtain ⟨items, oi, ci, rfl, hm, hx⟩ := hv
  obtain ⟨t, k, a, i, oa, n, cap, rfl, hT⟩ := hu
  exact match_any W H oi items ci t k a i oa n cap w hm hx hT
end Go.Proofs.Ythalimgejohffaa
