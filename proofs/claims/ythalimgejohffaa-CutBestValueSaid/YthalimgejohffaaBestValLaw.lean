/-
  CutBestValue over opened arguments. Own text.
-/
import Derived.Test.YthalimgejohffaaTreeLaw
import Derived.Test.YthalimgejohffaaBestVal
namespace Go.Proofs.Ythalimgejohffaa
open Go.ChangeShapes Go.WideShapes Go.ChangeAt Go.RowKit
theorem bestVal_law (W : Int) (_ : i64ok W) (H : Int) (_ : i64ok H) (v : Value) {w : World} (hv : ItemsArg w v) :
    Calls Try.prog 7 #[.int .i64 W, .int .i64 H, v] w fun e w' => e = .returned (.bool true) ∧ Below w.heap.size w w' := by
  obtain ⟨items, oi, ci, rfl, hm, hx⟩ := hv
  exact bestVal_any W H oi items ci w hm hx
end Go.Proofs.Ythalimgejohffaa
