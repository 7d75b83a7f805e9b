/-
  CutMirrorExchanges over opened arguments. Own text.
-/
import Derived.Test.YthalimgejohffaaTreeLaw
import Derived.Test.YthalimgejohffaaExch
namespace Go.Proofs.Ythalimgejohffaa
open Go.ChangeShapes Go.WideShapes Go.ChangeAt Go.RowKit
theorem exch_law (W : Int) (_ : i64ok W) (H : Int) (_ : i64ok H) (v : Value) {w : World} (hv : ItemsArg w v) (u : Value) (hu : TreeArg w u) (s : Bool) :
    Calls Try.prog 5 #[.int .i64 W, .int .i64 H, v, u, .bool s] w fun e w' => e = .returned (.bool true) ∧ Below w.heap.size w w' := by
  obtain ⟨items, oi, ci, rfl, hm, hx⟩ := hv
  obtain ⟨⟨k, a, i, kids⟩, k', a', i', oa, n, cap, rfl, hT⟩ := hu
  obtain ⟨oa2, cap2, he⟩ := hT.cells
  simp only [List.cons.injEq, Value.int.injEq, Value.slice.injEq, true_and, and_true] at he
  obtain ⟨rfl, rfl, rfl, rfl, rfl, rfl⟩ := he
  exact exch_any W H oi items ci k' a' i' kids oa cap s w hm hx hT
end Go.Proofs.Ythalimgejohffaa
