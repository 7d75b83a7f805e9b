/-
  TopBook: its walk, over an opened layout. Own text.
-/
import Derived.Test.YtdblibjmgamjeaaPlc
import Derived.Test.YtdblibjmgamjeaaBookW
namespace Go.Proofs.Ytdblibjmgamjeaa
open Go.RowKit
theorem book_walk (v : Value) {w : World} (hv : LayArg w v) (a : Int) (_ : -9223372036854775808 ≤ a ∧ a ≤ 9223372036854775807) (nest : Bool) :
    Calls Try.prog 4 #[v, .int .i64 a, .bool nest] w fun e w' => e = .returned (.bool true) ∧ Below w.heap.size w w' := by
  obtain ⟨l, os, cs, rfl, hs⟩ := hv
  exact topBook_any l os cs a nest w hs
end Go.Proofs.Ytdblibjmgamjeaa
