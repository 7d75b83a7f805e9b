/-
  TopTurns: its walk, over an opened layout. Own text.
-/
import Derived.Test.YtdblibjmgamjeaaPlc
import Derived.Test.YtdblibjmgamjeaaTurnsW
namespace Go.Proofs.Ytdblibjmgamjeaa
open Go.RowKit
theorem turns_walk (v : Value) {w : World} (hv : LayArg w v) (a : Int) (_ : -9223372036854775808 ≤ a ∧ a ≤ 9223372036854775807) :
    Calls Try.prog 3 #[v, .int .i64 a] w fun e w' => e = .returned (.bool true) ∧ Below w.heap.size w w' := by
  obtain ⟨l, os, cs, rfl, hs⟩ := hv
  exact topTurns_any l os cs a w hs
end Go.Proofs.Ytdblibjmgamjeaa
