/-
  The walk of PaperYieldMatchesReference at any arguments. Own text.
-/
import Derived.Test.YtdgmdohmjdfgdaaPap2
import Derived.Test.YtdgmdohmjdfgdaaSteps
namespace Go.Proofs.Ytdgmdohmjdfgdaa
open Go.RowKit
theorem ymr_law (v : Value) {w : World} (hv : StepsArg w v) (n : Int) (_hn : i64ok n) :
    Calls Try.prog 5 #[v, .int .i64 n] w fun e w' => e = .returned (.bool true) ∧ Below w.heap.size w w' := by
  obtain ⟨xs, oa, cap, rfl, hm, hx, _⟩ := hv
  exact ymr_any oa xs cap n w hm hx
end Go.Proofs.Ytdgmdohmjdfgdaa
