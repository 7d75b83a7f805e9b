/-
  CollateMatchesReference at its opened arguments. Own text.
-/
import Derived.Test.YtemldminpndemaaRefL
import Derived.Test.YtemldminpndemaaCollArg
namespace Go.Proofs.Ytemldminpndemaa
open Go.RowKit
set_option linter.unusedVariables false
theorem matches_law (v0 : Value) {w : World} (x0 : FeedArg w v0) (v1 : Value) (x1 : FltArg w v1) : Calls Try.prog 3 #[v0, v1] w (RetTrue w) := by
  obtain ⟨fs, oa, so, sc, ca, rfl, hm, -, hA, hs⟩ := x0
  obtain ⟨F, oF, cF, rfl, hFm, hFc, hF0, hF⟩ := x1
  exact matches_any fs F oa so sc ca oF cF w hA hm hs hF hFm hFc hF0
end Go.Proofs.Ytemldminpndemaa
