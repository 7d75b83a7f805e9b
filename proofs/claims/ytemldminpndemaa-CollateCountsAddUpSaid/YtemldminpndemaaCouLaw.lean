/-
  CollateCountsAddUp at its opened arguments. Own text.
-/
import Derived.Test.YtemldminpndemaaCounts
import Derived.Test.YtemldminpndemaaCollArg
namespace Go.Proofs.Ytemldminpndemaa
open Go.RowKit
set_option linter.unusedVariables false
theorem counts_law (v0 : Value) {w : World} (x0 : FeedArg w v0) (v1 : Value) (x1 : FltArg w v1) : Calls Try.prog 5 #[v0, v1] w (RetTrue w) := by
  obtain ⟨fs, oa, so, sc, ca, rfl, hm, -, hA, -⟩ := x0
  obtain ⟨F, oF, cF, rfl, hFm, hFc, hF0, hF⟩ := x1
  exact counts_any fs F oa so sc ca oF cF w hA hm hF hFm hFc hF0
end Go.Proofs.Ytemldminpndemaa
