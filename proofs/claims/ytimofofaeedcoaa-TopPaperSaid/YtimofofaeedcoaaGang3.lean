/-
  The walks of GangNeedSums and GangAllotLeast. Own text.
-/
import Derived.Test.YtimofofaeedcoaaGang2
import Derived.Test.YtimofofaeedcoaaInts
namespace Go.Proofs.Ytimofofaeedcoaa
open Go.RowKit
set_option linter.unusedVariables false
theorem gangs_lit : gchk [5, 3] 4 = 0 ∧ leastV [5, 3] 4 = 3 ∧ allotV [5, 3] 3 = [2, 1] :=
  ⟨by decide, leastV_eq (by intro d hd; simp at hd; omega) (by decide) ⟨by decide, by decide, .inr (by decide)⟩, by decide⟩
end Go.Proofs.Ytimofofaeedcoaa
