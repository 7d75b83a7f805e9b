/-
  Walks of the reference's small functions. Own text.
-/
import Derived.Test.YtimofofaeedcoaaRows
import Derived.Test.YtimofofaeedcoaaNum
import Derived.Test.YtimofofaeedcoaaRead
import Derived.WalkKit
import Derived.WalkSpells
import Derived.WalkLawsBesides
namespace Go.Proofs.Ytimofofaeedcoaa
open Go.RowKit
set_option linter.unusedVariables false
end Go.Proofs.Ytimofofaeedcoaa
