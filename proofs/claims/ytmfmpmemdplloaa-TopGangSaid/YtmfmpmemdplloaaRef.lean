/-
  Walks of the reference's small functions. Own text.
-/
import Derived.Test.YtmfmpmemdplloaaRows
import Derived.Test.YtmfmpmemdplloaaNum
import Derived.Test.YtmfmpmemdplloaaRead
import Derived.WalkKit
import Derived.WalkSpells
import Derived.WalkLawsBesides
namespace Go.Proofs.Ytmfmpmemdplloaa
open Go.RowKit
set_option linter.unusedVariables false
end Go.Proofs.Ytmfmpmemdplloaa
