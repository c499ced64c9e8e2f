/-
  The entries of package math that have no body here: what a call of each gives.
-/
import Derived.Test.YtlfmcdobiojdlaaChecked
import Derived.Test.YtlfmcdobiojdlaaFloat
import Derived.WalkLawsBesides
import Derived.WalkSpells
import Derived.Below
import Derived.Handy
import Derived.Laws.Externs
import Derived.Laws.BitsAllLaws
namespace Go.Proofs.Ytlfmcdobiojdlaa
open Go.RowKit Go.Proofs.Fl
set_option linter.unusedVariables false


namespace Num
end Num
end Go.Proofs.Ytlfmcdobiojdlaa
