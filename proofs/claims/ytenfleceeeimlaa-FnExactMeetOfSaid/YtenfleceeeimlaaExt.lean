/-
  The entries of package math that have no body here: what a call of each gives.
-/
import Derived.Test.YtenfleceeeimlaaChecked
import Derived.Test.YtenfleceeeimlaaFloat
import Derived.WalkLawsBesides
import Derived.WalkSpells
import Derived.Below
import Derived.Handy
import Derived.Laws.Externs
import Derived.Laws.BitsAllLaws
namespace Go.Proofs.Ytenfleceeeimlaa
open Go.RowKit Go.Proofs.Fl
set_option linter.unusedVariables false


namespace Num
end Num
end Go.Proofs.Ytenfleceeeimlaa
