/-
  A float32 out of its bits, by the reference.
-/
import Derived.Test.YtmehbfcmmffhmaaExt
namespace Go.Proofs.Ytmehbfcmmffhmaa.Num
open Go.RowKit Go.Proofs.Fl
set_option linter.unusedVariables false

end Go.Proofs.Ytmehbfcmmffhmaa.Num
