/-
  The laws' sameFloat: true of two float64 that are the same, up to which NaN.
-/
import Derived.Test.YtmehbfcmmffhmaaExt
namespace Go.Proofs.Ytmehbfcmmffhmaa.Num
open Go.RowKit Go.Proofs.Fl
set_option linter.unusedVariables false

theorem gt_same {v v' c : Nat} (h : FEq .f64 v c) (h' : FEq .f64 v' c) : ((FloatKind.f64.format.order v 0 == some Ordering.gt) == (FloatKind.f64.format.order v' 0 == some Ordering.gt)) = true := by
  rw [order_congr h (FEq.refl _ _), order_congr h' (FEq.refl _ _)]
  simp
end Go.Proofs.Ytmehbfcmmffhmaa.Num
