/-
  The sine of turns, by the reference, of a number of turns that is finite and less than 2 to the power of 52.
-/
import Derived.Test.YtmehbfcmmffhmaaExt
import Derived.Test.YtmehbfcmmffhmaaSine
namespace Go.Proofs.Ytmehbfcmmffhmaa.Num
open Go.RowKit Go.Proofs.Fl
set_option linter.unusedVariables false

/-- what the reference's first tests say of such a number -/
structure Small (x : Nat) : Prop where
  fin : nan .f64 (fop .sub .f64 x x) = false
  zero : (FloatKind.f64.format.order (fop .sub .f64 x x) 0 != some Ordering.eq) = false
  low : (FloatKind.f64.format.order x 4841369599423283200 == some Ordering.gt || FloatKind.f64.format.order x 4841369599423283200 == some Ordering.eq) = false
  high : (FloatKind.f64.format.order x 14064741636278059008 == some Ordering.lt || FloatKind.f64.format.order x 14064741636278059008 == some Ordering.eq) = false

theorem wrap_kD {j : Nat} (h : j < 8) : floatOfInt .f64 (wrap64 (2 * (8 - (j : Int)) * (2 * (8 - (j : Int)) + 1))) = kD j := by
  have : j = 0 ∨ j = 1 ∨ j = 2 ∨ j = 3 ∨ j = 4 ∨ j = 5 ∨ j = 6 ∨ j = 7 := by omega
  unfold kD
  congr 1
  rcases this with rfl | rfl | rfl | rfl | rfl | rfl | rfl | rfl <;> decide +kernel
end Go.Proofs.Ytmehbfcmmffhmaa.Num
