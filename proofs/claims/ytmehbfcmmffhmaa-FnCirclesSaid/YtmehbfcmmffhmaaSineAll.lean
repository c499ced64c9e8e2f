/-
  The sine of turns of every float64, by both texts, and math.NaN.
-/
import Derived.Test.YtmehbfcmmffhmaaExt
import Derived.Test.YtmehbfcmmffhmaaSineW
namespace Go.Proofs.Fl
open Go Ieee Go.RowKit
/-- the sine of any turns -/
def sineW (y : Nat) : Nat := if nan .f64 (fop .sub .f64 y y) = true then qn .f64 else if bigB y = true then 0 else sineF (fracF y)
theorem sineW_congr {x y : Nat} (h : FEq .f64 x y) : sineW x = sineW y := by
  rcases h.cases with e | ⟨a, b⟩
  · rw [e]
  · unfold sineW
    rw [fop_nan_left a, fop_nan_left b, if_pos (nan_qn _), if_pos (nan_qn _)]
theorem good_lt {y : Nat} (h : nan .f64 (fop .sub .f64 y y) = false) : rg D y < D.infRung := by
  apply Classical.byContradiction
  intro hc
  rw [self_bad hc] at h
  cases h
theorem good_zero {y : Nat} (h : nan .f64 (fop .sub .f64 y y) = false) : fop .sub .f64 y y = 0 := self_zero .f64 y (good_lt h)
theorem lt_good {y : Nat} (h : rg D y < D.infRung) : nan .f64 (fop .sub .f64 y y) = false := by
  rw [self_zero .f64 y h]
  decide +kernel
theorem sineW_fits (y : Nat) : Fits (sineW y) := by
  unfold sineW
  split
  · exact .inl (nan_qn _)
  · split
    · exact fits_zero false
    · rename_i h
      exact (sineF_F2 (frac_F2 (F2_small (by simpa using h)))).fits (by omega)
theorem bad_neq {y v : Nat} (hv : FEq .f64 v (fop .sub .f64 y y)) (h : nan .f64 (fop .sub .f64 y y) = true) : (FloatKind.f64.format.order v 0 != some Ordering.eq) = true := by
  rw [order_nan_left (by rw [hv.nan_eq]; exact h)]
  rfl
theorem zero_neq : (FloatKind.f64.format.order 0 0 != some Ordering.eq) = false := by decide +kernel
theorem small_of {y : Nat} (h : nan .f64 (fop .sub .f64 y y) = false) (hb : bigB y = false) : ∀ a b, (FloatKind.f64.format.order y 4841369599423283200 == some Ordering.gt || FloatKind.f64.format.order y 4841369599423283200 == some Ordering.eq) = a →
    (FloatKind.f64.format.order y 14064741636278059008 == some Ordering.lt || FloatKind.f64.format.order y 14064741636278059008 == some Ordering.eq) = b → a = false ∧ b = false := by
  intro a b ha hb'
  have := big_two (Nat.le_of_lt (good_lt h))
  rw [ha, hb', hb] at this
  simpa using this
theorem nanW : FEq .f64 9221120237041090561 (qn .f64) := by show cn _ _ = cn _ _; decide +kernel
end Go.Proofs.Fl
namespace Go.Proofs.Ytmehbfcmmffhmaa.Num
open Go.RowKit Go.Proofs.Fl
set_option linter.unusedVariables false
theorem NaN_calls (w : World) : Calls Try.prog 18 #[] w (Ret (.float .f64 9221120237041090561) w) := by
  go_enter Try.func18, Try.ntmps18
  go_wp2
  go_ret
  exact ⟨rfl, 0, rfl⟩
end Go.Proofs.Ytmehbfcmmffhmaa.Num
