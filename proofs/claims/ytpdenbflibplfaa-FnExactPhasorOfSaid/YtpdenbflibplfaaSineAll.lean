/-
  The sine of turns of every float64, by both texts, and math.NaN.
-/
import Derived.Test.YtpdenbflibplfaaExt
import Derived.Test.YtpdenbflibplfaaSineW
namespace Go.Proofs.Fl
open Go Ieee Go.RowKit
/-- the sine of any turns -/
def sineW (y : Nat) : Nat := if nan .f64 (fop .sub .f64 y y) = true then qn .f64 else if bigB y = true then 0 else sineF (fracF y)
theorem sineW_congr {x y : Nat} (h : FEq .f64 x y) : sineW x = sineW y := by
  rcases h.cases with e | ⟨a, b⟩
  · rw [e]
  · unfold sineW
    rw [fop_nan_left a, fop_nan_left b, if_pos (nan_qn _), if_pos (nan_qn _)]
theorem good_lt {y : Nat} (h : nan .f64 (fop .sub .f64 y y) = false) : rg D y < D.infRung := by
  apply Classical.byContradiction
  intro hc
  rw [self_bad hc] at h
  cases h
theorem good_zero {y : Nat} (h : nan .f64 (fop .sub .f64 y y) = false) : fop .sub .f64 y y = 0 := self_zero .f64 y (good_lt h)
theorem lt_good {y : Nat} (h : rg D y < D.infRung) : nan .f64 (fop .sub .f64 y y) = false := by
  rw [self_zero .f64 y h]
  decide +kernel
theorem sineW_fits (y : Nat) : Fits (sineW y) := by
  unfold sineW
  split
  · exact .inl (nan_qn _)
  · split
    · exact fits_zero false
    · rename_i h
      exact (sineF_F2 (frac_F2 (F2_small (by simpa using h)))).fits (by omega)
theorem bad_neq {y v : Nat} (hv : FEq .f64 v (fop .sub .f64 y y)) (h : nan .f64 (fop .sub .f64 y y) = true) : (FloatKind.f64.format.order v 0 != some Ordering.eq) = true := by
  rw [order_nan_left (by rw [hv.nan_eq]; exact h)]
  rfl
theorem zero_neq : (FloatKind.f64.format.order 0 0 != some Ordering.eq) = false := by decide +kernel
theorem small_of {y : Nat} (h : nan .f64 (fop .sub .f64 y y) = false) (hb : bigB y = false) : ∀ a b, (FloatKind.f64.format.order y 4841369599423283200 == some Ordering.gt || FloatKind.f64.format.order y 4841369599423283200 == some Ordering.eq) = a →
    (FloatKind.f64.format.order y 14064741636278059008 == some Ordering.lt || FloatKind.f64.format.order y 14064741636278059008 == some Ordering.eq) = b → a = false ∧ b = false := by
  intro a b ha hb'
  have := big_two (Nat.le_of_lt (good_lt h))
  rw [ha, hb', hb] at this
  simpa using this
theorem nanW : FEq .f64 9221120237041090561 (qn .f64) := by show cn _ _ = cn _ _; decide +kernel
end Go.Proofs.Fl
namespace Go.Proofs.Ytpdenbflibplfaa.Num
open Go.RowKit Go.Proofs.Fl
set_option linter.unusedVariables false
theorem NaN_calls (w : World) : Calls Try.prog 62 #[] w (Ret (.float .f64 9221120237041090561) w) := by
  go_enter Try.func62, Try.ntmps62
  go_wp2
  go_ret
  exact ⟨rfl, 0, rfl⟩
/-- the reference's narrowing -/
theorem l01Narrow_calls (x : Nat) (hx : Fits x) (w : World) : Calls Try.prog 85 #[.float .f64 x] w (RetF .f32 (fnar x) w) := by
  go_enter Try.func85, Try.ntmps85
  go_wp2_with (refine wpList_narrow rfl rfl (by kernel_rfl) Try.underlying22 hx ?_; intro v n hv)
  go_ret
  exact ⟨v, _, rfl, hv, rfl⟩
theorem sineW_bad (y : Nat) (h : nan .f64 (fop .sub .f64 y y) = true) (w : World) : Calls Try.prog 87 #[.float .f64 y] w (RetF .f64 (qn .f64) w) := by
  have H := hid h
  clear h
  go_enter Try.func87, Try.ntmps87
  go_wp2_with (first | (refine wpList_fop rfl rfl rfl rfl ?_; intro v q hv; have ev := bad_neq hv H.out) | (go_at_call 62; refine (NaN_calls _).mono ?_; rintro e w' ⟨rfl, n, rfl⟩))
  go_ret
  exact ⟨_, _, rfl, nanW, rfl⟩
theorem sineW_big (y : Nat) (h : nan .f64 (fop .sub .f64 y y) = false) (hb : bigB y = true) (w : World) : Calls Try.prog 87 #[.float .f64 y] w (RetF .f64 0 w) := by
  have s1 := fun w => run_fop_det (P := Try.prog) h 26 w
  rw [good_zero h] at s1
  have s2 := zero_neq
  have ht := big_two (Nat.le_of_lt (good_lt h))
  rw [hb] at ht
  clear h hb
  cases h1 : (FloatKind.f64.format.order y 4841369599423283200 == some Ordering.gt || FloatKind.f64.format.order y 4841369599423283200 == some Ordering.eq)
  · rw [h1] at ht
    simp only [Bool.false_or] at ht
    go_enter Try.func87, Try.ntmps87
    go_wp2
    go_ret
    exact ⟨_, 0, rfl, rfl, rfl⟩
  · clear ht
    go_enter Try.func87, Try.ntmps87
    go_wp2
    go_ret
    exact ⟨_, 0, rfl, rfl, rfl⟩
theorem sineW_small (x : Nat) (h : nan .f64 (fop .sub .f64 x x) = false) (hb : bigB x = false) (w : World) : Calls Try.prog 87 #[.float .f64 x] w (Ret (.float .f64 (sineF (fracF x))) w) := by
  have hx := F2_small hb
  have hab := small_of h hb _ _ rfl rfl
  obtain ⟨f1, f2, z, u, T, G, hp⟩ := sine_parts (frac_F2 hx)
  rw [hp.res]
  refine sineW_core x (fracF x) f1 f2 z u T G ⟨h, by rw [good_zero h]; exact zero_neq, hab.1, hab.2⟩ hx rfl hp.fu hp.nr hp.hT ?_ hp.hG ?_ ?_ ?_ w
  · have e := hp.h1
    cases T
    · simpa using e
    · simp only [if_true] at e ⊢
      intro w
      rw [e]
      exact run_fop_det hp.n1 _ w
  · have e := hp.h2
    cases G
    · simpa using e
    · simp only [if_true] at e ⊢
      intro w
      rw [e]
      exact run_fop_det hp.n2 _ w
  · intro w
    rw [hp.hz]
    exact run_fop_det hp.nz _ w
  · intro w
    rw [hp.hu]
    exact run_fop_det hp.nu _ w
theorem l01SineWide_calls (y : Nat) (w : World) : Calls Try.prog 87 #[.float .f64 y] w (RetF .f64 (sineW y) w) := by
  unfold sineW
  split
  · exact sineW_bad y ‹_› w
  · rename_i h
    split
    · exact sineW_big y (by simpa using h) ‹_› w
    · rename_i hb
      refine (sineW_small y (by simpa using h) (by simpa using hb) w).mono ?_
      rintro e w' ⟨rfl, n, rfl⟩
      exact ⟨_, n, rfl, rfl, rfl⟩
end Go.Proofs.Ytpdenbflibplfaa.Num
