/-
  The law on RootNumber: both texts take the root of the number, made a float64, and narrow it; the root is never too great for that.
-/
import Derived.Test.YtpdenbflibplfaaSqrt
import Derived.Test.YtpdenbflibplfaaSameFloat
namespace Go.Proofs.Ytpdenbflibplfaa.Num
open Go.RowKit Go.Proofs.Fl
set_option linter.unusedVariables false
/-- the reference's narrowing -/
theorem l01Narrow_calls (x : Nat) (hx : Fits x) (w : World) : Calls Try.prog 85 #[.float .f64 x] w (RetF .f32 (fnar x) w) := by
  go_enter Try.func85, Try.ntmps85
  go_wp2_with (refine wpList_narrow rfl rfl (by kernel_rfl) Try.underlying22 hx ?_; intro v n hv)
  go_ret
  exact ⟨v, _, rfl, hv, rfl⟩
end Go.Proofs.Ytpdenbflibplfaa.Num
namespace Go.Proofs.Ytpdenbflibplfaa.fnExactRootNumber
open Go.RowKit Go.Proofs.Fl Go.Proofs.Ytpdenbflibplfaa.Num
set_option linter.unusedVariables false
theorem l01Sqrt_calls (x : Nat) (w : World) : Calls Try.prog 68 #[.float .f32 x] w (RetF .f32 (fnar (froot (fwide x))) w) := by
  have HF := hid (root_fits x)
  go_enter Try.func68, Try.ntmps68
  go_wp2_with (refine wpList_wide rfl rfl (by kernel_rfl) Try.underlying26 ?_; intro v n hv)
  refine (Sqrt_calls _ _).mono ?_
  rintro e w' ⟨v2, n2, rfl, hv2, rfl⟩
  have HV := hid (show FEq .f64 v2 (froot (fwide x)) by rw [← froot_congr ‹FEq .f64 _ (fwide x)›]; exact hv2)
  clear hv2
  go_wp2_with (go_at_call 85; refine (l01Narrow_calls _ (HF.out.congr HV.out) _).mono ?_; rintro e w' ⟨v3, n3, rfl, hv3, rfl⟩)
  go_ret
  exact ⟨v3, _, rfl, by rw [← fnar_congr HV.out]; exact hv3, rfl⟩
theorem spec_calls (x : Nat) (w : World) : Calls Try.prog 35 #[.float .f32 x] w (RetF .f32 (fnar (froot (fwide x))) w) := by
  go_enter Try.func35, Try.ntmps35
  go_wp2_with (go_at_call 68; refine (l01Sqrt_calls _ _).mono ?_; rintro e w' ⟨v3, n3, rfl, hv3, rfl⟩)
  go_ret
  exact ⟨v3, _, rfl, hv3, rfl⟩
theorem impl_calls (x : Nat) (w : World) : Calls Try.prog 36 #[.float .f32 x] w (RetF .f32 (fnar (froot (fwide x))) w) := by
  have HF := hid (root_fits x)
  go_enter Try.func36, Try.ntmps36
  go_wp2_with (refine wpList_wide rfl rfl (by kernel_rfl) Try.underlying26 ?_; intro v n hv)
  refine (Sqrt_calls _ _).mono ?_
  rintro e w' ⟨v2, n2, rfl, hv2, rfl⟩
  have HV := hid (show FEq .f64 v2 (froot (fwide x)) by rw [← froot_congr ‹FEq .f64 _ (fwide x)›]; exact hv2)
  clear hv2
  go_wp2_with (refine wpList_narrow rfl rfl (by kernel_rfl) Try.underlying22 (HF.out.congr HV.out) ?_; intro v3 n3 hv3)
  go_ret
  exact ⟨v3, _, rfl, by rw [← fnar_congr HV.out]; exact hv3, rfl⟩
theorem walk (x : Nat) (hw : (Lit.float .f32 x).wf = true) (w : World) : Calls Try.prog 10 #[.float .f32 x] w fun e w' => e = .returned (.bool true) ∧ Below w.heap.size w w' := by
  clear hw
  go_enter Try.func10, Try.ntmps10
  go_wp2_with fail
  refine (spec_calls _ _).mono ?_
  rintro e w' ⟨v2, n2, rfl, hv2, rfl⟩
  have HV := hid hv2
  clear hv2
  go_wp2_with fail
  refine (impl_calls _ _).mono ?_
  rintro e w' ⟨v3, n3, rfl, hv3, rfl⟩
  have HF := hid (hv3.trans HV.out.symm)
  clear hv3
  go_wp2_with (first | (refine wpList_wide rfl rfl (by kernel_rfl) Try.underlying26 ?_; intro v q hv) | (go_at_call 18; refine (sameFloat_calls _ _ (wide_same HF.out (by assumption) (by assumption)) _).mono ?_; rintro e w' ⟨rfl, n5, rfl⟩))
  go_ret
  exact ⟨rfl, below_drewN (Below.refl _ _) _⟩
end Go.Proofs.Ytpdenbflibplfaa.fnExactRootNumber
