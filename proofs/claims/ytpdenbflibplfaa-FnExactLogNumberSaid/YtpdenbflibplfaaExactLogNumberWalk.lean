/-
  The law on LogNumber: case by case, as the word is; where the number is positive and finite, both texts run the same loops.
-/
import Derived.Test.YtpdenbflibplfaaSineAll
import Derived.Test.YtpdenbflibplfaaLog
import Derived.Test.YtpdenbflibplfaaLogIn
import Derived.Test.YtpdenbflibplfaaSameFloat
import Derived.Test.YtpdenbflibplfaaFin
namespace Go.Proofs.Ytpdenbflibplfaa.fnExactLogNumber
open Go.RowKit Go.Proofs.Fl Go.Proofs.Ytpdenbflibplfaa.Num
set_option linter.unusedVariables false
theorem Inf_calls (w : World) : Calls Try.prog 61 #[.int .i64 (-1)] w (Ret (.float .f64 18442240474082181120) w) := by
  go_enter Try.func61, Try.ntmps61
  go_wp2
  go_ret
  exact ⟨rfl, 0, rfl⟩
/-- the reference's wide logarithm of a word -/
def LW (y r : Nat) : Prop := ∀ w, Calls Try.prog 89 #[.float .f64 y] w (RetF .f64 r w)
theorem lw_nan (y : Nat) (h : nan .f64 y = true) : LW y (qn .f64) := by
  intro w
  have h1 := nan_neq (c := y) h
  clear h
  go_enter Try.func89, Try.ntmps89
  go_wp2_with (go_at_call 62; refine (NaN_calls _).mono ?_; rintro e w' ⟨rfl, n, rfl⟩)
  go_ret
  exact ⟨_, _, rfl, nanW, rfl⟩
theorem lw_neg (y : Nat) (h1 : (FloatKind.f64.format.order y y != some Ordering.eq) = false) (h2 : (FloatKind.f64.format.order y 0 == some Ordering.lt) = true) : LW y (qn .f64) := by
  intro w
  go_enter Try.func89, Try.ntmps89
  go_wp2_with (go_at_call 62; refine (NaN_calls _).mono ?_; rintro e w' ⟨rfl, n, rfl⟩)
  go_ret
  exact ⟨_, _, rfl, nanW, rfl⟩
theorem lw_zero (y : Nat) (h1 : (FloatKind.f64.format.order y y != some Ordering.eq) = false) (h2 : (FloatKind.f64.format.order y 0 == some Ordering.lt) = false) (h3 : (FloatKind.f64.format.order y 0 == some Ordering.eq) = true) : LW y 18442240474082181120 := by
  intro w
  go_enter Try.func89, Try.ntmps89
  go_wp2_with (go_at_call 61; refine (Inf_calls _).mono ?_; rintro e w' ⟨rfl, n, rfl⟩)
  go_ret
  exact ⟨_, _, rfl, FEq.refl _ _, rfl⟩
theorem IsInf_yes (y : Nat) (h : (FloatKind.f64.format.order y 9218868437227405311 == some Ordering.gt) = true) (w : World) : Calls Try.prog 94 #[.float .f64 y, .int .i64 1] w (Ret (.bool true) w) := by
  go_enter Try.func94, Try.ntmps94
  go_wp2
  go_ret
  exact ⟨rfl, 0, rfl⟩
theorem lw_inf (y : Nat) (h1 : (FloatKind.f64.format.order y y != some Ordering.eq) = false) (h2 : (FloatKind.f64.format.order y 0 == some Ordering.lt) = false) (h3 : (FloatKind.f64.format.order y 0 == some Ordering.eq) = false) (h4 : (FloatKind.f64.format.order y 9218868437227405311 == some Ordering.gt) = true) : LW y y := by
  intro w
  go_enter Try.func89, Try.ntmps89
  go_wp2_with (go_at_call 94; refine (IsInf_yes _ h4 _).mono ?_; rintro e w' ⟨rfl, n, rfl⟩)
  go_ret
  exact ⟨_, _, rfl, FEq.refl _ _, rfl⟩
theorem lw_log (y : Nat) (h : LogIn y) : LW y (logF y) := fun w => (l01LogWide_calls y h w).mono (by rintro e w' ⟨rfl, n, rfl⟩; exact ⟨_, n, rfl, FEq.refl _ _, rfl⟩)
theorem at_one {y r : Nat} (h : nan .f64 y = false) (hl : LW y r) : ∀ v, FEq .f64 v y → LW v r := fun v hv => by rw [hv.eq h]; exact hl
theorem l01Log_calls (x y r : Nat) (hy : fwide x = y) (hl : ∀ v, FEq .f64 v y → LW v r) (hf : Fits r) (w : World) : Calls Try.prog 70 #[.float .f32 x] w (RetF .f32 (fnar r) w) := by
  have HF := hid hf
  have HL := hid hl
  have HY := hid hy
  clear hf hl hy
  go_enter Try.func70, Try.ntmps70
  go_wp2_with (first | (refine wpList_wide rfl rfl (by kernel_rfl) Try.underlying26 ?_; intro v n hv; rw [HY.out] at hv) | (go_at_call 89; refine (HL.out _ (by assumption) _).mono ?_; rintro e w' ⟨v2, n2, rfl, hv2, rfl⟩; have HV := hid hv2; clear hv2) | (go_at_call 85; refine (l01Narrow_calls _ (HF.out.congr HV.out) _).mono ?_; rintro e w' ⟨v3, n3, rfl, hv3, rfl⟩))
  go_ret
  exact ⟨v3, _, rfl, by rw [← fnar_congr HV.out]; exact hv3, rfl⟩
theorem spec_of (x y r : Nat) (hy : fwide x = y) (hl : ∀ v, FEq .f64 v y → LW v r) (hf : Fits r) (w : World) : Calls Try.prog 37 #[.float .f32 x] w (RetF .f32 (fnar r) w) := by
  have H := hid (l01Log_calls x y r hy hl hf)
  clear hf hl hy
  go_enter Try.func37, Try.ntmps37
  go_wp2_with (go_at_call 70; refine (H.out _).mono ?_; rintro e w' ⟨v3, n3, rfl, hv3, rfl⟩)
  go_ret
  exact ⟨v3, _, rfl, hv3, rfl⟩
def IL (x r : Nat) : Prop := ∀ w, Calls Try.prog 32 #[.float .f32 x] w (RetF .f32 r w)
theorem nanN : Fits 9221120237041090561 := fits_qn.congr nanW
theorem il_neg (x : Nat) (h1 : (FloatKind.f32.format.order x 0 == some Ordering.eq) = false) (h2 : (FloatKind.f32.format.order x 0 == some Ordering.lt) = true) : IL x (fnar (qn .f64)) := by
  intro w
  go_enter Try.func32, Try.ntmps32
  go_wp2_with (first | (go_at_call 62; refine (NaN_calls _).mono ?_; rintro e w' ⟨rfl, n, rfl⟩) | (refine wpList_narrow rfl rfl (by kernel_rfl) Try.underlying22 nanN ?_; intro v3 n3 hv3))
  go_ret
  exact ⟨v3, _, rfl, by rw [← fnar_congr nanW]; exact hv3, rfl⟩
theorem il_nan (x : Nat) (h1 : (FloatKind.f32.format.order x 0 == some Ordering.eq) = false) (h2 : (FloatKind.f32.format.order x 0 == some Ordering.lt) = false) (h3 : (FloatKind.f32.format.order x x != some Ordering.eq) = true) : IL x (fnar (qn .f64)) := by
  intro w
  go_enter Try.func32, Try.ntmps32
  go_wp2_with (first | (go_at_call 62; refine (NaN_calls _).mono ?_; rintro e w' ⟨rfl, n, rfl⟩) | (refine wpList_narrow rfl rfl (by kernel_rfl) Try.underlying22 nanN ?_; intro v3 n3 hv3))
  go_ret
  exact ⟨v3, _, rfl, by rw [← fnar_congr nanW]; exact hv3, rfl⟩
theorem il_zero (x : Nat) (h1 : (FloatKind.f32.format.order x 0 == some Ordering.eq) = true) : IL x (fnar 18442240474082181120) := by
  intro w
  go_enter Try.func32, Try.ntmps32
  go_wp2_with (first | (go_at_call 61; refine (Inf_calls _).mono ?_; rintro e w' ⟨rfl, n, rfl⟩) | (refine wpList_narrow rfl rfl (by kernel_rfl) Try.underlying22 fits_ninf ?_; intro v3 n3 hv3))
  go_ret
  exact ⟨v3, _, rfl, hv3, rfl⟩
theorem il_inf (x : Nat) (h1 : (FloatKind.f32.format.order x 0 == some Ordering.eq) = false) (h2 : (FloatKind.f32.format.order x 0 == some Ordering.lt) = false) (h3 : (FloatKind.f32.format.order x x != some Ordering.eq) = false) (h4 : finB x = false) : IL x x := by
  intro w
  have H := hid h4
  clear h4
  go_enter Try.func32, Try.ntmps32
  go_wp2_with (go_at_call 63; refine (IsFinite_calls _ _).mono ?_; rw [H.out]; rintro e w' ⟨rfl, n, rfl⟩)
  go_ret
  exact ⟨_, _, rfl, FEq.refl _ _, rfl⟩
theorem il_log (x y : Nat) (hy : fwide x = y) (hn : nan .f64 y = false) (hl : LogIn y) (h1 : (FloatKind.f32.format.order x 0 == some Ordering.eq) = false) (h2 : (FloatKind.f32.format.order x 0 == some Ordering.lt) = false) (h3 : (FloatKind.f32.format.order x x != some Ordering.eq) = false) (h4 : finB x = true) : IL x (fnar (logF y)) := by
  intro w
  have H := hid h4
  have HY := hid hy
  have Hnn := hid hn
  have HL := hid hl
  have HF := hid ((logF_F2 hl).fits (by omega))
  clear h4 hy hn hl
  go_enter Try.func32, Try.ntmps32
  go_wp2_with (first | (go_at_call 63; refine (IsFinite_calls _ _).mono ?_; rw [H.out]; rintro e w' ⟨rfl, n, rfl⟩) | (refine wpList_wide rfl rfl (by kernel_rfl) Try.underlying26 ?_; intro v q hv; rw [HY.out] at hv; obtain rfl := hv.eq Hnn.out; clear hv) | (go_at_call 64; refine (naturalLog_calls _ HL.out _).mono ?_; rintro e w' ⟨rfl, n, rfl⟩) | (refine wpList_narrow rfl rfl (by kernel_rfl) Try.underlying22 HF.out ?_; intro v3 n3 hv3))
  go_ret
  exact ⟨v3, _, rfl, hv3, rfl⟩
theorem both (x : Nat) (hx : x < 4294967296) : ∃ r, (∀ w, Calls Try.prog 37 #[.float .f32 x] w (RetF .f32 r w)) ∧ IL x r := by
  rcases cases32 hx with h | rfl | rfl | rfl | rfl | h | h
  · refine ⟨_, spec_of x _ (qn .f64) rfl (fun v hv => lw_nan v ?_) fits_qn, il_nan x (nan_eql h) (nan_lt h) (nan_neq h)⟩
    rw [hv.nan_eq, nan_wide, h]
  · exact ⟨_, spec_of _ _ _ fw0 (at_one (by decide +kernel) (lw_zero _ (by decide +kernel) (by decide +kernel) (by decide +kernel))) fits_ninf, il_zero _ (by decide +kernel)⟩
  · exact ⟨_, spec_of _ _ _ fw1 (at_one (by decide +kernel) (lw_zero _ (by decide +kernel) (by decide +kernel) (by decide +kernel))) fits_ninf, il_zero _ (by decide +kernel)⟩
  · refine ⟨_, spec_of _ _ _ fw2 (at_one (by decide +kernel) (lw_inf _ (by decide +kernel) (by decide +kernel) (by decide +kernel) (by decide +kernel))) fits_pinf, ?_⟩
    rw [fn_inf]
    exact il_inf _ (by decide +kernel) (by decide +kernel) (by decide +kernel) (by decide +kernel)
  · exact ⟨_, spec_of _ _ _ fw3 (at_one (by decide +kernel) (lw_neg _ (by decide +kernel) (by decide +kernel))) fits_qn, il_neg _ (by decide +kernel) (by decide +kernel)⟩
  · have hn : nan .f64 (fwide x) = false := by rw [nan_wide]; exact nn_fin h.fin
    refine ⟨_, spec_of x _ _ rfl (at_one hn (lw_neg _ ?_ h.wide_lt)) fits_qn, il_neg x ?_ ?_⟩
    · rw [order_self, hn]
    · rw [eq32 x h.fin]; have := h.sv; exact decide_eq_false (by omega)
    · rw [lt32 x h.fin]; exact decide_eq_true h.sv
  · have hn : nan .f64 (fwide x) = false := by rw [nan_wide]; exact nn_fin h.fin
    refine ⟨_, spec_of x _ _ rfl (at_one hn (lw_log _ h.log)) ((logF_F2 h.log).fits (by omega)), il_log x _ rfl hn h.log ?_ ?_ ?_ (finB_fin h.fin)⟩
    · rw [eq32 x h.fin]; have := h.sv; exact decide_eq_false (by omega)
    · rw [lt32 x h.fin]; have := h.sv; exact decide_eq_false (by omega)
    · rw [order_self]; exact nn_fin h.fin
theorem walk (x : Nat) (hw : (Lit.float .f32 x).wf = true) (w : World) : Calls Try.prog 11 #[.float .f32 x] w fun e w' => e = .returned (.bool true) ∧ Below w.heap.size w w' := by
  obtain ⟨r, hs, hi⟩ := both x (wf32 hw)
  clear hw
  go_enter Try.func11, Try.ntmps11
  have HS := hid hs
  have HI := hid hi
  clear hs hi
  go_wp2_with fail
  refine (HS.out _).mono ?_
  rintro e w' ⟨v2, n2, rfl, hv2, rfl⟩
  have HV := hid hv2
  clear hv2
  go_wp2_with fail
  refine (HI.out _).mono ?_
  rintro e w' ⟨v3, n3, rfl, hv3, rfl⟩
  have HF := hid (hv3.trans HV.out.symm)
  clear hv3
  go_wp2_with (first | (refine wpList_wide rfl rfl (by kernel_rfl) Try.underlying26 ?_; intro v q hv) | (go_at_call 18; refine (sameFloat_calls _ _ (wide_same HF.out (by assumption) (by assumption)) _).mono ?_; rintro e w' ⟨rfl, n5, rfl⟩))
  go_ret
  exact ⟨rfl, below_drewN (Below.refl _ _) _⟩
end Go.Proofs.Ytpdenbflibplfaa.fnExactLogNumber
