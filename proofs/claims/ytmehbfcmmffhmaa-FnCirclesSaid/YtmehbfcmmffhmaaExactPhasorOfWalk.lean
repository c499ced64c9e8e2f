/-
  The law on PhasorOf.
-/
import Derived.Test.YtmehbfcmmffhmaaPhN
import Derived.Test.YtmehbfcmmffhmaaFrom
import Derived.Test.YtmehbfcmmffhmaaSameFloat
import Derived.Test.YtmehbfcmmffhmaaSub
namespace Go.Proofs.Ytmehbfcmmffhmaa.fnExactPhasorOf
open Go.RowKit Go.Proofs.Fl Go.Proofs.Ytmehbfcmmffhmaa.Num
set_option linter.unusedVariables false
set_option linter.unusedSimpArgs false
/-- returned a complex number, up to which NaNs -/
def RetC (re im : Nat) (w : World) (e : Ending) (w' : World) : Prop := ∃ a b n, e = .returned (.complex .f32 a b) ∧ FEq .f32 a re ∧ FEq .f32 b im ∧ w' = w.drewN n
def IL (y re im : Nat) : Prop := ∀ w, Calls Try.prog 10 #[.float .f64 y] w (RetC re im w)
theorem eq_bad {y v : Nat} (hv : FEq .f64 v (fop .sub .f64 y y)) (h : nan .f64 (fop .sub .f64 y y) = true) : (FloatKind.f64.format.order v 0 == some Ordering.eq) = false := by
  rw [order_nan_left (by rw [hv.nan_eq]; exact h)]
  rfl
theorem isFinite64_bad (y : Nat) (h : nan .f64 (fop .sub .f64 y y) = true) (w : World) : Calls Try.prog 21 #[.float .f64 y] w (Ret (.bool false) w) := by
  have H := hid h
  clear h
  go_enter Try.func21, Try.ntmps21
  go_wp2_with (refine wpList_fop rfl rfl rfl rfl ?_; intro v q hv; have ev := eq_bad hv H.out)
  go_ret
  exact ⟨rfl, _, rfl⟩
theorem zero_eq : (FloatKind.f64.format.order 0 0 == some Ordering.eq) = true := by decide +kernel
theorem isFinite64_good (y : Nat) (h : nan .f64 (fop .sub .f64 y y) = false) (w : World) : Calls Try.prog 21 #[.float .f64 y] w (Ret (.bool true) w) := by
  have s1 := fun w => run_fop_det (P := Try.prog) h 27 w
  rw [good_zero h] at s1
  have s2 := zero_eq
  clear h
  go_enter Try.func21, Try.ntmps21
  go_wp2
  go_ret
  exact ⟨rfl, 0, rfl⟩
theorem nanN : Fits 9221120237041090561 := .inl (by decide +kernel)
theorem nan3 : FEq .f32 2143289344 (qn .f32) := FEq.of_nan (by decide +kernel) (nan_qn _)
theorem nan4 : fnar 9221120237041090561 = qn .f32 := fnar_nan (by decide +kernel)
theorem il_bad (y : Nat) (h : nan .f64 (fop .sub .f64 y y) = true) : IL y (qn .f32) (qn .f32) := by
  intro w
  have H := hid h
  clear h
  go_enter Try.func10, Try.ntmps10
  go_wp2_with (first | (go_at_call 21; refine (isFinite64_bad _ H.out _).mono ?_; rintro e w' ⟨rfl, n, rfl⟩) | (go_at_call 18; refine (NaN_calls _).mono ?_; rintro e w' ⟨rfl, n, rfl⟩) | (refine wpList_narrow rfl rfl (by kernel_rfl) Try.underlying24 nanN ?_; intro v3 n3 hv3))
  go_ret
  exact ⟨v3, v3, _, rfl, by rw [← nan4]; exact hv3, by rw [← nan4]; exact hv3, rfl⟩
theorem il_big (y : Nat) (h : nan .f64 (fop .sub .f64 y y) = false) (hb : bigB y = true) : IL y 1065353216 0 := by
  intro w
  have hba := big_abs (Nat.le_of_lt (good_lt h))
  rw [hb] at hba
  have H := hid h
  clear h hb
  go_enter Try.func10, Try.ntmps10
  go_wp2_with (first | (go_at_call 21; refine (isFinite64_good _ H.out _).mono ?_; rintro e w' ⟨rfl, n, rfl⟩) | (go_at_call 22; refine (Abs_calls _ _).mono ?_; rintro e w' ⟨rfl, n, rfl⟩))
  go_ret
  exact ⟨_, _, _, rfl, FEq.refl _ _, FEq.refl _ _, rfl⟩
/-- what a walk of the point needs -/
structure PW (y f J fJ z c s nc ns : Nat) : Prop where
  hf : fracF y = f
  JB : J ≤ 4
  go : ∀ i, i < J → (FloatKind.f64.format.order (phF f i) 4598175219545276416 == some Ordering.gt || FloatKind.f64.format.order (phF f i) 4598175219545276416 == some Ordering.eq) = true ∧ ∀ w, (binOp .sub 27 (.float .f64 (phF f i)) (.float .f64 4598175219545276416)).run Try.prog w = .ok (.float .f64 (phF f (i + 1))) w
  stop : (FloatKind.f64.format.order fJ 4598175219545276416 == some Ordering.gt || FloatKind.f64.format.order fJ 4598175219545276416 == some Ordering.eq) = false
  e : phF f J = fJ
  hz : ∀ w, (binOp .sub 27 (.float .f64 4598175219545276416) (.float .f64 fJ)).run Try.prog w = .ok (.float .f64 z) w
  f2 : F2 0 fJ
  z2 : F2 1 z
  ec : sineF (fracF z) = c
  es : sineF (fracF fJ) = s
  hc : ∀ w, (binOp .sub 27 (.float .f64 0) (.float .f64 c)).run Try.prog w = .ok (.float .f64 nc) w
  hs : ∀ w, (binOp .sub 27 (.float .f64 0) (.float .f64 s)).run Try.prog w = .ok (.float .f64 ns) w
  fc : Fits c
  fs : Fits s
  fnc : Fits nc
  fns : Fits ns
  enc : fop .sub .f64 0 c = nc
  ens : fop .sub .f64 0 s = ns
theorem pw_of {y : Nat} (h : F2 52 y) : ∃ f J fJ z c s nc ns, PW y f J fJ z c s nc ns := by
  obtain ⟨J, hJ, hgo, hst, hF⟩ := ph_end (frac_F2 h)
  exact ⟨fracF y, J, phF (fracF y) J, _, _, _, _, _, rfl, hJ, fun i hi => ⟨(hgo i hi).1, fun w => run_fop_det (hgo i hi).2 _ w⟩, hst, rfl, fun w => run_fop_det (phz_F2 hF).nn _ w, hF, phz_F2 hF, rfl, rfl,
    fun w => run_fop_det (neg_F2 (phC_F2 hF)).nn _ w, fun w => run_fop_det (neg_F2 (phS_F2 hF)).nn _ w, (phC_F2 hF).fits (by omega), (phS_F2 hF).fits (by omega), (neg_F2 (phC_F2 hF)).fits (by omega), (neg_F2 (phS_F2 hF)).fits (by omega), rfl, rfl⟩
theorem at_sine (x : Nat) (h : Hid (F2 52 x)) (w : World) : Calls Try.prog 24 #[.float .f64 x] w (Ret (.float .f64 (sineF (fracF x))) w) := sine_calls x h.out w
set_option maxHeartbeats 3200000 in
theorem il_walk (y f J fJ z c s nc ns : Nat) (h : nan .f64 (fop .sub .f64 y y) = false) (hb : bigB y = false) (hp : PW y f J fJ z c s nc ns) : IL y (fnar (phRe J c s)) (fnar (phIm J c s)) := by
  intro w
  have hba := big_abs (Nat.le_of_lt (good_lt h))
  rw [hb] at hba
  have H := hid h
  have HY := hid (F2_small hb)
  have HP := hid hp
  have HZ : Hid (F2 52 z) := hid (hp.z2.mono (by omega) (by omega))
  have HG : Hid (F2 52 fJ) := hid (hp.f2.mono (by omega) (by omega))
  have HFC := hid hp.fc
  have HFS := hid hp.fs
  have HFNC := hid hp.fnc
  have HFNS := hid hp.fns
  have HEC := hid hp.ec
  have HES := hid hp.es
  have hz := hp.hz
  have hc := hp.hc
  have hs := hp.hs
  clear h hb hp
  go_enter Try.func10, Try.ntmps10
  go_wp2_with (first | (go_at_call 21; refine (isFinite64_good _ H.out _).mono ?_; rintro e w' ⟨rfl, n, rfl⟩) | (go_at_call 22; refine (Abs_calls _ _).mono ?_; rintro e w' ⟨rfl, n, rfl⟩) | (go_at_call 23; refine (fraction_calls _ HY.out _).mono ?_; rw [HP.out.hf]; rintro e w' ⟨rfl, n, rfl⟩))
  go_loop [4, 5] (fun g q => ∃ j : Nat, j ≤ J ∧ q = .int .i64 (j : Int) ∧ g = .float .f64 (phF f j)) (fun g q => J - (intOf q).toNat)
  case atStart => exact ⟨0, Nat.zero_le _, rfl, rfl⟩
  case round =>
    obtain ⟨j, hj, rfl, rfl⟩ := hrel
    have hJ4 := HP.out.JB
    by_cases hlt : j < J
    · have hg := HP.out.go j hlt
      have c1 := hg.1
      have c2 := hg.2
      clear hg
      go_wp2
      go_round
      case rel => exact ⟨j + 1, hlt, by go_num, rfl⟩
      case measure => simp [intOf]; omega
    · obtain rfl : j = J := by omega
      have hst := HP.out.stop
      rw [HP.out.e]
      rcases (show j = 0 ∨ j = 1 ∨ j = 2 ∨ j = 3 ∨ j = 4 by omega) with rfl | rfl | rfl | rfl | rfl
      all_goals
        go_wp2_with (first | (go_at_call 24; refine (at_sine _ (by assumption) _).mono ?_; (first | rw [HEC.out] | rw [HES.out]); rintro e w' ⟨rfl, n, rfl⟩) | (refine wpList_narrow rfl rfl (by kernel_rfl) Try.underlying24 (Hid.out (p := Fits _) (by assumption)) ?_; intro v3 n3 hv3))
        go_ret
        refine ⟨_, _, _, rfl, ?_, ?_, rfl⟩
        all_goals
          simp only [phRe, phIm, HP.out.enc, HP.out.ens]
          assumption
/-! ### The conversion of a complex64 to a complex128 -/
theorem run_ftf (w : World) (x : Nat) : ∃ v n, FEq .f64 v (fwide x) ∧ (Conv.floatToFloat .f32 x .f64).run Try.prog w = .ok (.float .f64 v) (w.drewN n) := by
  obtain ⟨v, n, hv, hr⟩ := run_wide (P := Try.prog) w 24 27 (by kernel_rfl) Try.underlying27 x
  refine ⟨v, n, hv, ?_⟩
  have e : (convert 24 27 (.float .f32 x)).run Try.prog w = (Conv.floatToFloat .f32 x .f64).run Try.prog w := by
    simp [convert, run_underlying Try.underlying24, run_underlying Try.underlying27]
  rw [← e]
  exact hr
end Go.Proofs.Ytmehbfcmmffhmaa.fnExactPhasorOf
