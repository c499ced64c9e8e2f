/-
  The law on SineTurns: both texts take the sine of the number, made a float64, and narrow it.
-/
import Derived.Test.YtpdenbflibplfaaSineAll
import Derived.Test.YtpdenbflibplfaaSameFloat
import Derived.Test.YtpdenbflibplfaaFin
import Derived.Test.YtpdenbflibplfaaSub
namespace Go.Proofs.Ytpdenbflibplfaa.fnExactSineTurns
open Go.RowKit Go.Proofs.Fl Go.Proofs.Ytpdenbflibplfaa.Num
set_option linter.unusedVariables false
set_option linter.unusedSimpArgs false
theorem l01Sine_calls (x : Nat) (w : World) : Calls Try.prog 65 #[.float .f32 x] w (RetF .f32 (fnar (sineW (fwide x))) w) := by
  have HF := hid (sineW_fits (fwide x))
  go_enter Try.func65, Try.ntmps65
  go_wp2_with (refine wpList_wide rfl rfl (by kernel_rfl) Try.underlying26 ?_; intro v n hv)
  refine (l01SineWide_calls _ _).mono ?_
  rintro e w' ⟨v2, n2, rfl, hv2, rfl⟩
  have HV := hid (show FEq .f64 v2 (sineW (fwide x)) by rw [← sineW_congr ‹FEq .f64 _ (fwide x)›]; exact hv2)
  clear hv2
  go_wp2_with (go_at_call 85; refine (l01Narrow_calls _ (HF.out.congr HV.out) _).mono ?_; rintro e w' ⟨v3, n3, rfl, hv3, rfl⟩)
  go_ret
  exact ⟨v3, _, rfl, by rw [← fnar_congr HV.out]; exact hv3, rfl⟩
theorem spec_calls (x : Nat) (w : World) : Calls Try.prog 33 #[.float .f32 x] w (RetF .f32 (fnar (sineW (fwide x))) w) := by
  go_enter Try.func33, Try.ntmps33
  go_wp2_with (go_at_call 65; refine (l01Sine_calls _ _).mono ?_; rintro e w' ⟨v3, n3, rfl, hv3, rfl⟩)
  go_ret
  exact ⟨v3, _, rfl, hv3, rfl⟩
/-- what is not finite as a float32 is not finite as a float64, and the other way round -/
theorem wide_good (x : Nat) : nan .f64 (fop .sub .f64 (fwide x) (fwide x)) = !finB x := by
  rw [finB_told]
  by_cases h : rg Ieee.single x < 2139095040
  · rw [lt_good (F2.wide h).lt]
    simp [h]
  · rw [self_bad]
    · simp [h]
    · intro hc
      rcases Nat.lt_or_eq_of_le (Nat.le_of_not_lt h) with h1 | h1
      · have hn : nan .f32 x = true := by
          rw [nan_eq]
          change decide (Ieee.single.infRung < rg Ieee.single x) = true
          rw [inf32]
          simpa using h1
        have := nan_wide x
        rw [hn, nan_eq] at this
        simp only [decide_eq_true_eq] at this
        change D.infRung < rg D (fwide x) at this
        omega
      · have := wide_inf x h1.symm
        have h2 : rg D (fwide x) = D.infRung := by rw [show D.infRung = 9218868437227405312 from inf64]; exact this.2.2
        omega
theorem impl_calls (x : Nat) (w : World) : Calls Try.prog 34 #[.float .f32 x] w (RetF .f32 (fnar (sineW (fwide x))) w) := by
  have HF := hid (sineW_fits (fwide x))
  have hg := wide_good x
  cases hf : finB x
  · rw [hf] at hg
    have hsw : sineW (fwide x) = qn .f64 := by unfold sineW; rw [hg, Bool.not_false, if_pos rfl]
    rw [hsw] at HF ⊢
    have HQ := hid (fnar_congr nanW)
    have HN := hid (HF.out.congr nanW)
    have Hf := hid hf
    clear hf hg hsw HF
    go_enter Try.func34, Try.ntmps34
    go_wp2_with (first | (go_at_call 63; refine (IsFinite_calls _ _).mono ?_; rw [Hf.out]; rintro e w' ⟨rfl, n, rfl⟩) | (go_at_call 62; refine (NaN_calls _).mono ?_; rintro e w' ⟨rfl, n, rfl⟩) | (refine wpList_narrow rfl rfl (by kernel_rfl) Try.underlying22 HN.out ?_; intro v3 n3 hv3))
    go_ret
    exact ⟨v3, _, rfl, by rw [← HQ.out]; exact hv3, rfl⟩
  · rw [hf] at hg
    have hnn : nan .f64 (fwide x) = false := by
      rw [nan_wide]
      cases hn : nan .f32 x
      · rfl
      · rw [← nan_wide] at hn
        rw [fop_nan_left hn, nan_qn] at hg
        cases hg
    have hba := big_abs (rg_le_of hnn)
    have Hf := hid hf
    have Hnn := hid hnn
    cases hb : bigB (fwide x)
    · rw [hb] at hba
      have hsw : sineW (fwide x) = sineF (fracF (fwide x)) := by unfold sineW; rw [hg, hb]; simp only [Bool.not_true, Bool.false_eq_true, if_true, if_false]
      rw [hsw] at HF ⊢
      have HB := hid (F2_small hb)
      clear hf hg hsw hnn hb
      go_enter Try.func34, Try.ntmps34
      generalize hy : fwide x = y at *
      have HY := hid hy
      clear hy
      go_wp2_with (first | (go_at_call 63; refine (IsFinite_calls _ _).mono ?_; rw [Hf.out]; rintro e w' ⟨rfl, n, rfl⟩) | (refine wpList_wide rfl rfl (by kernel_rfl) Try.underlying26 ?_; intro v q hv; rw [HY.out] at hv; obtain rfl := hv.eq Hnn.out; clear hv) | (go_at_call 66; refine (Abs_calls _ _).mono ?_; rintro e w' ⟨rfl, n, rfl⟩) | (go_at_call 67; refine (sine_calls _ HB.out _).mono ?_; rintro e w' ⟨rfl, n, rfl⟩) | (refine wpList_narrow rfl rfl (by kernel_rfl) Try.underlying22 HF.out ?_; intro v3 n3 hv3))
      go_ret
      exact ⟨v3, _, rfl, hv3, rfl⟩
    · rw [hb] at hba
      have hsw : sineW (fwide x) = 0 := by unfold sineW; rw [hg, hb]; simp only [Bool.not_true, Bool.false_eq_true, if_true, if_false]
      rw [hsw] at HF ⊢
      have HZ := hid (show fnar 0 = 0 from nar_zero false)
      clear hf hg hsw hnn hb HF
      go_enter Try.func34, Try.ntmps34
      generalize hy : fwide x = y at *
      have HY := hid hy
      clear hy
      go_wp2_with (first | (go_at_call 63; refine (IsFinite_calls _ _).mono ?_; rw [Hf.out]; rintro e w' ⟨rfl, n, rfl⟩) | (refine wpList_wide rfl rfl (by kernel_rfl) Try.underlying26 ?_; intro v q hv; rw [HY.out] at hv; obtain rfl := hv.eq Hnn.out; clear hv) | (go_at_call 66; refine (Abs_calls _ _).mono ?_; rintro e w' ⟨rfl, n, rfl⟩))
      go_ret
      exact ⟨0, _, rfl, by rw [HZ.out]; exact FEq.refl _ _, rfl⟩
theorem walk (x : Nat) (hw : (Lit.float .f32 x).wf = true) (w : World) : Calls Try.prog 9 #[.float .f32 x] w fun e w' => e = .returned (.bool true) ∧ Below w.heap.size w w' := by
  clear hw
  go_enter Try.func9, Try.ntmps9
  go_wp2_with fail
  refine (spec_calls _ _).mono ?_
  rintro e w' ⟨v2, n2, rfl, hv2, rfl⟩
  have HV := hid hv2
  clear hv2
  go_wp2_with fail
  refine (impl_calls _ _).mono ?_
  rintro e w' ⟨v3, n3, rfl, hv3, rfl⟩
  have HF := hid (hv3.trans HV.out.symm)
  clear hv3
  go_wp2_with (first | (refine wpList_wide rfl rfl (by kernel_rfl) Try.underlying26 ?_; intro v q hv) | (go_at_call 18; refine (sameFloat_calls _ _ (wide_same HF.out (by assumption) (by assumption)) _).mono ?_; rintro e w' ⟨rfl, n5, rfl⟩))
  go_ret
  exact ⟨rfl, below_drewN (Below.refl _ _) _⟩
end Go.Proofs.Ytpdenbflibplfaa.fnExactSineTurns
