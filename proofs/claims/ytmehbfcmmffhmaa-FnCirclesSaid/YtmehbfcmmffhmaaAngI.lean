/-
  The program's AngleTurns.
-/
import Derived.Test.YtmehbfcmmffhmaaAng
import Derived.Test.YtmehbfcmmffhmaaSameFloat
namespace Go.Proofs.Ytmehbfcmmffhmaa.fnExactAngleTurns
open Go.RowKit Go.Proofs.Fl Go.Proofs.Ytmehbfcmmffhmaa.Num
set_option linter.unusedVariables false
theorem wide_good (x : Nat) : nan .f64 (fop .sub .f64 (fwide x) (fwide x)) = !finB x := by
  rw [finB_told]
  by_cases h : rg Ieee.single x < 2139095040
  · rw [lt_good (F2.wide h).lt]
    simp [h]
  · rw [self_bad]
    · simp [h]
    · intro hc
      rcases Nat.lt_or_eq_of_le (Nat.le_of_not_lt h) with h1 | h1
      · have hn : nan .f32 x = true := by
          rw [nan_eq]
          change decide (Ieee.single.infRung < rg Ieee.single x) = true
          rw [inf32]
          simpa using h1
        have := nan_wide x
        rw [hn, nan_eq] at this
        simp only [decide_eq_true_eq] at this
        change D.infRung < rg D (fwide x) at this
        omega
      · have := wide_inf x h1.symm
        have h2 : rg D (fwide x) = D.infRung := by rw [show D.infRung = 9218868437227405312 from inf64]; exact this.2.2
        omega
theorem sv_wide {x : Nat} (h : rg Ieee.single x < 2139095040) : sv D (fwide x) = sv Ieee.single x * (w925 : Nat) := by
  have hw := wide_fin x h
  unfold sv
  rw [hw.2.1, hw.2.2.2]
  cases sg Ieee.single x
  · simp
  · simp [Int.neg_mul]
theorem sv_wide_lt {x : Nat} (h : rg Ieee.single x < 2139095040) : sv D (fwide x) < 0 ↔ sv Ieee.single x < 0 := by
  rw [sv_wide h]
  have hp : (0 : Int) < (w925 : Nat) := by have := w925_pos; omega
  constructor
  · intro h1
    refine Int.not_le.1 fun h2 => ?_
    have := Int.mul_nonneg h2 (Int.le_of_lt hp)
    omega
  · intro h1
    exact Int.mul_neg_of_neg_of_pos h1 hp
theorem sv_wide_eq {x : Nat} (h : rg Ieee.single x < 2139095040) : sv D (fwide x) = 0 ↔ sv Ieee.single x = 0 := by
  rw [sv_wide h, Int.mul_eq_zero]
  have := w925_pos
  constructor
  · rintro (h1 | h1)
    · exact h1
    · omega
  · exact .inl
theorem fin_le {x : Nat} (h : rg Ieee.single x < 2139095040) : rg D (fwide x) ≤ D.infRung := Nat.le_of_lt (F2.wide h).lt
theorem lt64 {x : Nat} (h : rg Ieee.single x < 2139095040) : (FloatKind.f64.format.order (fwide x) 0 == some Ordering.lt) = (FloatKind.f32.format.order x 0 == some Ordering.lt) := by
  rw [lt32 x h, lss_sv (f := .f64) (x := fwide x) (c := 0) (fin_le h) rg0_64]
  rw [show sv FloatKind.f64.format 0 = 0 from sv64_zero, Bool.eq_iff_iff]
  simp only [decide_eq_true_eq]
  exact sv_wide_lt h
theorem eq64 {x : Nat} (h : rg Ieee.single x < 2139095040) : (FloatKind.f64.format.order (fwide x) 0 == some Ordering.eq) = (FloatKind.f32.format.order x 0 == some Ordering.eq) := by
  have := neq_sv (f := .f64) (x := fwide x) (c := 0) (fin_le h) rg0_64
  rw [show sv FloatKind.f64.format 0 = 0 from sv64_zero] at this
  rw [eq32 x h]
  have e : decide (sv FloatKind.f64.format (fwide x) ≠ 0) = !decide (sv Ieee.single x = 0) := by
    have := sv_wide_eq h
    rw [← decide_not]
    exact decide_eq_decide.2 (not_congr this)
  rw [e] at this
  unfold bne at this
  cases h1 : (FloatKind.f64.format.order (fwide x) 0 == some Ordering.eq) <;> rw [h1] at this <;> cases h2 : decide (sv Ieee.single x = 0) <;> rw [h2] at this <;> simp_all
def IL (y x r : Nat) : Prop := ∀ w, Calls Try.prog 25 #[.float .f32 y, .float .f32 x] w (RetF .f32 r w)
theorem nanN : Fits 9221120237041090561 := fits_qn.congr nanW
theorem il_bad1 (y x : Nat) (h : finB x = false) : IL y x (fnar (qn .f64)) := by
  intro w
  have H := hid h
  clear h
  go_enter Try.func25, Try.ntmps25
  go_wp2_with (first | (go_at_call 19; refine (IsFinite_calls _ _).mono ?_; rw [H.out]; rintro e w' ⟨rfl, n, rfl⟩) | (go_at_call 18; refine (NaN_calls _).mono ?_; rintro e w' ⟨rfl, n, rfl⟩) | (refine wpList_narrow rfl rfl (by kernel_rfl) Try.underlying24 nanN ?_; intro v3 n3 hv3))
  go_ret
  exact ⟨v3, _, rfl, by rw [← fnar_congr nanW]; exact hv3, rfl⟩
theorem il_bad2 (y x : Nat) (h : finB x = true) (h' : finB y = false) : IL y x (fnar (qn .f64)) := by
  intro w
  have H := hid h
  have H' := hid h'
  clear h h'
  go_enter Try.func25, Try.ntmps25
  go_wp2_with (first | (go_at_call 19; refine (IsFinite_calls _ _).mono ?_; (first | rw [H.out] | rw [H'.out]); rintro e w' ⟨rfl, n, rfl⟩) | (go_at_call 18; refine (NaN_calls _).mono ?_; rintro e w' ⟨rfl, n, rfl⟩) | (refine wpList_narrow rfl rfl (by kernel_rfl) Try.underlying24 nanN ?_; intro v3 n3 hv3))
  go_ret
  exact ⟨v3, _, rfl, by rw [← fnar_congr nanW]; exact hv3, rfl⟩
theorem il_zero (y x : Nat) (h : finB x = true) (h' : finB y = true) (h0 : (FloatKind.f32.format.order x 0 == some Ordering.eq) = true) (h0' : (FloatKind.f32.format.order y 0 == some Ordering.eq) = true) : IL y x 0 := by
  intro w
  have H := hid h
  have H' := hid h'
  clear h h'
  go_enter Try.func25, Try.ntmps25
  go_wp2_with (go_at_call 19; refine (IsFinite_calls _ _).mono ?_; (first | rw [H.out] | rw [H'.out]); rintro e w' ⟨rfl, n, rfl⟩)
  go_ret
  exact ⟨_, _, rfl, FEq.refl _ _, rfl⟩
theorem awalk {y x : Nat} (hy : rg D y < D.infRung) (hx : rg D x < D.infRung) (h0 : rg D y ≠ 0 ∨ rg D x ≠ 0) (X0 Y0 X Y : Bool) (hz : (X0 && Y0) = false) :
    ∃ t u M M8 e0 e1 e2, AWalk y x t u M M8 e0 e1 e2 X0 Y0 (decide (rg D x < rg D y)) X Y ∧ Fits (ang3 Y e2) := by
  have ht := angQ_F2 hy hx h0
  refine ⟨angQ (rg D y) (rg D x), _, _, _, _, _, _, ⟨hz, ?_, ?_, ?_, ?_, ?_, aend ht _ X⟩, (ang3_F2 (ang2_F2 (ang1_F2 ht _) X) Y).fits (by omega)⟩
  · by_cases hlt : rg D x < rg D y
    · rw [decide_eq_true hlt, if_pos rfl]
      have e : angQ (rg D y) (rg D x) = fop .quo .f64 (rg D x) (rg D y) := by unfold angQ; rw [if_pos hlt]
      intro w
      rw [e]
      exact run_fop_det (by rw [← e]; exact ht.nn) _ w
    · rw [decide_eq_false hlt, if_neg (by decide)]
      have e : angQ (rg D y) (rg D x) = fop .quo .f64 (rg D y) (rg D x) := by unfold angQ; rw [if_neg hlt]
      intro w
      rw [e]
      exact run_fop_det (by rw [← e]; exact ht.nn) _ w
  · refine ⟨fop .quo .f64 (rg D y) (rg D x), fun h w => run_fop_det (quo_nn ?_ ?_ ?_) _ w⟩
    · rw [rg_rg]; exact hy
    · rw [rg_rg]; exact hx
    · rw [rg_rg]
      have := of_decide_eq_true h
      omega
  · exact gtr_word hy hx
  · exact fun j hj => ⟨_, _, _, _, astep (angT_F2 ht j (by omega)) (by omega)⟩
  · exact fun j hj => ⟨_, _, pstep (angU_F2 ht) hj⟩
theorem run_self {y : Nat} (hy : rg D y < D.infRung) (w : World) : (binOp .sub 27 (.float .f64 y) (.float .f64 y)).run Try.prog w = .ok (.float .f64 0) w := by
  have := run_fop_det (P := Try.prog) (lt_good hy) 27 w
  rw [self_zero .f64 y hy] at this
  exact this
theorem rg_of_sv {y : Nat} (h : sv D y ≠ 0) : rg D y ≠ 0 := by
  intro h0
  apply h
  unfold sv
  rw [h0, Mg_zero]
  simp
theorem il_any (y x : Nat) (hb : ∀ z, fnar z < 4294967296) : ∃ r, r < 4294967296 ∧ IL y x r := by
  cases hx : finB x with
  | false => exact ⟨_, hb _, il_bad1 y x hx⟩
  | true =>
    cases hy : finB y with
    | false => exact ⟨_, hb _, il_bad2 y x hx hy⟩
    | true =>
      have fx : rg Ieee.single x < 2139095040 := by rw [finB_told] at hx; exact of_decide_eq_true hx
      have fy : rg Ieee.single y < 2139095040 := by rw [finB_told] at hy; exact of_decide_eq_true hy
      have nx : nan .f64 (fwide x) = false := by rw [nan_wide]; exact nn_fin fx
      have ny : nan .f64 (fwide y) = false := by rw [nan_wide]; exact nn_fin fy
      have lx := (F2.wide fx).lt
      have ly := (F2.wide fy).lt
      cases hz : ((FloatKind.f32.format.order x 0 == some Ordering.eq) && (FloatKind.f32.format.order y 0 == some Ordering.eq)) with
      | true =>
        rw [Bool.and_eq_true] at hz
        exact ⟨0, by decide, il_zero y x hx hy hz.1 hz.2⟩
      | false =>
        have h0 : rg D (fwide y) ≠ 0 ∨ rg D (fwide x) ≠ 0 := by
          rw [eq32 x fx, eq32 y fy, Bool.and_eq_false_iff] at hz
          rcases hz with h | h
          · exact .inr (rg_of_sv (fun h1 => of_decide_eq_false h ((sv_wide_eq fx).1 h1)))
          · exact .inl (rg_of_sv (fun h1 => of_decide_eq_false h ((sv_wide_eq fy).1 h1)))
        obtain ⟨t, u, M, M8, e0, e1, e2, hw, hf⟩ := awalk ly lx h0 _ _ (FloatKind.f32.format.order x 0 == some Ordering.lt) (FloatKind.f32.format.order y 0 == some Ordering.lt) hz
        exact ⟨_, hb _, AngleTurns_core y x _ _ t u M M8 e0 e1 e2 _ _ _ _ _ hy hx rfl rfl ny nx rfl rfl rfl rfl hf hw⟩
end Go.Proofs.Ytmehbfcmmffhmaa.fnExactAngleTurns
