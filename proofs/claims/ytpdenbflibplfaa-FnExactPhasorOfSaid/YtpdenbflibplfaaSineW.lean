/-
  The sine of turns, by the reference, of a number of turns that is finite and less than 2 to the power of 52.
-/
import Derived.Test.YtpdenbflibplfaaExt
import Derived.Test.YtpdenbflibplfaaSine
namespace Go.Proofs.Ytpdenbflibplfaa.Num
open Go.RowKit Go.Proofs.Fl
set_option linter.unusedVariables false

/-- what the reference's first tests say of such a number -/
structure Small (x : Nat) : Prop where
  fin : nan .f64 (fop .sub .f64 x x) = false
  zero : (FloatKind.f64.format.order (fop .sub .f64 x x) 0 != some Ordering.eq) = false
  low : (FloatKind.f64.format.order x 4841369599423283200 == some Ordering.gt || FloatKind.f64.format.order x 4841369599423283200 == some Ordering.eq) = false
  high : (FloatKind.f64.format.order x 14064741636278059008 == some Ordering.lt || FloatKind.f64.format.order x 14064741636278059008 == some Ordering.eq) = false

theorem wrap_kD {j : Nat} (h : j < 8) : floatOfInt .f64 (wrap64 (2 * (8 - (j : Int)) * (2 * (8 - (j : Int)) + 1))) = kD j := by
  have : j = 0 ∨ j = 1 ∨ j = 2 ∨ j = 3 ∨ j = 4 ∨ j = 5 ∨ j = 6 ∨ j = 7 := by omega
  unfold kD
  congr 1
  rcases this with rfl | rfl | rfl | rfl | rfl | rfl | rfl | rfl <;> decide +kernel
set_option maxHeartbeats 3200000 in
theorem sineW_core (x f f1 f2 z u : Nat) (T G : Bool) (hs : Small x) (hx : F2 52 x) (hf : fracF x = f) (hu : F2 10 u) (hr : nan .f64 (fop .mul .f64 z (sineP u 8)) = false)
    (hT : (FloatKind.f64.format.order f 4602678819172646912 == some Ordering.gt || FloatKind.f64.format.order f 4602678819172646912 == some Ordering.eq) = T)
    (h1 : if T = true then ∀ w, (binOp .sub 26 (.float .f64 f) (.float .f64 4602678819172646912)).run Try.prog w = .ok (.float .f64 f1) w else f1 = f)
    (hG : (FloatKind.f64.format.order f1 4598175219545276416 == some Ordering.gt) = G)
    (h2 : if G = true then ∀ w, (binOp .sub 26 (.float .f64 4602678819172646912) (.float .f64 f1)).run Try.prog w = .ok (.float .f64 f2) w else f2 = f1)
    (hz : ∀ w, (binOp .mul 26 (.float .f64 f2) (.float .f64 4618760256179416344)).run Try.prog w = .ok (.float .f64 z) w)
    (hzz : ∀ w, (binOp .mul 26 (.float .f64 z) (.float .f64 z)).run Try.prog w = .ok (.float .f64 u) w) (w : World) :
    Calls Try.prog 87 #[.float .f64 x] w (Ret (.float .f64 (if T = true then fneg .f64 (fop .mul .f64 z (sineP u 8)) else fop .mul .f64 z (sineP u 8))) w) := by
  have s1 := fun w => run_fop_det (P := Try.prog) hs.fin 26 w
  have s2 := hs.zero
  have s3 := hs.low
  have s4 := hs.high
  have hcv := run_fint x hx
  have hlf := less_F2 hx
  have e1 := fun w => run_fop_det (P := Try.prog) hlf.nn 26 w
  have hna := nn_add hlf.lt (show rg D C1 < D.infRung by decide +kernel)
  have e2 := fun w => run_fop_det (P := Try.prog) hna 26 w
  have hend := fun w => run_fop_det (P := Try.prog) hr 26 w
  have HU := hid hu
  unfold fracF at hf
  clear hs hx hr hu hlf hna
  generalize fop .mul .f64 z (sineP u 8) = res at *
  generalize fop .sub .f64 x x = y0 at *
  generalize fop .sub .f64 x (floatOfInt .f64 (fint x)) = f0 at *
  generalize fop .add .f64 f0 C1 = g at *
  unfold C1 at e2
  change (if (FloatKind.f64.format.order f0 0 == some Ordering.lt) = true then g else f0) = f at hf
  cases ho : (FloatKind.f64.format.order f0 0 == some Ordering.lt) <;> cases T <;> cases G
  all_goals
    simp only [ho, if_true, Bool.false_eq_true, if_false] at h1 h2 hf ⊢
    first | subst h1 | skip
    first | subst h2 | skip
    subst hf
    go_enter Try.func87, Try.ntmps87
    go_wp2
    go_loop [7, 8] (fun p k => ∃ j : Nat, j ≤ 8 ∧ k = .int .i64 (8 - (j : Int)) ∧ p = .float .f64 (sineP u j)) (fun p k => (intOf k).toNat)
    case atStart => exact ⟨0, by omega, rfl, rfl⟩
    case round =>
      obtain ⟨j, hj, rfl, rfl⟩ := hrel
      by_cases hlt : j < 8
      · have hst := sineP_steps HU.out hlt
        have c5 := fun w => run_fop_det (P := Try.prog) hst.1 26 w
        have c6 := fun w => run_fop_det (P := Try.prog) hst.2.1 26 w
        have c7 := fun w => run_fop_det (P := Try.prog) (show nan .f64 (fop .sub .f64 C1 (fop .quo .f64 (fop .mul .f64 u (sineP u j)) (kD j))) = false from hst.2.2) 26 w
        rw [show fop .sub .f64 C1 (fop .quo .f64 (fop .mul .f64 u (sineP u j)) (kD j)) = sineP u (j + 1) from rfl] at c7
        have hw := wrap_kD hlt
        clear hst
        unfold C1 at c7
        generalize fop .quo .f64 (fop .mul .f64 u (sineP u j)) (kD j) = q at *
        generalize fop .mul .f64 u (sineP u j) = m at *
        go_wp2
        go_round
        case rel => exact ⟨j + 1, hlt, by rw [show (8 : Int) - ((j + 1 : Nat) : Int) = 8 - (j : Int) - 1 by omega], rfl⟩
        case measure => simp [intOf]; omega
      · obtain rfl : j = 8 := by omega
        go_wp2
        go_ret
        exact ⟨rfl, 0, rfl⟩
end Go.Proofs.Ytpdenbflibplfaa.Num
