/-
  The sine of turns, by the program: the fraction, the two foldings, eight rounds of the polynomial.
-/
import Derived.Test.YtmehbfcmmffhmaaExt
import Derived.Test.YtmehbfcmmffhmaaTrig
import Derived.LoopTactic
namespace Go.Proofs.Ytmehbfcmmffhmaa.Num
open Go.RowKit Go.Proofs.Fl
set_option linter.unusedVariables false

theorem run_fint (x : Nat) (h : F2 52 x) (w : World) : (convert 27 2 (.float .f64 x)).run Try.prog w = .ok (.int .i64 (fint x)) w :=
  run_convert_float_int w _ _ .f64 .i64 x _ (by kernel_rfl) Try.underlying2 (fint_some h.b (by omega) h.nn).1
@[go_sem] theorem neg_float (k : FloatKind) (x : Nat) : Op.unary .neg (.float k x) = pure (.float k (fneg k x)) := rfl

theorem fraction_calls (x : Nat) (h : F2 52 x) (w : World) : Calls Try.prog 23 #[.float .f64 x] w (Ret (.float .f64 (fracF x)) w) := by
  have hcv := run_fint x h
  have hf := less_F2 h
  have e1 := fun w => run_fop_det (P := Try.prog) hf.nn 27 w
  have Hd := hid (show fracF x = if (D.order (fop .sub .f64 x (floatOfInt .f64 (fint x))) 0 == some Ordering.lt) = true then fop .add .f64 (fop .sub .f64 x (floatOfInt .f64 (fint x))) C1 else fop .sub .f64 x (floatOfInt .f64 (fint x)) from rfl)
  have hn := nn_add hf.lt (show rg D C1 < D.infRung by decide +kernel)
  have e2 := fun w => run_fop_det (P := Try.prog) hn 27 w
  clear hf hn
  generalize fop .sub .f64 x (floatOfInt .f64 (fint x)) = f at *
  generalize hg : fop .add .f64 f C1 = g at *
  clear hg
  unfold C1 at e2
  cases ho : (FloatKind.f64.format.order f 0 == some Ordering.lt)
  all_goals
    have Ho := hid (show (D.order f 0 == some Ordering.lt) = _ from ho)
    go_enter Try.func23, Try.ntmps23
    go_wp2
    go_ret
    exact ⟨ret_float (by rw [Hd.out, Ho.out]; rfl), 0, rfl⟩

set_option maxHeartbeats 1600000 in
theorem sine_core (x f f1 f2 z u : Nat) (T G : Bool) (hx : F2 52 x) (hf : fracF x = f) (hu : F2 10 u) (hr : nan .f64 (fop .mul .f64 z (sineP u 8)) = false)
    (hT : (FloatKind.f64.format.order f 4602678819172646912 == some Ordering.gt || FloatKind.f64.format.order f 4602678819172646912 == some Ordering.eq) = T)
    (h1 : if T = true then ∀ w, (binOp .sub 27 (.float .f64 f) (.float .f64 4602678819172646912)).run Try.prog w = .ok (.float .f64 f1) w else f1 = f)
    (hG : (FloatKind.f64.format.order f1 4598175219545276416 == some Ordering.gt) = G)
    (h2 : if G = true then ∀ w, (binOp .sub 27 (.float .f64 4602678819172646912) (.float .f64 f1)).run Try.prog w = .ok (.float .f64 f2) w else f2 = f1)
    (hz : ∀ w, (binOp .mul 27 (.float .f64 f2) (.float .f64 4618760256179416344)).run Try.prog w = .ok (.float .f64 z) w)
    (hzz : ∀ w, (binOp .mul 27 (.float .f64 z) (.float .f64 z)).run Try.prog w = .ok (.float .f64 u) w) (w : World) :
    Calls Try.prog 24 #[.float .f64 x] w (Ret (.float .f64 (if T = true then fneg .f64 (fop .mul .f64 z (sineP u 8)) else fop .mul .f64 z (sineP u 8))) w) := by
  have HF := hid hf
  have HX := hid hx
  have hend := fun w => run_fop_det (P := Try.prog) hr 27 w
  have HU := hid hu
  have hke := kf_end
  have HKS := hid kf_start
  clear hf hx hr hu
  generalize hres : fop .mul .f64 z (sineP u 8) = res at *
  clear hres
  cases T <;> cases G
  all_goals
    simp only [if_true, Bool.false_eq_true, if_false] at h1 h2 ⊢
    first | subst h1 | skip
    first | subst h2 | skip
    go_enter Try.func24, Try.ntmps24
    go_wp2_with (go_at_call 23; refine (fraction_calls _ HX.out _).mono ?_; rw [HF.out]; rintro e w' ⟨rfl, n0, rfl⟩)
    go_loop [7, 8] (fun p k => ∃ j : Nat, j ≤ 8 ∧ k = .float .f64 (kf j) ∧ p = .float .f64 (sineP u j)) (fun p k => (fint (bitsOfV k)).toNat)
    case atStart => exact ⟨0, by omega, by rw [HKS.out], rfl⟩
    case round =>
      obtain ⟨j, hj, rfl, rfl⟩ := hrel
      by_cases hlt : j < 8
      · have ht := ktabs hlt
        have hst := sineP_steps HU.out hlt
        have c1 := ht.test
        have c2 := fun w => run_fop_det (P := Try.prog) (show nan .f64 (fop .mul .f64 C2 (kf j)) = false from ht.nA) 27 w
        have c3 := fun w => run_fop_det (P := Try.prog) (show nan .f64 (fop .add .f64 (kA j) C1) = false from ht.nB) 27 w
        have c4 := fun w => run_fop_det (P := Try.prog) (show nan .f64 (fop .mul .f64 (kA j) (kB j)) = false by rw [ht.eD]; exact ht.nD) 27 w
        have c5 := fun w => run_fop_det (P := Try.prog) hst.1 27 w
        have c6 := fun w => run_fop_det (P := Try.prog) hst.2.1 27 w
        have c7 := fun w => run_fop_det (P := Try.prog) (show nan .f64 (fop .sub .f64 C1 (fop .quo .f64 (fop .mul .f64 u (sineP u j)) (kD j))) = false from hst.2.2) 27 w
        have c8 := fun w => run_fop_det (P := Try.prog) (show nan .f64 (fop .sub .f64 (kf j) C1) = false by rw [ht.eK]; exact ht.nK) 27 w
        rw [show fop .mul .f64 C2 (kf j) = kA j from rfl] at c2
        rw [show fop .add .f64 (kA j) C1 = kB j from rfl] at c3
        rw [ht.eD] at c4
        rw [show fop .sub .f64 C1 (fop .quo .f64 (fop .mul .f64 u (sineP u j)) (kD j)) = sineP u (j + 1) from rfl] at c7
        rw [ht.eK] at c8
        have HM := hid (kf_measure hlt)
        clear ht hst
        unfold C1 at c3 c7 c8
        unfold C2 at c2
        generalize fop .quo .f64 (fop .mul .f64 u (sineP u j)) (kD j) = q at *
        generalize fop .mul .f64 u (sineP u j) = m at *
        go_wp2
        go_round
        case rel => exact ⟨j + 1, hlt, rfl, rfl⟩
        case measure => exact HM.out
      · obtain rfl : j = 8 := by omega
        go_wp2
        go_ret
        exact ⟨rfl, _, rfl⟩
theorem sine_calls (x : Nat) (h : F2 52 x) (w : World) : Calls Try.prog 24 #[.float .f64 x] w (Ret (.float .f64 (sineF (fracF x))) w) := by
  obtain ⟨f1, f2, z, u, T, G, hp⟩ := sine_parts (frac_F2 h)
  rw [hp.res]
  refine sine_core x (fracF x) f1 f2 z u T G h rfl hp.fu hp.nr hp.hT ?_ hp.hG ?_ ?_ ?_ w
  · have e := hp.h1
    cases T
    · simpa using e
    · simp only [if_true] at e ⊢
      intro w
      rw [e]
      exact run_fop_det hp.n1 _ w
  · have e := hp.h2
    cases G
    · simpa using e
    · simp only [if_true] at e ⊢
      intro w
      rw [e]
      exact run_fop_det hp.n2 _ w
  · intro w
    rw [hp.hz]
    exact run_fop_det hp.nz _ w
  · intro w
    rw [hp.hu]
    exact run_fop_det hp.nu _ w
end Go.Proofs.Ytmehbfcmmffhmaa.Num
