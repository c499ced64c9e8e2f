/-
  The angle of a point, by both texts: the lesser number over the greater, three times the half of the angle, eight rounds of the polynomial.
-/
import Derived.Test.YtmehbfcmmffhmaaExt
import Derived.Test.YtmehbfcmmffhmaaAngN
import Derived.Test.YtmehbfcmmffhmaaSineAll
import Derived.Test.YtmehbfcmmffhmaaLogIn
import Derived.Test.YtmehbfcmmffhmaaFin
import Derived.Test.YtmehbfcmmffhmaaSub
import Derived.LoopTactic
namespace Go.Proofs.Ytmehbfcmmffhmaa.Num
open Go.RowKit Go.Proofs.Fl
set_option linter.unusedVariables false
set_option linter.unusedSimpArgs false
theorem sqrt_run (x r : Nat) (h : D.sqrt x = some r) (w : World) : (callFunc 37 #[.float .f64 x]).run Try.prog w = .ok (.value (.float .f64 r)) w := by
  rw [run_callFunc_extern (e := Extern.MathSqrt.sqrt) Try.func37 (by kernel_rfl) (by kernel_rfl) (by kernel_rfl) (by kernel_rfl)]
  obtain ⟨v, n, hv, hw⟩ : ∃ v n, v = r ∧ (Extern.MathSqrt.sqrt #[.float .f64 x]).run Try.prog w = .ok (.float .f64 v) (w.drewN n) ∧ n = 0 := by
    refine ⟨r, 0, rfl, ?_, rfl⟩
    have h' : FloatKind.f64.format.sqrt x = some r := h
    change Sem.run Try.prog (match FloatKind.f64.format.sqrt x with | some r => pure (Value.float .f64 r) | none => do pure (Value.float .f64 (← choose (.nanBits .f64 x x)))) w = _
    rw [h']
    rfl
  obtain ⟨hw, rfl⟩ := hw
  subst hv
  rw [hw]
  rfl
theorem Sqrt_det (x r : Nat) (h : D.sqrt x = some r) (w : World) : Calls Try.prog 33 #[.float .f64 x] w fun e w' => e = .returned (.float .f64 r) ∧ w' = w := by
  have hr := sqrt_run x r h
  clear h
  go_enter Try.func33, Try.ntmps33
  go_wp2
  go_ret
  exact ⟨rfl, rfl⟩
structure AStep (t A B R E S : Nat) : Prop where
  c1 : ∀ w, (binOp .mul 27 (.float .f64 t) (.float .f64 t)).run Try.prog w = .ok (.float .f64 A) w
  c2 : ∀ w, (binOp .add 27 (.float .f64 4607182418800017408) (.float .f64 A)).run Try.prog w = .ok (.float .f64 B) w
  c3 : D.sqrt B = some R
  c4 : ∀ w, (binOp .add 27 (.float .f64 4607182418800017408) (.float .f64 R)).run Try.prog w = .ok (.float .f64 E) w
  c5 : ∀ w, (binOp .quo 27 (.float .f64 t) (.float .f64 E)).run Try.prog w = .ok (.float .f64 S) w
theorem astep {n t : Nat} (h : F2 n t) (hn : n ≤ 100) : AStep t (angA t) (angB t) (froot (angB t)) (angD t) (angS t) := by
  have hs := ang_step h hn
  exact ⟨fun w => run_fop_det hs.a _ w, fun w => run_fop_det hs.b _ w, hs.r, fun w => run_fop_det hs.d _ w, fun w => run_fop_det hs.s.nn _ w⟩
structure PStep (u p k r m S k' : Nat) : Prop where
  c1 : ∀ w, (binOp .quo 27 (.float .f64 4607182418800017408) (.float .f64 k)).run Try.prog w = .ok (.float .f64 r) w
  c2 : ∀ w, (binOp .mul 27 (.float .f64 u) (.float .f64 p)).run Try.prog w = .ok (.float .f64 m) w
  c3 : ∀ w, (binOp .sub 27 (.float .f64 r) (.float .f64 m)).run Try.prog w = .ok (.float .f64 S) w
  c4 : ∀ w, (binOp .sub 27 (.float .f64 k) (.float .f64 4611686018427387904)).run Try.prog w = .ok (.float .f64 k') w
theorem pstep {u j : Nat} (hu : F2 8 u) (h : j < 8) : PStep u (angP u j) (ak j) (ar j) (fop .mul .f64 u (angP u j)) (angP u (j + 1)) (ak (j + 1)) := by
  have ht := atabs h
  have hs := angP_steps hu h
  refine ⟨fun w => run_fop_det ht.nR _ w, fun w => run_fop_det hs.1 _ w, fun w => run_fop_det hs.2 _ w, fun w => ?_⟩
  have := run_fop_det (P := Try.prog) (show nan .f64 (fop .sub .f64 (ak j) C2) = false by rw [ht.eK]; exact ht.nK) 27 w
  rw [ht.eK] at this
  exact this
structure AEnd (T X : Bool) (t3 u p M M8 e0 e1 e2 : Nat) : Prop where
  c0 : ∀ w, (binOp .mul 27 (.float .f64 t3) (.float .f64 t3)).run Try.prog w = .ok (.float .f64 u) w
  c1 : ∀ w, (binOp .mul 27 (.float .f64 t3) (.float .f64 p)).run Try.prog w = .ok (.float .f64 M) w
  c2 : ∀ w, (binOp .mul 27 (.float .f64 4620693217682128896) (.float .f64 M)).run Try.prog w = .ok (.float .f64 M8) w
  c3 : ∀ w, (binOp .quo 27 (.float .f64 M8) (.float .f64 4618760256179416344)).run Try.prog w = .ok (.float .f64 e0) w
  c4 : if T = true then ∀ w, (binOp .sub 27 (.float .f64 4598175219545276416) (.float .f64 e0)).run Try.prog w = .ok (.float .f64 e1) w else e1 = e0
  c5 : if X = true then ∀ w, (binOp .sub 27 (.float .f64 4602678819172646912) (.float .f64 e1)).run Try.prog w = .ok (.float .f64 e2) w else e2 = e1
theorem aend {t : Nat} (h : F2 1 t) (T X : Bool) : AEnd T X (angT t 3) (angA (angT t 3)) (angP (angA (angT t 3)) 8) (fop .mul .f64 (angT t 3) (angP (angA (angT t 3)) 8)) (fop .mul .f64 C8 (fop .mul .f64 (angT t 3) (angP (angA (angT t 3)) 8))) (ang0 t) (ang1 T (ang0 t)) (ang2 X (ang1 T (ang0 t))) := by
  refine ⟨fun w => run_fop_det (angU_F2 h).nn _ w, fun w => run_fop_det (angM_F2 h).nn _ w, fun w => run_fop_det (angM8_F2 h).nn _ w, fun w => run_fop_det (ang0_F2 h).nn _ w, ?_, ?_⟩
  · cases T
    · exact rfl
    · exact fun w => run_fop_det (angs1_F2 h).nn _ w
  · cases X
    · exact rfl
    · exact fun w => run_fop_det (angs2_F2 (ang1_F2 h T)).nn _ w
/-- all that a walk of the angle needs -/
structure AWalk (y x t u M M8 e0 e1 e2 : Nat) (X0 Y0 T X Y : Bool) : Prop where
  zero : (X0 && Y0) = false
  q : if T = true then ∀ w, (binOp .quo 27 (.float .f64 (rg Ieee.double x)) (.float .f64 (rg Ieee.double y))).run Try.prog w = .ok (.float .f64 t) w else ∀ w, (binOp .quo 27 (.float .f64 (rg Ieee.double y)) (.float .f64 (rg Ieee.double x))).run Try.prog w = .ok (.float .f64 t) w
  q2 : ∃ t', T = true → ∀ w, (binOp .quo 27 (.float .f64 (rg Ieee.double y)) (.float .f64 (rg Ieee.double x))).run Try.prog w = .ok (.float .f64 t') w
  hT : (FloatKind.f64.format.order (rg Ieee.double y) (rg Ieee.double x) == some Ordering.gt) = T
  step : ∀ j, j < 3 → ∃ A B R E, AStep (angT t j) A B R E (angT t (j + 1))
  poly : ∀ j, j < 8 → ∃ r m, PStep u (angP u j) (ak j) r m (angP u (j + 1)) (ak (j + 1))
  fin : AEnd T X (angT t 3) u (angP u 8) M M8 e0 e1 e2
set_option maxHeartbeats 6400000 in
theorem AngleTurns_core (y0 x0 y x : Nat) (t u M M8 e0 e1 e2 : Nat) (X0 Y0 T X Y : Bool) (gy : finB y0 = true) (gx : finB x0 = true) (wy : fwide y0 = y) (wx : fwide x0 = x) (ny : nan .f64 y = false) (nx : nan .f64 x = false)
    (h0 : (FloatKind.f32.format.order x0 0 == some Ordering.eq) = X0) (h0' : (FloatKind.f32.format.order y0 0 == some Ordering.eq) = Y0)
    (hX : (FloatKind.f32.format.order x0 0 == some Ordering.lt) = X) (hY : (FloatKind.f32.format.order y0 0 == some Ordering.lt) = Y) (hfit : Fits (ang3 Y e2))
    (ha : AWalk y x t u M M8 e0 e1 e2 X0 Y0 T X Y) (w : World) : Calls Try.prog 25 #[.float .f32 y0, .float .f32 x0] w (RetF .f32 (fnar (ang3 Y e2)) w) := by
  have GX := hid gx
  have GY := hid gy
  have WX := hid wx
  have WY := hid wy
  have NX := hid nx
  have NY := hid ny
  have HF := hid hfit
  clear gx gy wx wy nx ny hfit
  have HA := hid ha
  have hz := ha.zero
  have hq := ha.q
  obtain ⟨t', hq2⟩ := ha.q2
  have hT := ha.hT
  have d0 := ha.fin.c0
  have d1 := ha.fin.c1
  have d2 := ha.fin.c2
  have d3 := ha.fin.c3
  have d4 := ha.fin.c4
  have d5 := ha.fin.c5
  clear ha
  have hxy : X0 = false ∨ (X0 = true ∧ Y0 = false) := by
    cases X0
    · exact .inl rfl
    · exact .inr ⟨rfl, by simpa using hz⟩
  clear hz
  rcases hxy with rfl | ⟨rfl, rfl⟩ <;> cases T
  all_goals
    simp only [if_true, Bool.false_eq_true, if_false] at hq d4
    try have hq3 := hq2 rfl
    clear hq2
    first | subst d4 | skip
    generalize hay : rg Ieee.double y = a at *
    generalize hax : rg Ieee.double x = b at *
    go_enter Try.func25, Try.ntmps25
    go_wp2_with (first | (go_at_call 22; refine (Abs_calls _ _).mono ?_; (first | rw [hay] | rw [hax]); rintro e9 w9 ⟨rfl, n9, rfl⟩) | (go_at_call 19; refine (IsFinite_calls _ _).mono ?_; (first | rw [GX.out] | rw [GY.out]); rintro e9 w9 ⟨rfl, n9, rfl⟩) | (refine wpList_wide rfl rfl (by kernel_rfl) Try.underlying27 ?_; intro v9 q9 hv9; first | (rw [WX.out] at hv9; obtain rfl := hv9.eq NX.out; clear hv9) | (rw [WY.out] at hv9; obtain rfl := hv9.eq NY.out; clear hv9)) | (go_at_call 22; refine (Abs_calls _ _).mono ?_; rintro e9 w9 ⟨rfl, n9, rfl⟩))
    go_loop [7, 43] (fun s k => ∃ j : Nat, j ≤ 3 ∧ k = .int .i64 (j : Int) ∧ s = .float .f64 (angT t j)) (fun s k => 3 - (intOf k).toNat)
    case atStart => exact ⟨0, by omega, rfl, rfl⟩
    case round =>
      obtain ⟨j, hj, rfl, rfl⟩ := hrel
      by_cases hlt : j < 3
      · obtain ⟨A, B, R, E, hst⟩ := HA.out.step j hlt
        have c1 := hst.c1
        have c2 := hst.c2
        have HR := hid hst.c3
        have c4 := hst.c4
        have c5 := hst.c5
        clear hst
        go_wp2_with (go_at_call 33; refine (Sqrt_det _ _ HR.out _).mono ?_; rintro e9 w9 ⟨rfl, rfl⟩)
        go_round
        case rel => exact ⟨j + 1, hlt, by go_num, rfl⟩
        case measure => simp [intOf]; omega
      · obtain rfl : j = 3 := by omega
        skip
        go_wp2
        go_loop [9, 10] (fun p k => ∃ j : Nat, j ≤ 8 ∧ k = .float .f64 (ak j) ∧ p = .float .f64 (angP u j)) (fun p k => (fint (bitsOfV k)).toNat)
        case atStart => exact ⟨0, by omega, by rw [ak_start], rfl⟩
        case round =>
          clear hj hlt
          obtain ⟨j, hj, rfl, rfl⟩ := hrel
          by_cases hlt : j < 8
          · obtain ⟨r, m, hst⟩ := HA.out.poly j hlt
            have c1 := hst.c1
            have c2 := hst.c2
            have c3 := hst.c3
            have c4 := hst.c4
            clear hst
            have c0 := (atabs hlt).test
            have HM := hid (ak_measure hlt)
            go_wp2
            go_round
            case rel => exact ⟨j + 1, hlt, rfl, rfl⟩
            case measure => exact HM.out
          · obtain rfl : j = 8 := by omega
            have ce := ak_end
            cases X <;> cases Y
            all_goals
              simp only [if_true, Bool.false_eq_true, if_false] at d5
              first | subst d5 | skip
              unfold ang3 at HF
              simp only [if_true, Bool.false_eq_true, if_false] at HF
              go_wp2_with (refine wpList_narrow rfl rfl (by kernel_rfl) Try.underlying24 HF.out ?_; intro v3 n3 hv3)
              go_ret
              exact ⟨v3, _, rfl, hv3, rfl⟩
end Go.Proofs.Ytmehbfcmmffhmaa.Num
