/-
  The law on PhasorOf.
-/
import Derived.Test.YtpdenbflibplfaaPhN
import Derived.Test.YtpdenbflibplfaaFrom
import Derived.Test.YtpdenbflibplfaaSameFloat
import Derived.Test.YtpdenbflibplfaaSub
namespace Go.Proofs.Ytpdenbflibplfaa.fnExactPhasorOf
open Go.RowKit Go.Proofs.Fl Go.Proofs.Ytpdenbflibplfaa.Num
set_option linter.unusedVariables false
set_option linter.unusedSimpArgs false
/-- returned a complex number, up to which NaNs -/
def RetC (re im : Nat) (w : World) (e : Ending) (w' : World) : Prop := ∃ a b n, e = .returned (.complex .f32 a b) ∧ FEq .f32 a re ∧ FEq .f32 b im ∧ w' = w.drewN n
def SL (y re im : Nat) : Prop := ∀ w, Calls Try.prog 75 #[.float .f64 y] w (RetC re im w)
def IL (y re im : Nat) : Prop := ∀ w, Calls Try.prog 43 #[.float .f64 y] w (RetC re im w)
theorem spec_of {y re im : Nat} (h : SL y re im) (w : World) : Calls Try.prog 42 #[.float .f64 y] w (RetC re im w) := by
  have H := hid h
  clear h
  go_enter Try.func42, Try.ntmps42
  go_wp2_with (go_at_call 75; refine (H.out _).mono ?_; rintro e w' ⟨a, b, n, rfl, ha, hb, rfl⟩)
  go_ret
  exact ⟨a, b, _, rfl, ha, hb, rfl⟩
theorem eq_bad {y v : Nat} (hv : FEq .f64 v (fop .sub .f64 y y)) (h : nan .f64 (fop .sub .f64 y y) = true) : (FloatKind.f64.format.order v 0 == some Ordering.eq) = false := by
  rw [order_nan_left (by rw [hv.nan_eq]; exact h)]
  rfl
theorem isFinite64_bad (y : Nat) (h : nan .f64 (fop .sub .f64 y y) = true) (w : World) : Calls Try.prog 76 #[.float .f64 y] w (Ret (.bool false) w) := by
  have H := hid h
  clear h
  go_enter Try.func76, Try.ntmps76
  go_wp2_with (refine wpList_fop rfl rfl rfl rfl ?_; intro v q hv; have ev := eq_bad hv H.out)
  go_ret
  exact ⟨rfl, _, rfl⟩
theorem zero_eq : (FloatKind.f64.format.order 0 0 == some Ordering.eq) = true := by decide +kernel
theorem isFinite64_good (y : Nat) (h : nan .f64 (fop .sub .f64 y y) = false) (w : World) : Calls Try.prog 76 #[.float .f64 y] w (Ret (.bool true) w) := by
  have s1 := fun w => run_fop_det (P := Try.prog) h 26 w
  rw [good_zero h] at s1
  have s2 := zero_eq
  clear h
  go_enter Try.func76, Try.ntmps76
  go_wp2
  go_ret
  exact ⟨rfl, 0, rfl⟩
theorem nanN : Fits 9221120237041090561 := .inl (by decide +kernel)
theorem nan3 : FEq .f32 2143289344 (qn .f32) := FEq.of_nan (by decide +kernel) (nan_qn _)
theorem nan4 : fnar 9221120237041090561 = qn .f32 := fnar_nan (by decide +kernel)
theorem sl_bad (y : Nat) (h : nan .f64 (fop .sub .f64 y y) = true) : SL y (qn .f32) (qn .f32) := by
  intro w
  have H := hid h
  clear h
  go_enter Try.func75, Try.ntmps75
  go_wp2_with (first | (refine wpList_fop rfl rfl rfl rfl ?_; intro v q hv; have ev := bad_neq hv H.out) | (go_at_call 51; refine (l01From_calls _ (by decide) (by decide) _).mono ?_; rintro e w' ⟨rfl, n, rfl⟩))
  go_ret
  exact ⟨_, _, _, rfl, nan3, nan3, rfl⟩
theorem il_bad (y : Nat) (h : nan .f64 (fop .sub .f64 y y) = true) : IL y (qn .f32) (qn .f32) := by
  intro w
  have H := hid h
  clear h
  go_enter Try.func43, Try.ntmps43
  go_wp2_with (first | (go_at_call 76; refine (isFinite64_bad _ H.out _).mono ?_; rintro e w' ⟨rfl, n, rfl⟩) | (go_at_call 62; refine (NaN_calls _).mono ?_; rintro e w' ⟨rfl, n, rfl⟩) | (refine wpList_narrow rfl rfl (by kernel_rfl) Try.underlying22 nanN ?_; intro v3 n3 hv3))
  go_ret
  exact ⟨v3, v3, _, rfl, by rw [← nan4]; exact hv3, by rw [← nan4]; exact hv3, rfl⟩
theorem sl_big (y : Nat) (h : nan .f64 (fop .sub .f64 y y) = false) (hb : bigB y = true) : SL y 1065353216 0 := by
  intro w
  have s1 := fun w => run_fop_det (P := Try.prog) h 26 w
  rw [good_zero h] at s1
  have s2 := zero_neq
  have ht := big_two (Nat.le_of_lt (good_lt h))
  rw [hb] at ht
  clear h hb
  cases h1 : (FloatKind.f64.format.order y 4841369599423283200 == some Ordering.gt || FloatKind.f64.format.order y 4841369599423283200 == some Ordering.eq)
  · rw [h1] at ht
    simp only [Bool.false_or] at ht
    go_enter Try.func75, Try.ntmps75
    go_wp2
    go_ret
    exact ⟨_, _, 0, rfl, FEq.refl _ _, FEq.refl _ _, rfl⟩
  · clear ht
    go_enter Try.func75, Try.ntmps75
    go_wp2
    go_ret
    exact ⟨_, _, 0, rfl, FEq.refl _ _, FEq.refl _ _, rfl⟩
theorem il_big (y : Nat) (h : nan .f64 (fop .sub .f64 y y) = false) (hb : bigB y = true) : IL y 1065353216 0 := by
  intro w
  have hba := big_abs (Nat.le_of_lt (good_lt h))
  rw [hb] at hba
  have H := hid h
  clear h hb
  go_enter Try.func43, Try.ntmps43
  go_wp2_with (first | (go_at_call 76; refine (isFinite64_good _ H.out _).mono ?_; rintro e w' ⟨rfl, n, rfl⟩) | (go_at_call 66; refine (Abs_calls _ _).mono ?_; rintro e w' ⟨rfl, n, rfl⟩))
  go_ret
  exact ⟨_, _, _, rfl, FEq.refl _ _, FEq.refl _ _, rfl⟩
/-- what a walk of the point needs -/
structure PW (y f J fJ z c s nc ns : Nat) : Prop where
  hf : fracF y = f
  JB : J ≤ 4
  go : ∀ i, i < J → (FloatKind.f64.format.order (phF f i) 4598175219545276416 == some Ordering.gt || FloatKind.f64.format.order (phF f i) 4598175219545276416 == some Ordering.eq) = true ∧ ∀ w, (binOp .sub 26 (.float .f64 (phF f i)) (.float .f64 4598175219545276416)).run Try.prog w = .ok (.float .f64 (phF f (i + 1))) w
  stop : (FloatKind.f64.format.order fJ 4598175219545276416 == some Ordering.gt || FloatKind.f64.format.order fJ 4598175219545276416 == some Ordering.eq) = false
  e : phF f J = fJ
  hz : ∀ w, (binOp .sub 26 (.float .f64 4598175219545276416) (.float .f64 fJ)).run Try.prog w = .ok (.float .f64 z) w
  f2 : F2 0 fJ
  z2 : F2 1 z
  ec : sineF (fracF z) = c
  es : sineF (fracF fJ) = s
  hc : ∀ w, (binOp .sub 26 (.float .f64 0) (.float .f64 c)).run Try.prog w = .ok (.float .f64 nc) w
  hs : ∀ w, (binOp .sub 26 (.float .f64 0) (.float .f64 s)).run Try.prog w = .ok (.float .f64 ns) w
  fc : Fits c
  fs : Fits s
  fnc : Fits nc
  fns : Fits ns
  enc : fop .sub .f64 0 c = nc
  ens : fop .sub .f64 0 s = ns
theorem pw_of {y : Nat} (h : F2 52 y) : ∃ f J fJ z c s nc ns, PW y f J fJ z c s nc ns := by
  obtain ⟨J, hJ, hgo, hst, hF⟩ := ph_end (frac_F2 h)
  exact ⟨fracF y, J, phF (fracF y) J, _, _, _, _, _, rfl, hJ, fun i hi => ⟨(hgo i hi).1, fun w => run_fop_det (hgo i hi).2 _ w⟩, hst, rfl, fun w => run_fop_det (phz_F2 hF).nn _ w, hF, phz_F2 hF, rfl, rfl,
    fun w => run_fop_det (neg_F2 (phC_F2 hF)).nn _ w, fun w => run_fop_det (neg_F2 (phS_F2 hF)).nn _ w, (phC_F2 hF).fits (by omega), (phS_F2 hF).fits (by omega), (neg_F2 (phC_F2 hF)).fits (by omega), (neg_F2 (phS_F2 hF)).fits (by omega), rfl, rfl⟩
theorem sineW_at {n x : Nat} (h : F2 n x) (hn : n ≤ 51) (w : World) : Calls Try.prog 87 #[.float .f64 x] w (Ret (.float .f64 (sineF (fracF x))) w) :=
  sineW_small x (lt_good h.lt) (small_big h hn) w
theorem at_sine (x : Nat) (h : Hid (F2 52 x)) (w : World) : Calls Try.prog 67 #[.float .f64 x] w (Ret (.float .f64 (sineF (fracF x))) w) := sine_calls x h.out w
theorem at_sineW (x : Nat) (h : Hid (F2 1 x)) (w : World) : Calls Try.prog 87 #[.float .f64 x] w (Ret (.float .f64 (sineF (fracF x))) w) := sineW_at h.out (by omega) w
theorem at_narrow (x : Nat) (h : Hid (Fits x)) (w : World) : Calls Try.prog 85 #[.float .f64 x] w (RetF .f32 (fnar x) w) := l01Narrow_calls x h.out w
set_option maxHeartbeats 3200000 in
theorem il_walk (y f J fJ z c s nc ns : Nat) (h : nan .f64 (fop .sub .f64 y y) = false) (hb : bigB y = false) (hp : PW y f J fJ z c s nc ns) : IL y (fnar (phRe J c s)) (fnar (phIm J c s)) := by
  intro w
  have hba := big_abs (Nat.le_of_lt (good_lt h))
  rw [hb] at hba
  have H := hid h
  have HY := hid (F2_small hb)
  have HP := hid hp
  have HZ : Hid (F2 52 z) := hid (hp.z2.mono (by omega) (by omega))
  have HG : Hid (F2 52 fJ) := hid (hp.f2.mono (by omega) (by omega))
  have HFC := hid hp.fc
  have HFS := hid hp.fs
  have HFNC := hid hp.fnc
  have HFNS := hid hp.fns
  have HEC := hid hp.ec
  have HES := hid hp.es
  have hz := hp.hz
  have hc := hp.hc
  have hs := hp.hs
  clear h hb hp
  go_enter Try.func43, Try.ntmps43
  go_wp2_with (first | (go_at_call 76; refine (isFinite64_good _ H.out _).mono ?_; rintro e w' ⟨rfl, n, rfl⟩) | (go_at_call 66; refine (Abs_calls _ _).mono ?_; rintro e w' ⟨rfl, n, rfl⟩) | (go_at_call 77; refine (fraction_calls _ HY.out _).mono ?_; rw [HP.out.hf]; rintro e w' ⟨rfl, n, rfl⟩))
  go_loop [4, 5] (fun g q => ∃ j : Nat, j ≤ J ∧ q = .int .i64 (j : Int) ∧ g = .float .f64 (phF f j)) (fun g q => J - (intOf q).toNat)
  case atStart => exact ⟨0, Nat.zero_le _, rfl, rfl⟩
  case round =>
    obtain ⟨j, hj, rfl, rfl⟩ := hrel
    have hJ4 := HP.out.JB
    by_cases hlt : j < J
    · have hg := HP.out.go j hlt
      have c1 := hg.1
      have c2 := hg.2
      clear hg
      go_wp2
      go_round
      case rel => exact ⟨j + 1, hlt, by go_num, rfl⟩
      case measure => simp [intOf]; omega
    · obtain rfl : j = J := by omega
      have hst := HP.out.stop
      rw [HP.out.e]
      rcases (show j = 0 ∨ j = 1 ∨ j = 2 ∨ j = 3 ∨ j = 4 by omega) with rfl | rfl | rfl | rfl | rfl
      all_goals
        go_wp2_with (first | (go_at_call 67; refine (at_sine _ (by assumption) _).mono ?_; (first | rw [HEC.out] | rw [HES.out]); rintro e w' ⟨rfl, n, rfl⟩) | (refine wpList_narrow rfl rfl (by kernel_rfl) Try.underlying22 (Hid.out (p := Fits _) (by assumption)) ?_; intro v3 n3 hv3))
        go_ret
        refine ⟨_, _, _, rfl, ?_, ?_, rfl⟩
        all_goals
          simp only [phRe, phIm, HP.out.enc, HP.out.ens]
          assumption
set_option maxHeartbeats 3200000 in
theorem sl_walk (y f J fJ z c s nc ns : Nat) (h : nan .f64 (fop .sub .f64 y y) = false) (hb : bigB y = false) (hp : PW y f J fJ z c s nc ns) : SL y (fnar (phRe J c s)) (fnar (phIm J c s)) := by
  intro w
  have s1 := fun w => run_fop_det (P := Try.prog) h 26 w
  rw [good_zero h] at s1
  have s2 := zero_neq
  have hab := small_of h hb _ _ rfl rfl
  have s3 := hab.1
  have s4 := hab.2
  have hx := F2_small hb
  have hcv := run_fint y hx
  have hlf := less_F2 hx
  have e1 := fun w => run_fop_det (P := Try.prog) hlf.nn 26 w
  have hna := nn_add hlf.lt (show rg D C1 < D.infRung by decide +kernel)
  have e2 := fun w => run_fop_det (P := Try.prog) hna 26 w
  have HP := hid hp
  have hf := hp.hf
  have HZ : Hid (F2 1 z) := hid hp.z2
  have HG : Hid (F2 1 fJ) := hid (hp.f2.mono (by omega) (by omega))
  have HFC := hid hp.fc
  have HFS := hid hp.fs
  have HFNC := hid hp.fnc
  have HFNS := hid hp.fns
  have HEC := hid hp.ec
  have HES := hid hp.es
  have hz := hp.hz
  have hc := hp.hc
  have hs := hp.hs
  unfold fracF at hf
  clear h hb hp hab hx hlf hna
  generalize fop .sub .f64 y (floatOfInt .f64 (fint y)) = f0 at *
  generalize fop .add .f64 f0 C1 = g at *
  unfold C1 at e2
  change (if (FloatKind.f64.format.order f0 0 == some Ordering.lt) = true then g else f0) = f at hf
  cases ho : (FloatKind.f64.format.order f0 0 == some Ordering.lt)
  all_goals
    simp only [ho, if_true, Bool.false_eq_true, if_false] at hf
    subst hf
    go_enter Try.func75, Try.ntmps75
    go_wp2
    go_loop [3, 4] (fun g q => ∃ j : Nat, j ≤ J ∧ q = .int .i64 (j : Int) ∧ g = .float .f64 (phF _ j)) (fun g q => J - (intOf q).toNat)
    case atStart => exact ⟨0, Nat.zero_le _, rfl, rfl⟩
    case round =>
      obtain ⟨j, hj, rfl, rfl⟩ := hrel
      have hJ4 := HP.out.JB
      by_cases hlt : j < J
      · have hg := HP.out.go j hlt
        have c1 := hg.1
        have c2 := hg.2
        clear hg
        go_wp2
        go_round
        case rel => exact ⟨j + 1, hlt, by go_num, rfl⟩
        case measure => simp [intOf]; omega
      · obtain rfl : j = J := by omega
        have hst := HP.out.stop
        rw [HP.out.e]
        rcases (show j = 0 ∨ j = 1 ∨ j = 2 ∨ j = 3 ∨ j = 4 by omega) with rfl | rfl | rfl | rfl | rfl
        all_goals
          go_wp2_with (first | (go_at_call 87; refine (at_sineW _ (by assumption) _).mono ?_; (first | rw [HEC.out] | rw [HES.out]); rintro e w' ⟨rfl, n, rfl⟩) | (go_at_call 85; refine (at_narrow _ (by assumption) _).mono ?_; rintro e w' ⟨v3, n3, rfl, hv3, rfl⟩))
          go_ret
          refine ⟨_, _, _, rfl, ?_, ?_, rfl⟩
          all_goals
            simp only [phRe, phIm, HP.out.enc, HP.out.ens]
            assumption
theorem both (y : Nat) : ∃ re im, SL y re im ∧ IL y re im := by
  cases h : nan .f64 (fop .sub .f64 y y) with
  | true => exact ⟨_, _, sl_bad y h, il_bad y h⟩
  | false =>
    cases hb : bigB y with
    | true => exact ⟨_, _, sl_big y h hb, il_big y h hb⟩
    | false =>
      obtain ⟨f, J, fJ, z, c, s, nc, ns, hp⟩ := pw_of (F2_small hb)
      exact ⟨_, _, sl_walk y f J fJ z c s nc ns h hb hp, il_walk y f J fJ z c s nc ns h hb hp⟩
/-! ### The conversion of a complex64 to a complex128 -/
theorem run_ftf (w : World) (x : Nat) : ∃ v n, FEq .f64 v (fwide x) ∧ (Conv.floatToFloat .f32 x .f64).run Try.prog w = .ok (.float .f64 v) (w.drewN n) := by
  obtain ⟨v, n, hv, hr⟩ := run_wide (P := Try.prog) w 22 26 (by kernel_rfl) Try.underlying26 x
  refine ⟨v, n, hv, ?_⟩
  have e : (convert 22 26 (.float .f32 x)).run Try.prog w = (Conv.floatToFloat .f32 x .f64).run Try.prog w := by
    simp [convert, run_underlying Try.underlying22, run_underlying Try.underlying26]
  rw [← e]
  exact hr
theorem run_wideC (w : World) (x y : Nat) : ∃ v u n, FEq .f64 v (fwide x) ∧ FEq .f64 u (fwide y) ∧ (convert 44 47 (.complex .f32 x y)).run Try.prog w = .ok (.complex .f64 v u) (w.drewN n) := by
  obtain ⟨v, n, hv, hr⟩ := run_ftf w x
  obtain ⟨u, m, hu, hr'⟩ := run_ftf (w.drewN n) y
  refine ⟨v, u, n + m, hv, hu, ?_⟩
  simp [convert, run_underlying Try.underlying44, run_underlying Try.underlying47, Conv.complexToComplex, hr, hr']
theorem wpList_wideC {ops : Array Oper} {Q : Exit → Act → World → Prop} {a : Act} {w : World} {rest : List Oper}
    {d : Option Tmp} {ty : TypeId} {o : Operand} {pos : String} {af : Array Edge} {g : Option (Nat × Bool)}
    (hw : Region.wanted ⟨d, .convert 44 47 o, ty, pos, af, g⟩ (yielded ops a.tmps) = true)
    {x y : Nat} (ho : a.eval o = .complex .f32 x y)
    (hK : ∀ v u n, FEq .f64 v (fwide x) → FEq .f64 u (fwide y) → wpList Try.prog ops Q rest (a.put d (.complex .f64 v u)) (w.drewN n)) :
    wpList Try.prog ops Q (⟨d, .convert 44 47 o, ty, pos, af, g⟩ :: rest) a w := by
  refine wpList_step fun K hK' => ?_
  rw [if_pos hw]
  obtain ⟨v, u, n, hv, hu, hrun⟩ := run_wideC w x y
  unfold Oper.wp
  simp [execOp, ho, hrun]
  exact hK' _ _ (hK v u n hv hu)
theorem sameComplex_calls (a b c d : Nat) (h : FEq .f64 a c) (h' : FEq .f64 b d) (w : World) : Calls Try.prog 44 #[.complex .f64 a b, .complex .f64 c d] w (Ret (.bool true) w) := by
  have H := hid h
  have H' := hid h'
  clear h h'
  go_enter Try.func44, Try.ntmps44
  go_wp2_with (go_at_call 18; refine (sameFloat_calls _ _ (by first | exact H.out | exact H'.out) _).mono ?_; rintro e w' ⟨rfl, n, rfl⟩)
  go_ret
  exact ⟨rfl, _, rfl⟩
theorem walk (y : Nat) (hw : (Lit.float .f64 y).wf = true) (w : World) : Calls Try.prog 14 #[.float .f64 y] w fun e w' => e = .returned (.bool true) ∧ Below w.heap.size w w' := by
  obtain ⟨re, im, hs, hi⟩ := both y
  clear hw
  have HS := hid (spec_of hs)
  have HI := hid hi
  clear hs hi
  go_enter Try.func14, Try.ntmps14
  go_wp2_with fail
  refine (HS.out _).mono ?_
  rintro e w' ⟨a, b, n2, rfl, ha, hb, rfl⟩
  have HA := hid ha
  have HB := hid hb
  clear ha hb
  go_wp2_with fail
  refine (HI.out _).mono ?_
  rintro e w' ⟨a', b', n3, rfl, ha', hb', rfl⟩
  have HA' := hid (ha'.trans HA.out.symm)
  have HB' := hid (hb'.trans HB.out.symm)
  clear ha' hb'
  go_wp2_with (first | (refine wpList_wideC rfl rfl ?_; intro v u q hv hu) | (go_at_call 44; refine (sameComplex_calls _ _ _ _ (wide_same HA'.out (by assumption) (by assumption)) (wide_same HB'.out (by assumption) (by assumption)) _).mono ?_; rintro e w' ⟨rfl, n5, rfl⟩))
  go_ret
  exact ⟨rfl, below_drewN (Below.refl _ _) _⟩
end Go.Proofs.Ytpdenbflibplfaa.fnExactPhasorOf
