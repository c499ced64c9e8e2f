/-
  The law on TenthsOf: of a finite number greater than 0, both texts take the same logarithm, the same product, sum and floor.
-/
import Derived.Test.YtpdenbflibplfaaSineAll
import Derived.Test.YtpdenbflibplfaaLog
import Derived.Test.YtpdenbflibplfaaLogIn
import Derived.Test.YtpdenbflibplfaaFloor
import Derived.Test.YtpdenbflibplfaaFin
namespace Go.Proofs.Ytpdenbflibplfaa.fnExactTenthsOf
open Go.RowKit Go.Proofs.Fl Go.Proofs.Ytpdenbflibplfaa.Num
set_option linter.unusedVariables false
def C43 : Nat := 4631308968768463603
theorem F2_C43 : F2 6 C43 := ⟨by omega, by decide +kernel⟩
def t1 (y : Nat) : Nat := fop .mul .f64 (logF y) C43
def t2 (y : Nat) : Nat := fop .add .f64 (t1 y) C05
theorem t1_F2 {y : Nat} (h : LogIn y) : F2 48 (t1 y) := (logF_F2 h).mul F2_C43 48 (by omega) (by omega)
theorem t2_F2 {y : Nat} (h : LogIn y) : F2 49 (t2 y) := (t1_F2 h).add F2_C05 49 (by omega) (by omega) (by omega)
theorem t3_F2 {y : Nat} (h : LogIn y) : F2 52 (ffloor (t2 y)) := (floor_F2 (t2_F2 h) (by omega)).mono (by omega) (by omega)
def tenI (y : Nat) : Int := fint (ffloor (t2 y))
structure TP (y g a b c : Nat) (r : Int) : Prop where
  a1 : ∀ w, (binOp .mul 26 (.float .f64 g) (.float .f64 4631308968768463603)).run Try.prog w = .ok (.float .f64 a) w
  a2 : ∀ w, (binOp .add 26 (.float .f64 a) (.float .f64 4602678819172646912)).run Try.prog w = .ok (.float .f64 b) w
  nb : nan .f64 b = false
  ec : ffloor b = c
  a3 : ∀ w, (convert 26 2 (.float .f64 c)).run Try.prog w = .ok (.int .i64 r) w
  gl : logF y = g
  ly : LogIn y
theorem tp {y : Nat} (h : LogIn y) : TP y (logF y) (t1 y) (t2 y) (ffloor (t2 y)) (tenI y) :=
  ⟨fun w => run_fop_det (t1_F2 h).nn _ w, fun w => run_fop_det (t2_F2 h).nn _ w, (t2_F2 h).nn, rfl, fun w => run_fint _ (t3_F2 h) w, rfl, h⟩
theorem tenths_core (x y g a b c : Nat) (r : Int) (hy : fwide x = y) (hn : nan .f64 y = false) (hp : TP y g a b c r) (w : World) : Calls Try.prog 72 #[.float .f32 x] w (Ret (.int .i64 r) w) := by
  have HY := hid hy
  have Hnn := hid hn
  have HP := hid hp
  have a1 := hp.a1
  have a2 := hp.a2
  have a3 := hp.a3
  clear hy hn hp
  go_enter Try.func72, Try.ntmps72
  go_wp2_with (first | (refine wpList_wide rfl rfl (by kernel_rfl) Try.underlying26 ?_; intro v q hv; rw [HY.out] at hv; obtain rfl := hv.eq Hnn.out; clear hv) | (go_at_call 89; refine (l01LogWide_calls _ HP.out.ly _).mono ?_; rw [HP.out.gl]; rintro e w' ⟨rfl, n, rfl⟩) | (go_at_call 73; refine (Floor_calls _ HP.out.nb _).mono ?_; rw [HP.out.ec]; rintro e w' ⟨rfl, n, rfl⟩))
  go_ret
  exact ⟨rfl, _, rfl⟩
def SL (x : Nat) (r : Int) (b : Bool) : Prop := ∀ w, Calls Try.prog 38 #[.float .f32 x] w (Ret (.tuple #[.int .i64 r, .bool b]) w)
def IL (x : Nat) (r : Int) (b : Bool) : Prop := ∀ w, Calls Try.prog 39 #[.float .f32 x] w (Ret (.tuple #[.int .i64 r, .bool b]) w)
theorem sl_bad (x : Nat) (h : finB x = false) : SL x 0 false := by
  intro w
  have H := hid h
  clear h
  go_enter Try.func38, Try.ntmps38
  go_wp2_with (go_at_call 71; refine (l01Finite_calls _ _).mono ?_; rw [H.out]; rintro e w' ⟨rfl, n, rfl⟩)
  go_ret2
  exact ⟨rfl, _, rfl⟩
theorem il_bad (x : Nat) (h : finB x = false) : IL x 0 false := by
  intro w
  have H := hid h
  clear h
  go_enter Try.func39, Try.ntmps39
  go_wp2_with (go_at_call 63; refine (IsFinite_calls _ _).mono ?_; rw [H.out]; rintro e w' ⟨rfl, n, rfl⟩)
  go_ret2
  exact ⟨rfl, _, rfl⟩
theorem sl_low (x : Nat) (h : finB x = true) (h2 : (FloatKind.f32.format.order x 0 == some Ordering.lt || FloatKind.f32.format.order x 0 == some Ordering.eq) = true) : SL x 0 false := by
  intro w
  have H := hid h
  clear h
  go_enter Try.func38, Try.ntmps38
  go_wp2_with (go_at_call 71; refine (l01Finite_calls _ _).mono ?_; rw [H.out]; rintro e w' ⟨rfl, n, rfl⟩)
  go_ret2
  exact ⟨rfl, _, rfl⟩
theorem il_low (x : Nat) (h : finB x = true) (h2 : (FloatKind.f32.format.order x 0 == some Ordering.lt || FloatKind.f32.format.order x 0 == some Ordering.eq) = true) : IL x 0 false := by
  intro w
  have H := hid h
  clear h
  go_enter Try.func39, Try.ntmps39
  go_wp2_with (go_at_call 63; refine (IsFinite_calls _ _).mono ?_; rw [H.out]; rintro e w' ⟨rfl, n, rfl⟩)
  go_ret2
  exact ⟨rfl, _, rfl⟩
theorem sl_log (x y g a b c : Nat) (r : Int) (h : finB x = true) (h2 : (FloatKind.f32.format.order x 0 == some Ordering.lt || FloatKind.f32.format.order x 0 == some Ordering.eq) = false) (hy : fwide x = y) (hn : nan .f64 y = false) (hp : TP y g a b c r) : SL x r true := by
  intro w
  have H := hid h
  have HT := hid (tenths_core x y g a b c r hy hn hp)
  clear h hy hn hp
  go_enter Try.func38, Try.ntmps38
  go_wp2_with (first | (go_at_call 71; refine (l01Finite_calls _ _).mono ?_; rw [H.out]; rintro e w' ⟨rfl, n, rfl⟩) | (go_at_call 72; refine (HT.out _).mono ?_; rintro e w' ⟨rfl, n, rfl⟩))
  go_ret2
  exact ⟨rfl, _, rfl⟩
theorem il_log (x y g a b c : Nat) (r : Int) (h : finB x = true) (h2 : (FloatKind.f32.format.order x 0 == some Ordering.lt || FloatKind.f32.format.order x 0 == some Ordering.eq) = false) (hy : fwide x = y) (hn : nan .f64 y = false) (hp : TP y g a b c r) : IL x r true := by
  intro w
  have H := hid h
  have HY := hid hy
  have Hnn := hid hn
  have HP := hid hp
  have a1 := hp.a1
  have a2 := hp.a2
  have a3 := hp.a3
  clear h hy hn hp
  go_enter Try.func39, Try.ntmps39
  go_wp2_with (first | (go_at_call 63; refine (IsFinite_calls _ _).mono ?_; rw [H.out]; rintro e w' ⟨rfl, n, rfl⟩) | (refine wpList_wide rfl rfl (by kernel_rfl) Try.underlying26 ?_; intro v q hv; rw [HY.out] at hv; obtain rfl := hv.eq Hnn.out; clear hv) | (go_at_call 64; refine (naturalLog_calls _ HP.out.ly _).mono ?_; rw [HP.out.gl]; rintro e w' ⟨rfl, n, rfl⟩) | (go_at_call 73; refine (Floor_calls _ HP.out.nb _).mono ?_; rw [HP.out.ec]; rintro e w' ⟨rfl, n, rfl⟩))
  go_ret2
  exact ⟨rfl, _, rfl⟩
theorem both (x : Nat) (hx : x < 4294967296) : ∃ r b, SL x r b ∧ IL x r b := by
  by_cases hf : rg Ieee.single x < 2139095040
  · have h := finB_fin hf
    by_cases hs : sv Ieee.single x ≤ 0
    · have h2 := le32 x hf
      rw [decide_eq_true hs] at h2
      exact ⟨0, false, sl_low x h h2, il_low x h h2⟩
    · have h2 := le32 x hf
      rw [decide_eq_false hs] at h2
      have hp : Pos32 x := by
        unfold sv at hs
        cases hg : sg Ieee.single x
        · rw [hg] at hs
          simp only [Bool.false_eq_true, if_false] at hs
          refine ⟨hf, ?_, hg⟩
          rcases Nat.eq_zero_or_pos (rg Ieee.single x) with h0 | h0
          · rw [h0, Mg_zero] at hs
            omega
          · exact h0
        · rw [hg] at hs
          simp only [if_true] at hs
          omega
      have hn : nan .f64 (fwide x) = false := by rw [nan_wide]; exact nn_fin hf
      exact ⟨_, true, sl_log x _ _ _ _ _ _ h h2 rfl hn (tp hp.log), il_log x _ _ _ _ _ _ h h2 rfl hn (tp hp.log)⟩
  · have h : finB x = false := by rw [finB_told]; exact decide_eq_false hf
    exact ⟨0, false, sl_bad x h, il_bad x h⟩
theorem walk (x : Nat) (hw : (Lit.float .f32 x).wf = true) (w : World) : Calls Try.prog 12 #[.float .f32 x] w fun e w' => e = .returned (.bool true) ∧ Below w.heap.size w w' := by
  obtain ⟨r, b, hs, hi⟩ := both x (wf32 hw)
  clear hw
  have HS := hid hs
  have HI := hid hi
  clear hs hi
  have hr : (r != r) = false := bne_self_eq_false r
  have hb : (b != b) = false := bne_self_eq_false b
  go_enter Try.func12, Try.ntmps12
  go_wp2_with fail
  refine (HS.out _).mono ?_
  rintro e w' ⟨rfl, n2, rfl⟩
  go_wp2_with fail
  refine (HI.out _).mono ?_
  rintro e w' ⟨rfl, n3, rfl⟩
  go_wp2
  go_ret
  exact ⟨rfl, below_drewN (Below.refl _ _) _⟩
end Go.Proofs.Ytpdenbflibplfaa.fnExactTenthsOf
