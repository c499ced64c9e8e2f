/-
  The law on TenthsOf: of a finite number greater than 0, both texts take the same logarithm, the same product, sum and floor.
-/
import Derived.Test.YtmehbfcmmffhmaaSineAll
import Derived.Test.YtmehbfcmmffhmaaLog
import Derived.Test.YtmehbfcmmffhmaaLogIn
import Derived.Test.YtmehbfcmmffhmaaFloor
import Derived.Test.YtmehbfcmmffhmaaFin
namespace Go.Proofs.Ytmehbfcmmffhmaa.fnExactTenthsOf
open Go.RowKit Go.Proofs.Fl Go.Proofs.Ytmehbfcmmffhmaa.Num
set_option linter.unusedVariables false
def C43 : Nat := 4631308968768463603
theorem F2_C43 : F2 6 C43 := ⟨by omega, by decide +kernel⟩
def t1 (y : Nat) : Nat := fop .mul .f64 (logF y) C43
def t2 (y : Nat) : Nat := fop .add .f64 (t1 y) C05
theorem t1_F2 {y : Nat} (h : LogIn y) : F2 48 (t1 y) := (logF_F2 h).mul F2_C43 48 (by omega) (by omega)
theorem t2_F2 {y : Nat} (h : LogIn y) : F2 49 (t2 y) := (t1_F2 h).add F2_C05 49 (by omega) (by omega) (by omega)
theorem t3_F2 {y : Nat} (h : LogIn y) : F2 52 (ffloor (t2 y)) := (floor_F2 (t2_F2 h) (by omega)).mono (by omega) (by omega)
def tenI (y : Nat) : Int := fint (ffloor (t2 y))
structure TP (y g a b c : Nat) (r : Int) : Prop where
  a1 : ∀ w, (binOp .mul 27 (.float .f64 g) (.float .f64 4631308968768463603)).run Try.prog w = .ok (.float .f64 a) w
  a2 : ∀ w, (binOp .add 27 (.float .f64 a) (.float .f64 4602678819172646912)).run Try.prog w = .ok (.float .f64 b) w
  nb : nan .f64 b = false
  ec : ffloor b = c
  a3 : ∀ w, (convert 27 2 (.float .f64 c)).run Try.prog w = .ok (.int .i64 r) w
  gl : logF y = g
  ly : LogIn y
theorem tp {y : Nat} (h : LogIn y) : TP y (logF y) (t1 y) (t2 y) (ffloor (t2 y)) (tenI y) :=
  ⟨fun w => run_fop_det (t1_F2 h).nn _ w, fun w => run_fop_det (t2_F2 h).nn _ w, (t2_F2 h).nn, rfl, fun w => run_fint _ (t3_F2 h) w, rfl, h⟩
def IL (x : Nat) (r : Int) (b : Bool) : Prop := ∀ w, Calls Try.prog 15 #[.float .f32 x] w (Ret (.tuple #[.int .i64 r, .bool b]) w)
theorem il_bad (x : Nat) (h : finB x = false) : IL x 0 false := by
  intro w
  have H := hid h
  clear h
  go_enter Try.func15, Try.ntmps15
  go_wp2_with (go_at_call 19; refine (IsFinite_calls _ _).mono ?_; rw [H.out]; rintro e w' ⟨rfl, n, rfl⟩)
  go_ret2
  exact ⟨rfl, _, rfl⟩
theorem il_low (x : Nat) (h : finB x = true) (h2 : (FloatKind.f32.format.order x 0 == some Ordering.lt || FloatKind.f32.format.order x 0 == some Ordering.eq) = true) : IL x 0 false := by
  intro w
  have H := hid h
  clear h
  go_enter Try.func15, Try.ntmps15
  go_wp2_with (go_at_call 19; refine (IsFinite_calls _ _).mono ?_; rw [H.out]; rintro e w' ⟨rfl, n, rfl⟩)
  go_ret2
  exact ⟨rfl, _, rfl⟩
theorem il_log (x y g a b c : Nat) (r : Int) (h : finB x = true) (h2 : (FloatKind.f32.format.order x 0 == some Ordering.lt || FloatKind.f32.format.order x 0 == some Ordering.eq) = false) (hy : fwide x = y) (hn : nan .f64 y = false) (hp : TP y g a b c r) : IL x r true := by
  intro w
  have H := hid h
  have HY := hid hy
  have Hnn := hid hn
  have HP := hid hp
  have a1 := hp.a1
  have a2 := hp.a2
  have a3 := hp.a3
  clear h hy hn hp
  go_enter Try.func15, Try.ntmps15
  go_wp2_with (first | (go_at_call 19; refine (IsFinite_calls _ _).mono ?_; rw [H.out]; rintro e w' ⟨rfl, n, rfl⟩) | (refine wpList_wide rfl rfl (by kernel_rfl) Try.underlying27 ?_; intro v q hv; rw [HY.out] at hv; obtain rfl := hv.eq Hnn.out; clear hv) | (go_at_call 20; refine (naturalLog_calls _ HP.out.ly _).mono ?_; rw [HP.out.gl]; rintro e w' ⟨rfl, n, rfl⟩) | (go_at_call 29; refine (Floor_calls _ HP.out.nb _).mono ?_; rw [HP.out.ec]; rintro e w' ⟨rfl, n, rfl⟩))
  go_ret2
  exact ⟨rfl, _, rfl⟩
end Go.Proofs.Ytmehbfcmmffhmaa.fnExactTenthsOf
