/-
  The logarithm of the program: LogNumber of positive numbers.
-/
import Derived.Test.YtmehbfcmmffhmaaExt
import Derived.Test.YtmehbfcmmffhmaaFinI
import Derived.Test.YtmehbfcmmffhmaaLogIn
import Derived.Test.YtmehbfcmmffhmaaLogN
import Derived.LoopTactic
namespace Go.Proofs.Ytmehbfcmmffhmaa.Num
open Go.RowKit Go.Proofs.Fl
set_option linter.unusedVariables false

set_option maxHeartbeats 3200000 in
theorem naturalLog_core (x y : Nat) (e : Int) (a b s u M M2 E2 r : Nat) (h : LogIn x)
    (hend : ∀ (z : Nat) (e' : Int), Mid z → (z : Int) = x - e' * 4503599627370496 → z = y ∧ e' = e) (hu : F2 2 u)
    (a1 : ∀ w, (binOp .sub 27 (.float .f64 y) (.float .f64 4607182418800017408)).run Try.prog w = .ok (.float .f64 a) w)
    (a2 : ∀ w, (binOp .add 27 (.float .f64 y) (.float .f64 4607182418800017408)).run Try.prog w = .ok (.float .f64 b) w)
    (a3 : ∀ w, (binOp .quo 27 (.float .f64 a) (.float .f64 b)).run Try.prog w = .ok (.float .f64 s) w)
    (a4 : ∀ w, (binOp .mul 27 (.float .f64 s) (.float .f64 s)).run Try.prog w = .ok (.float .f64 u) w)
    (m1 : ∀ w, (binOp .mul 27 (.float .f64 s) (.float .f64 (logP u 13))).run Try.prog w = .ok (.float .f64 M) w)
    (m2 : ∀ w, (binOp .mul 27 (.float .f64 4611686018427387904) (.float .f64 M)).run Try.prog w = .ok (.float .f64 M2) w)
    (m3 : ∀ w, (binOp .mul 27 (.float .f64 (eF e)) (.float .f64 4604418534313441775)).run Try.prog w = .ok (.float .f64 E2) w)
    (m4 : ∀ w, (binOp .add 27 (.float .f64 M2) (.float .f64 E2)).run Try.prog w = .ok (.float .f64 r) w) (w : World) :
    Calls Try.prog 20 #[.float .f64 x] w (Ret (.float .f64 r) w) := by
  have H := hid h
  have HU := hid hu
  have HE := hid hend
  have Hlo := hid h.lo
  have Hhi := hid h.hi
  have HZ := hid eF_zero
  have Hinf : Hid (D.infRung = 9218868437227405312) := hid inf64
  clear h hu hend
  go_enter Try.func20, Try.ntmps20
  go_wp2
  go_loop [0, 3] (fun X E => ∃ (z j : Nat), X = .float .f64 z ∧ E = .float .f64 (eF j) ∧ (z : Int) = x - (j : Int) * 4503599627370496 ∧ z < 5188146770730811392 ∧ (4604930618986332160 ≤ z ∨ j = 0)) (fun X E => bitsOfV X)
  case atStart => exact ⟨x, 0, rfl, by rw [show ((0 : Nat) : Int) = 0 from rfl, HZ.out], by omega, Hhi.out, .inr rfl⟩
  case round =>
    obtain ⟨z, j, rfl, rfl, hz, hzh, hzl⟩ := hrel
    have hlo := Hlo.out
    have hhi := Hhi.out
    by_cases hc : 4609434218613702656 ≤ z
    · have c1 := geq_word (x := z) (c := 4609434218613702656) (by rw [Hinf.out]; omega) C15_inf
      rw [decide_eq_true hc] at c1
      have hs := halve_step hc (by rw [Hinf.out]; omega)
      have c2 := fun w => run_fop_det (P := Try.prog) hs.2 27 w
      rw [hs.1] at c2
      unfold C2 at c2
      have hst := steps (e := (j : Int)) (by omega) (by omega)
      have c3 := fun w => run_fop_det (P := Try.prog) (show nan .f64 (fop .add .f64 (eF (j : Int)) C1) = false by rw [hst.2.1]; exact hst.1) 27 w
      rw [hst.2.1] at c3
      unfold C1 at c3
      clear hst
      clear hs
      go_wp2
      go_round
      case rel => exact ⟨z - 4503599627370496, j + 1, rfl, by rw [show ((j + 1 : Nat) : Int) = (j : Int) + 1 from rfl], by omega, by omega, .inl (by omega)⟩
      case measure => (try rw [bits_float, bits_float]); omega
    · have c1 := geq_word (x := z) (c := 4609434218613702656) (by rw [Hinf.out]; omega) C15_inf
      rw [decide_eq_false hc] at c1
      go_wp2
      go_loop [0, 3] (fun X E => ∃ (z : Nat) (e' : Int), X = .float .f64 z ∧ E = .float .f64 (eF e') ∧ (z : Int) = x - e' * 4503599627370496 ∧ z < 4609434218613702656 ∧ 3931642474694443008 ≤ z ∧ -200 ≤ e' ∧ e' ≤ 200) (fun X E => 4609434218613702656 - bitsOfV X)
      case atStart => exact ⟨z, j, rfl, rfl, hz, by omega, by omega, by omega, by omega⟩
      case round =>
        clear hz hzh hzl hc c1
        obtain ⟨z, e', rfl, rfl, hz, hzh, hzl, he1, he2⟩ := hrel
        by_cases hc : z < 4604930618986332160
        · have c1 := lss_word (x := z) (c := 4604930618986332160) (by rw [Hinf.out]; omega) C075_inf
          rw [decide_eq_true hc] at c1
          have hs := double_step hc (by omega)
          have c2 := fun w => run_fop_det (P := Try.prog) hs.2 27 w
          rw [hs.1] at c2
          unfold C2 at c2
          have hst := steps (e := e') (by omega) (by omega)
          have c3 := fun w => run_fop_det (P := Try.prog) (show nan .f64 (fop .sub .f64 (eF e') C1) = false by rw [hst.2.2.2]; exact hst.2.2.1) 27 w
          rw [hst.2.2.2] at c3
          unfold C1 at c3
          clear hst
          clear hs
          go_wp2
          go_round
          case rel => exact ⟨z + 4503599627370496, e' - 1, rfl, rfl, by omega, by omega, by omega, by omega, by omega⟩
          case measure => (try rw [bits_float, bits_float]); omega
        · have c1 := lss_word (x := z) (c := 4604930618986332160) (by rw [Hinf.out]; omega) C075_inf
          rw [decide_eq_false hc] at c1
          obtain ⟨rfl, rfl⟩ := HE.out z e' ⟨by omega, hzh⟩ hz
          go_wp2
          go_loop [6, 7] (fun q k => ∃ j : Nat, j ≤ 13 ∧ k = .float .f64 (lk j) ∧ q = .float .f64 (logP u j)) (fun q k => (fint (bitsOfV k)).toNat)
          case atStart => exact ⟨0, by omega, by rw [lk_start], rfl⟩
          case round =>
            clear hz hzh hzl hc c1
            obtain ⟨j, hj, rfl, rfl⟩ := hrel
            by_cases hlt : j < 13
            · have ht := ltabs hlt
              have hst := logP_steps HU.out hlt
              have c1 := ht.test
              have c2 := fun w => run_fop_det (P := Try.prog) (show nan .f64 (fop .quo .f64 C1 (lk j)) = false from ht.nR) 27 w
              rw [show fop .quo .f64 C1 (lk j) = lr j from rfl] at c2
              have c3 := fun w => run_fop_det (P := Try.prog) hst.1 27 w
              have c4 := fun w => run_fop_det (P := Try.prog) (show nan .f64 (fop .add .f64 (lr j) (fop .mul .f64 u (logP u j))) = false from hst.2) 27 w
              rw [show fop .add .f64 (lr j) (fop .mul .f64 u (logP u j)) = logP u (j + 1) from rfl] at c4
              have c5 := fun w => run_fop_det (P := Try.prog) (show nan .f64 (fop .sub .f64 (lk j) C2) = false by rw [ht.eK]; exact ht.nK) 27 w
              rw [ht.eK] at c5
              unfold C1 at c2
              unfold C2 at c5
              have HM := hid (lk_measure hlt)
              clear ht hst
              generalize fop .mul .f64 u (logP u j) = m at *
              go_wp2
              go_round
              case rel => exact ⟨j + 1, hlt, rfl, rfl⟩
              case measure => exact HM.out
            · obtain rfl : j = 13 := by omega
              have ce := lk_end
              go_wp2
              go_ret
              exact ⟨rfl, 0, rfl⟩
theorem naturalLog_calls (x : Nat) (h : LogIn x) (w : World) : Calls Try.prog 20 #[.float .f64 x] w (Ret (.float .f64 (logF x)) w) := by
  have hm := logX_mid x
  have hs := logS_F2 hm
  have hu := logU_F2 hm
  refine naturalLog_core x (logX x) (logE x) (logA (logX x)) (logB (logX x)) (logS (logX x)) (logU (logX x)) (logM (logS (logX x)) (logU (logX x))) (fop .mul .f64 C2 (logM (logS (logX x)) (logU (logX x)))) (fop .mul .f64 (eF (logE x)) Cln2) (logF x) h (fun z e' hz he => mid_is hz he) hu ?_ ?_ ?_ ?_ ?_ ?_ ?_ ?_ w
  · exact fun w => run_fop_det (logA_F2 hm).nn _ w
  · exact fun w => run_fop_det (logB_F2 hm).nn _ w
  · exact fun w => run_fop_det hs.nn _ w
  · exact fun w => run_fop_det hu.nn _ w
  · exact fun w => run_fop_det (logM_F2 hs hu).nn _ w
  · exact fun w => run_fop_det (logR1_F2 hs hu).nn _ w
  · exact fun w => run_fop_det (logR2_F2 h.e).nn _ w
  · exact fun w => run_fop_det (logR_F2 h.e hs hu).nn _ w
def IL (x r : Nat) : Prop := ∀ w, Calls Try.prog 9 #[.float .f32 x] w (RetF .f32 r w)
theorem il_log (x y : Nat) (hy : fwide x = y) (hn : nan .f64 y = false) (hl : LogIn y) (h1 : (FloatKind.f32.format.order x 0 == some Ordering.eq) = false) (h2 : (FloatKind.f32.format.order x 0 == some Ordering.lt) = false) (h3 : (FloatKind.f32.format.order x x != some Ordering.eq) = false) (h4 : finB x = true) : IL x (fnar (logF y)) := by
  intro w
  have H := hid h4
  have HY := hid hy
  have Hnn := hid hn
  have HL := hid hl
  have HF := hid ((logF_F2 hl).fits (by omega))
  clear h4 hy hn hl
  go_enter Try.func9, Try.ntmps9
  go_wp2_with (first | (go_at_call 19; refine (IsFinite_calls _ _).mono ?_; rw [H.out]; rintro e w' ⟨rfl, n, rfl⟩) | (refine wpList_wide rfl rfl (by kernel_rfl) Try.underlying27 ?_; intro v q hv; rw [HY.out] at hv; obtain rfl := hv.eq Hnn.out; clear hv) | (go_at_call 20; refine (naturalLog_calls _ HL.out _).mono ?_; rintro e w' ⟨rfl, n, rfl⟩) | (refine wpList_narrow rfl rfl (by kernel_rfl) Try.underlying24 HF.out ?_; intro v3 n3 hv3))
  go_ret
  exact ⟨v3, _, rfl, hv3, rfl⟩
theorem LogNumber_pos {x : Nat} (h : Pos32 x) : IL x (fnar (logF (fwide x))) := by
  refine il_log x _ rfl ?_ h.log ?_ ?_ ?_ (finB_fin h.fin)
  · rw [nan_wide]; exact nn_fin h.fin
  · rw [eq32 x h.fin]; have := h.sv; exact decide_eq_false (by omega)
  · rw [lt32 x h.fin]; have := h.sv; exact decide_eq_false (by omega)
  · rw [order_self]; exact nn_fin h.fin
end Go.Proofs.Ytmehbfcmmffhmaa.Num
