/-
  The program's points, angles, powers, products and tenths, at the numbers that the law on circles takes.
-/
import Derived.Test.YtmehbfcmmffhmaaCircRA
import Derived.Test.YtmehbfcmmffhmaaCircRB
import Derived.Test.YtmehbfcmmffhmaaCircRC
import Derived.Test.YtmehbfcmmffhmaaTenAll
import Derived.Test.YtmehbfcmmffhmaaExpI
import Derived.Test.YtmehbfcmmffhmaaAngI
import Derived.Test.YtmehbfcmmffhmaaExactPhasorOfWalk
import Derived.Test.YtmehbfcmmffhmaaExactTenthsOfWalk
namespace Go.Proofs.Ytmehbfcmmffhmaa.Num
open Go.RowKit Go.Proofs.Fl
set_option linter.unusedVariables false
theorem awalk' {y x : Nat} (hy : rg D y < D.infRung) (hx : rg D x < D.infRung) (h0 : rg D y ≠ 0 ∨ rg D x ≠ 0) (X0 Y0 X Y : Bool) (hz : (X0 && Y0) = false) :
    ∃ u M M8 e0 e1, AWalk y x (angQ (rg D y) (rg D x)) u M M8 e0 e1 (ang2 X (ang1 (decide (rg D x < rg D y)) (ang0 (angQ (rg D y) (rg D x))))) X0 Y0 (decide (rg D x < rg D y)) X Y ∧ Fits (angF (decide (rg D x < rg D y)) X Y (angQ (rg D y) (rg D x))) := by
  have ht := angQ_F2 hy hx h0
  refine ⟨_, _, _, _, _, ⟨hz, ?_, ?_, ?_, ?_, ?_, aend ht _ X⟩, (angF_F2 ht _ X Y).fits (by omega)⟩
  · by_cases hlt : rg D x < rg D y
    · rw [decide_eq_true hlt, if_pos rfl]
      have e : angQ (rg D y) (rg D x) = fop .quo .f64 (rg D x) (rg D y) := by unfold angQ; rw [if_pos hlt]
      intro w
      rw [e]
      exact run_fop_det (by rw [← e]; exact ht.nn) _ w
    · rw [decide_eq_false hlt, if_neg (by decide)]
      have e : angQ (rg D y) (rg D x) = fop .quo .f64 (rg D y) (rg D x) := by unfold angQ; rw [if_neg hlt]
      intro w
      rw [e]
      exact run_fop_det (by rw [← e]; exact ht.nn) _ w
  · refine ⟨fop .quo .f64 (rg D y) (rg D x), fun h w => run_fop_det (quo_nn ?_ ?_ ?_) _ w⟩
    · rw [rg_rg]; exact hy
    · rw [rg_rg]; exact hx
    · rw [rg_rg]
      have := of_decide_eq_true h
      omega
  · exact gtr_word hy hx
  · exact fun j hj => ⟨_, _, _, _, astep (angT_F2 ht j (by omega)) (by omega)⟩
  · exact fun j hj => ⟨_, _, pstep (angU_F2 ht) hj⟩
theorem ang_calls {a b v : Nat} (h : AngAt a b v) (w : World) : Calls Try.prog 25 #[.float .f32 b, .float .f32 a] w (Ret (.float .f32 v) w) := by
  obtain ⟨u, M, M8, e0, e1, hw, hf⟩ := awalk' (F2.wide h.fb).lt (F2.wide h.fa).lt h.nz _ _ (FloatKind.f32.format.order a 0 == some Ordering.lt) (FloatKind.f32.format.order b 0 == some Ordering.lt) h.zz
  refine (AngleTurns_core b a _ _ _ u M M8 e0 e1 _ _ _ _ _ _ (finB_fin h.fb) (finB_fin h.fa) rfl rfl (by rw [nan_wide]; exact nn_fin h.fb) (by rw [nan_wide]; exact nn_fin h.fa) rfl rfl rfl rfl hf hw w).mono ?_
  rintro e w' ⟨x, n, rfl, hx, rfl⟩
  have hx2 : FEq .f32 x (vI a b) := hx
  rw [h.val] at hx2
  obtain rfl := hx2.eq h.nv
  exact ⟨rfl, n, rfl⟩
theorem AngleOf_calls {a b v : Nat} (h : AngAt a b v) (w : World) : Calls Try.prog 11 #[.complex .f32 a b] w (Ret (.float .f32 v) w) := by
  have H := hid (fun w => ang_calls h w)
  clear h
  go_enter Try.func11, Try.ntmps11
  go_wp2_with fail
  refine (H.out _).mono ?_
  rintro e w' ⟨rfl, n, rfl⟩
  go_wp2
  go_ret
  exact ⟨rfl, _, rfl⟩
theorem phasor_calls {i : Nat} (h : i < 511) (w : World) : Calls Try.prog 10 #[.float .f64 (yA i)] w (Ret (.complex .f32 (pRe (i % 64)) (pIm (i % 64))) w) := by
  have T := turnAt h
  have P := phAt (Nat.mod_lt i (show 0 < 64 by decide))
  have hF := P.small
  refine (fnExactPhasorOf.il_walk (yA i) (gI (i % 64)) (i % 64 / 16) (phF (gI (i % 64)) (i % 64 / 16)) (fop .sub .f64 C025 (phF (gI (i % 64)) (i % 64 / 16))) (phC (phF (gI (i % 64)) (i % 64 / 16))) (phS (phF (gI (i % 64)) (i % 64 / 16))) (fop .sub .f64 0 (phC (phF (gI (i % 64)) (i % 64 / 16)))) (fop .sub .f64 0 (phS (phF (gI (i % 64)) (i % 64 / 16)))) T.nd T.nb
    ⟨T.fr, by have := Nat.mod_lt i (show 0 < 64 by decide); omega, fun k hk => ⟨(P.go k hk).1, fun w => run_fop_det (P.go k hk).2 _ w⟩, P.stop, rfl, fun w => run_fop_det (phz_F2 hF).nn _ w, hF, phz_F2 hF, rfl, rfl,
      fun w => run_fop_det (neg_F2 (phC_F2 hF)).nn _ w, fun w => run_fop_det (neg_F2 (phS_F2 hF)).nn _ w, (phC_F2 hF).fits (by omega), (phS_F2 hF).fits (by omega), (neg_F2 (phC_F2 hF)).fits (by omega), (neg_F2 (phS_F2 hF)).fits (by omega), rfl, rfl⟩ w).mono ?_
  rintro e w' ⟨a, b, n, rfl, ha, hb, rfl⟩
  rw [P.re] at ha
  rw [P.im] at hb
  obtain rfl := ha.eq P.nre
  obtain rfl := hb.eq P.nim
  exact ⟨rfl, n, rfl⟩
theorem ten_calls {n : Nat} (h1 : 1 ≤ n) (h2 : n ≤ 40000) (w : World) : Calls Try.prog 15 #[.float .f32 (fN n)] w (Ret (.tuple #[.int .i64 (tenN (dN n)), .bool true]) w) := by
  have hp := pos_fN h1 h2
  have h := finB_fin hp.fin
  have hl := le32 (fN n) hp.fin
  have hs := hp.sv
  rw [decide_eq_false (by omega)] at hl
  have hn : nan .f64 (fwide (fN n)) = false := by rw [nan_wide]; exact nn_fin hp.fin
  have := fnExactTenthsOf.il_log (fN n) _ _ _ _ _ _ h hl rfl hn (fnExactTenthsOf.tp hp.log) w
  rw [wide_fN h1 h2] at this
  exact this
theorem parts_calls (a b : Nat) (ha : nan .f32 a = false) (hb : nan .f32 b = false) (w : World) : Calls Try.prog 27 #[.complex .f32 a b] w (Ret (.tuple #[.float .f64 (fwide a), .float .f64 (fwide b)]) w) := by
  have c1 := fun w => conv_wide ha w
  have c2 := fun w => conv_wide hb w
  clear ha hb
  generalize fwide a = x at *
  generalize fwide b = y at *
  go_enter Try.func27, Try.ntmps27
  go_wp2
  go_ret2
  exact ⟨rfl, 0, rfl⟩
theorem times_calls (a b c d : Nat) (h : MulAt a b c d) (w : World) : Calls Try.prog 28 #[.float .f64 a, .float .f64 b, .float .f64 c, .float .f64 d] w (Ret (.tuple #[.float .f64 (muS a b c d), .float .f64 (muT a b c d)]) w) := by
  have s1 := fun w => run_fop_det (P := Try.prog) h.n1 27 w
  have s2 := fun w => run_fop_det (P := Try.prog) h.n2 27 w
  have s3 := fun w => run_fop_det (P := Try.prog) (show nan .f64 (fop .sub .f64 (fop .mul .f64 a c) (fop .mul .f64 b d)) = false from h.n3) 27 w
  have s4 := fun w => run_fop_det (P := Try.prog) h.n4 27 w
  have s5 := fun w => run_fop_det (P := Try.prog) h.n5 27 w
  have s6 := fun w => run_fop_det (P := Try.prog) (show nan .f64 (fop .add .f64 (fop .mul .f64 a d) (fop .mul .f64 b c)) = false from h.n6) 27 w
  unfold muS muT
  clear h
  generalize fop .sub .f64 (fop .mul .f64 a c) (fop .mul .f64 b d) = u at *
  generalize fop .add .f64 (fop .mul .f64 a d) (fop .mul .f64 b c) = v at *
  generalize fop .mul .f64 a c = p1 at *
  generalize fop .mul .f64 b d = p2 at *
  generalize fop .mul .f64 a d = p3 at *
  generalize fop .mul .f64 b c = p4 at *
  go_enter Try.func28, Try.ntmps28
  go_wp2
  go_ret2
  exact ⟨rfl, 0, rfl⟩
theorem mul_calls (a b c d r s : Nat) (na : nan .f32 a = false) (nb : nan .f32 b = false) (nc : nan .f32 c = false) (nd : nan .f32 d = false) (h : MulAt (fwide a) (fwide b) (fwide c) (fwide d)) (hr : floatToFloatBits .f64 (muS (fwide a) (fwide b) (fwide c) (fwide d)) .f32 = some r) (hs : floatToFloatBits .f64 (muT (fwide a) (fwide b) (fwide c) (fwide d)) .f32 = some s) (w : World) :
    Calls Try.prog 14 #[.complex .f32 a b, .complex .f32 c d] w (Ret (.complex .f32 r s) w) := by
  have P1 := hid (fun w => parts_calls a b na nb w)
  have P2 := hid (fun w => parts_calls c d nc nd w)
  have TT := hid (fun w => times_calls _ _ _ _ h w)
  have c1 := fun w => conv_narrow hr w
  have c2 := fun w => conv_narrow hs w
  clear na nb nc nd h hr hs
  generalize muS (fwide a) (fwide b) (fwide c) (fwide d) = u at *
  generalize muT (fwide a) (fwide b) (fwide c) (fwide d) = v at *
  generalize fwide a = x1 at *
  generalize fwide b = x2 at *
  generalize fwide c = x3 at *
  generalize fwide d = x4 at *
  go_enter Try.func14, Try.ntmps14
  go_wp2_with fail
  refine (P1.out _).mono ?_
  rintro e w' ⟨rfl, n1, rfl⟩
  go_wp2_with fail
  refine (P2.out _).mono ?_
  rintro e w' ⟨rfl, n2, rfl⟩
  go_wp2_with fail
  refine (TT.out _).mono ?_
  rintro e w' ⟨rfl, n3, rfl⟩
  go_wp2
  go_ret
  exact ⟨rfl, _, rfl⟩
theorem power_calls (a b p : Nat) (na : nan .f32 a = false) (nb : nan .f32 b = false) (h : PowAt a b p) (w : World) : Calls Try.prog 26 #[.complex .f32 a b] w (Ret (.float .f64 (pwS a b)) w) := by
  have P1 := hid (fun w => parts_calls a b na nb w)
  have s1 := fun w => run_fop_det (P := Try.prog) h.n1 27 w
  have s2 := fun w => run_fop_det (P := Try.prog) h.n2 27 w
  have s3 := fun w => run_fop_det (P := Try.prog) (show nan .f64 (fop .add .f64 (fop .mul .f64 (fwide a) (fwide a)) (fop .mul .f64 (fwide b) (fwide b))) = false from h.n3) 27 w
  unfold pwS
  clear h na nb
  generalize fop .add .f64 (fop .mul .f64 (fwide a) (fwide a)) (fop .mul .f64 (fwide b) (fwide b)) = u at *
  generalize fop .mul .f64 (fwide a) (fwide a) = p1 at *
  generalize fop .mul .f64 (fwide b) (fwide b) = p2 at *
  generalize fwide a = x1 at *
  generalize fwide b = x2 at *
  go_enter Try.func26, Try.ntmps26
  go_wp2_with fail
  refine (P1.out _).mono ?_
  rintro e w' ⟨rfl, n1, rfl⟩
  go_wp2
  go_ret
  exact ⟨rfl, _, rfl⟩
theorem PowerOf_calls (a b p : Nat) (na : nan .f32 a = false) (nb : nan .f32 b = false) (h : PowAt a b p) (w : World) : Calls Try.prog 12 #[.complex .f32 a b] w (Ret (.float .f32 p) w) := by
  have P1 := hid (fun w => power_calls a b p na nb h w)
  have c1 := fun w => conv_narrow h.out w
  clear h na nb
  generalize pwS a b = u at *
  go_enter Try.func12, Try.ntmps12
  go_wp2_with fail
  refine (P1.out _).mono ?_
  rintro e w' ⟨rfl, n1, rfl⟩
  go_wp2
  go_ret
  exact ⟨rfl, _, rfl⟩
theorem b10Near_calls (r s p q : Nat) (nr : nan .f32 r = false) (ns : nan .f32 s = false) (np : nan .f32 p = false) (nq : nan .f32 q = false) (g1 : nan .f64 (gapF (fwide r) (fwide p)) = false) (g2 : nan .f64 (gapF (fwide s) (fwide q)) = false)
    (o1 : (FloatKind.f64.format.order (gapF (fwide r) (fwide p)) 4547007122018943789 == some Ordering.lt || FloatKind.f64.format.order (gapF (fwide r) (fwide p)) 4547007122018943789 == some Ordering.eq) = true)
    (o2 : (FloatKind.f64.format.order (gapF (fwide s) (fwide q)) 4547007122018943789 == some Ordering.lt || FloatKind.f64.format.order (gapF (fwide s) (fwide q)) 4547007122018943789 == some Ordering.eq) = true) (w : World) :
    Calls Try.prog 13 #[.complex .f32 r s, .complex .f32 p q, .float .f64 4547007122018943789] w (Ret (.bool true) w) := by
  have G1 := hid (fun w => b10Gap_calls _ _ g1 w)
  have G2 := hid (fun w => b10Gap_calls _ _ g2 w)
  have c1 := fun w => conv_wide nr w
  have c2 := fun w => conv_wide ns w
  have c3 := fun w => conv_wide np w
  have c4 := fun w => conv_wide nq w
  clear nr ns np nq g1 g2
  generalize gapF (fwide r) (fwide p) = k1 at *
  generalize gapF (fwide s) (fwide q) = k2 at *
  generalize fwide r = x1 at *
  generalize fwide s = x2 at *
  generalize fwide p = x3 at *
  generalize fwide q = x4 at *
  go_enter Try.func13, Try.ntmps13
  go_wp2_with fail
  refine (G1.out _).mono ?_
  rintro e w' ⟨rfl, n1, rfl⟩
  go_wp2_with fail
  refine (G2.out _).mono ?_
  rintro e w' ⟨rfl, n2, rfl⟩
  go_wp2
  go_ret
  exact ⟨rfl, _, rfl⟩
theorem near_at {i j : Nat} (hi : i < 64) (hj : j < 64) : MulAt (fwide (pRe i)) (fwide (pIm i)) (fwide (pRe j)) (fwide (pIm j)) ∧ PartAt (muS (fwide (pRe i)) (fwide (pIm i)) (fwide (pRe j)) (fwide (pIm j))) (fwide (pRe ((i + j) % 64))) ∧ PartAt (muT (fwide (pRe i)) (fwide (pIm i)) (fwide (pRe j)) (fwide (pIm j))) (fwide (pIm ((i + j) % 64))) := by
  have h : circB i = true := by
    rcases (show i < 22 ∨ (22 ≤ i ∧ i < 43) ∨ 43 ≤ i by omega) with h | h | h
    · exact List.all_eq_true.1 circRA i (by rw [List.mem_range'_1]; omega)
    · exact List.all_eq_true.1 circRB i (by rw [List.mem_range'_1]; omega)
    · exact List.all_eq_true.1 circRC i (by rw [List.mem_range'_1]; omega)
  have h2 := mulAt_of (circB_at h hj)
  rw [(w_at hi).1, (w_at hi).2, (w_at hj).1, (w_at hj).2, (w_at (Nat.mod_lt _ (by decide))).1, (w_at (Nat.mod_lt _ (by decide))).2]
  exact h2
theorem sBits_calls (x : Nat) (hn : nan .f32 x = false) (hx : x < 4294967296) (w : World) : Calls Try.prog 36 #[.float .f32 x] w (Ret (.int .i64 (x : Int)) w) := by
  have ho := order_self .f32 x
  rw [hn] at ho
  clear hn
  go_enter Try.func36, Try.ntmps36
  go_wp2
  go_ret
  exact ⟨ret_int (by first | rfl | omega), 0, rfl⟩
theorem quarter_not_zero (w : World) : Calls Try.prog 16 #[.float .f32 1048576000, .float .f32 0] w (Ret (.bool false) w) := by
  have HX := hid (sBits_calls 1048576000 (by decide +kernel) (by decide))
  have HY := hid (sBits_calls 0 (by decide +kernel) (by decide))
  have HS : Hid (∀ w, Calls Try.prog 30 #[.float .f32 1048576000, .float .f32 0] w (Ret (.bool false) w)) := hid (fun w => by
    go_enter Try.func30, Try.ntmps30
    go_wp2_with fail
    refine (HX.out _).mono ?_
    rintro e w' ⟨rfl, n1, rfl⟩
    go_wp2_with fail
    refine (HY.out _).mono ?_
    rintro e w' ⟨rfl, n2, rfl⟩
    go_wp2
    go_ret
    exact ⟨rfl, _, rfl⟩)
  go_enter Try.func16, Try.ntmps16
  go_wp2_with fail
  refine (HS.out _).mono ?_
  rintro e w' ⟨rfl, n1, rfl⟩
  go_wp2
  go_ret
  exact ⟨rfl, _, rfl⟩
theorem x8_all : (List.range 200).all (fun i => fop .quo .f32 (floatOfInt .f32 (1 + (i : Int))) 1090519040 == fN (8 * (i + 1))) = true := by decide +kernel
theorem x8_at {i : Nat} (h : i < 200) : fop .quo .f32 (floatOfInt .f32 (1 + (i : Int))) 1090519040 = fN (8 * (i + 1)) := by
  have := List.all_eq_true.1 x8_all i (List.mem_range.2 h)
  exact eq_of_beq this
end Go.Proofs.Ytmehbfcmmffhmaa.Num
