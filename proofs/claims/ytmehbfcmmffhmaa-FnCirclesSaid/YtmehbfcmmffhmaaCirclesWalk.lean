/-
  The law on circles, walked over the told points, angles, products and tenths.
-/
import Derived.Test.YtmehbfcmmffhmaaCircI
namespace Go.Proofs.Ytmehbfcmmffhmaa.fnCircles
open Go.RowKit Go.Proofs.Fl Go.Proofs.Ytmehbfcmmffhmaa.Num
set_option linter.unusedVariables false
theorem ten_one (w : World) : Calls Try.prog 15 #[.float .f32 1065353216] w (Ret (.tuple #[.int .i64 0, .bool true]) w) := by
  have h := ten_calls (n := 64) (by decide) (by decide) w
  rw [ten_64, show fN 64 = 1065353216 by decide +kernel] at h
  exact h
theorem nan_wide_of {x : Nat} (h : nan .f32 x = false) : nan .f64 (fwide x) = false := by rw [nan_wide]; exact h
theorem y_at {i : Nat} : fop .quo .f64 (floatOfInt .f64 ((i : Int) - 128)) 4634204016564240384 = yA (i + 128) := by
  unfold yA
  rw [show ((i + 128 : Nat) : Int) - 256 = (i : Int) - 128 by omega]
theorem y_sum {i j : Nat} : fop .quo .f64 (floatOfInt .f64 ((i : Int) - 128 + ((j : Int) - 128))) 4634204016564240384 = yA (i + j) := by
  unfold yA
  rw [show ((i + j : Nat) : Int) - 256 = (i : Int) - 128 + ((j : Int) - 128) by omega]
theorem quart {i : Nat} (h : i < 256) : nan .f64 (gapF (fwide (pRe (i % 64))) 0) = false ∧ ((((i : Int) - 128).tmod 16 == 0) = true → ((FloatKind.f64.format.order (gapF (fwide (pRe (i % 64))) 0) 0 != some Ordering.eq) && (FloatKind.f64.format.order (gapF (fwide (pRe (i % 64))) 0) 4607182418800017408 != some Ordering.eq)) = false) := by
  have hq := q_at (Nat.mod_lt i (show 0 < 64 by decide))
  refine ⟨hq.1, fun h0 => hq.2 ?_⟩
  have h1 : ((i : Int) - 128).tmod 16 = 0 := eq_of_beq h0
  have h2 : (16 : Int) ∣ ((i : Int) - 128) := Int.dvd_of_tmod_eq_zero h1
  omega
theorem tens_at {s : Nat} (h : s < 200) : fop .quo .f32 (floatOfInt .f32 (1 + (s : Int))) 1090519040 = fN (8 * (s + 1)) ∧ nan .f32 (fN (8 * (s + 1))) = false :=
  ⟨x8_at h, nn_fin (pos_fN (by omega) (by omega)).fin⟩
set_option maxRecDepth 100000 in
set_option maxHeartbeats 6400000 in
theorem walk (AA : Option Addr) (n c : Nat) (xs : List Int) (hx : xs.length = n) (hnc : n ≤ c) (hc : c ≤ maxLen) {w : World} (ha : Rd w w.heap.size AA (xs.map (Value.int .u8))) (hwf : ∀ z ∈ xs, (Lit.int .u8 z).wf = true)
    (BB : Option Addr) (m d : Nat) (ys : List Int) (hy : ys.length = m) (hmd : m ≤ d) (hd : d ≤ maxLen) (hb : Rd w w.heap.size BB (ys.map (Value.int .u8))) (hwf2 : ∀ z ∈ ys, (Lit.int .u8 z).wf = true) :
    Calls Try.prog 4 #[.slice AA n c, .slice BB m d] w fun e w' => e = .returned (.bool true) ∧ Below w.heap.size w w' := by
  have HA0 := hid (b10At_calls AA n c xs hx hwf 0 256 (by decide) (by decide) (by decide) w ha)
  have HA1 := hid (b10At_calls AA n c xs hx hwf 1 256 (by decide) (by decide) (by decide) w ha)
  have HB0 := hid (fun w' (h : Below w.heap.size w w') => b10At_calls BB m d ys hy hwf2 0 200 (by decide) (by decide) (by decide) w' ((hb.below h).more h.size))
  have HB1 := hid (fun w' (h : Below w.heap.size w w') => b10At_calls BB m d ys hy hwf2 1 200 (by decide) (by decide) (by decide) w' ((hb.below h).more h.size))
  have HLong := hid (b10Long_calls AA BB n c m d)
  clear hx hnc hc ha hwf hy hmd hd hb hwf2
  go_enter Try.func4, Try.ntmps4
  go_wp2_with fail
  refine (HLong.out _).mono ?_
  rintro e w' ⟨⟨b, rfl⟩, rfl⟩
  cases b
  · go_wp2_with fail
    refine HA0.out.mono ?_
    rintro e w' ⟨⟨i, hi, rfl⟩, rfl⟩
    go_wp2_with fail
    refine HA1.out.mono ?_
    rintro e w' ⟨⟨j, hj, rfl⟩, rfl⟩
    have Ti := turnAt (show i + 128 < 511 by omega)
    have Tj := turnAt (show j + 128 < 511 by omega)
    have Tk := turnAt (show i + j < 511 by omega)
    have q1 := fun w => run_fop_det (P := Try.prog) (show nan .f64 (fop .quo .f64 (floatOfInt .f64 ((i : Int) - 128)) 4634204016564240384) = false by rw [y_at]; exact Ti.nn) 27 w
    have q2 := fun w => run_fop_det (P := Try.prog) (show nan .f64 (fop .quo .f64 (floatOfInt .f64 ((j : Int) - 128)) 4634204016564240384) = false by rw [y_at]; exact Tj.nn) 27 w
    have q3 := fun w => run_fop_det (P := Try.prog) (show nan .f64 (fop .quo .f64 (floatOfInt .f64 ((i : Int) - 128 + ((j : Int) - 128))) 4634204016564240384) = false by rw [y_sum]; exact Tk.nn) 27 w
    rw [y_at] at q1 q2
    rw [y_sum] at q3
    have PI := hid (fun w => phasor_calls (show i + 128 < 511 by omega) w)
    have PJ := hid (fun w => phasor_calls (show j + 128 < 511 by omega) w)
    have PK := hid (fun w => phasor_calls (show i + j < 511 by omega) w)
    rw [show (i + 128) % 64 = i % 64 by omega] at PI
    rw [show (j + 128) % 64 = j % 64 by omega] at PJ
    have li := Nat.mod_lt i (show 0 < 64 by decide)
    have lj := Nat.mod_lt j (show 0 < 64 by decide)
    have lk := Nat.mod_lt (i + j) (show 0 < 64 by decide)
    have PhI := phAt li
    have PhJ := phAt lj
    have PhK := phAt lk
    have An := angAt li
    have Po := powAt li
    have Wh := wholeAt hi
    have Nr := near_at li lj
    rw [show (i % 64 + j % 64) % 64 = (i + j) % 64 by omega] at Nr
    have Qu := quart hi
    have CAn := hid (fun w => AngleOf_calls An w)
    have CPo := hid (fun w => PowerOf_calls _ _ _ PhI.nre PhI.nim Po w)
    have CMu := hid (fun w => mul_calls _ _ _ _ _ _ PhI.nre PhI.nim PhJ.nre PhJ.nim Nr.1 Nr.2.1.out Nr.2.2.out w)
    have CNr := hid (fun w => b10Near_calls _ _ _ _ Nr.2.1.nn Nr.2.2.nn PhK.nre PhK.nim Nr.2.1.ng Nr.2.2.ng Nr.2.1.gap Nr.2.2.gap w)
    have CG1 := hid (fun w => b10Gap_calls _ _ Po.ng w)
    have CG2 := hid (fun w => b10Gap_calls _ _ Wh.ng w)
    have CG3 := hid (fun w => b10Gap_calls _ _ Qu.1 w)
    have s1 := fun w => run_fop_det (P := Try.prog) (show nan .f64 (fop .mul .f64 (fwide (pV (i % 64))) 4634204016564240384) = false from Wh.n1) 27 w
    rw [show fop .mul .f64 (fwide (pV (i % 64))) 4634204016564240384 = aT i from rfl] at s1
    have s2 := fun w => run_fop_det (P := Try.prog) (show nan .f64 (fop .sub .f64 (aT i) (floatOfInt .f64 ((i : Int) - 128))) = false from Wh.n2) 27 w
    rw [show fop .sub .f64 (aT i) (floatOfInt .f64 ((i : Int) - 128)) = aD i from rfl] at s2
    have s3 := fun w => run_fop_det (P := Try.prog) (show nan .f64 (fop .add .f64 (aD i) 4666723447345250304) = false from Wh.n3) 27 w
    rw [show fop .add .f64 (aD i) 4666723447345250304 = aE i from rfl] at s3
    have s4 := fun w => run_convert_float_int (P := Try.prog) w 27 2 .f64 .i64 (aE i) _ (by kernel_rfl) Try.underlying2 Wh.w
    have cv := fun w => conv_wide An.nv w
    have cp := fun w => conv_wide Po.np w
    have cr := fun w => conv_wide PhI.nre w
    have og1 := Po.gap
    have og2 := Wh.gap
    have wlo := Wh.lo
    have whi := Wh.hi
    have wmd : ((aW i - 10000).tmod 64 != 0) = false := by rw [Wh.md]; rfl
    have QU := hid Qu.2
    have LI := hid hi
    have LJ := hid hj
    clear Ti Tj Tk PhI PhJ PhK An Po Wh Nr Qu li lj lk
    unfold C1 at CG1 og1
    generalize gapF (fwide (pP (i % 64))) 4607182418800017408 = g1 at *
    generalize gapF (aD i) (floatOfInt .f64 (aW i - 10000)) = g2 at *
    generalize gapF (fwide (pRe (i % 64))) 0 = g3 at *
    generalize fnar (muS (fwide (pRe (i % 64))) (fwide (pIm (i % 64))) (fwide (pRe (j % 64))) (fwide (pIm (j % 64)))) = mr at *
    generalize fnar (muT (fwide (pRe (i % 64))) (fwide (pIm (i % 64))) (fwide (pRe (j % 64))) (fwide (pIm (j % 64)))) = ms at *
    generalize yA (i + 128) = yi at *
    generalize yA (j + 128) = yj at *
    generalize yA (i + j) = yk at *
    generalize fwide (pV (i % 64)) = wv at *
    generalize fwide (pP (i % 64)) = wp at *
    generalize fwide (pRe (i % 64)) = wr at *
    generalize pV (i % 64) = v at *
    generalize pP (i % 64) = p at *
    generalize pRe (i % 64) = re1 at *
    generalize pIm (i % 64) = im1 at *
    generalize pRe (j % 64) = re2 at *
    generalize pIm (j % 64) = im2 at *
    generalize pRe ((i + j) % 64) = re3 at *
    generalize pIm ((i + j) % 64) = im3 at *
    generalize aT i = at1 at *
    generalize aD i = ad1 at *
    generalize aE i = ae1 at *
    generalize aW i = wh at *
    go_wp2_with fail
    refine (PI.out _).mono ?_
    rintro e w' ⟨rfl, n1, rfl⟩
    go_wp2_with fail
    refine (PJ.out _).mono ?_
    rintro e w' ⟨rfl, n2, rfl⟩
    go_wp2_with fail
    refine (PK.out _).mono ?_
    rintro e w' ⟨rfl, n3, rfl⟩
    go_wp2_with fail
    refine (CAn.out _).mono ?_
    rintro e w' ⟨rfl, n4, rfl⟩
    go_wp2_with fail
    refine (CPo.out _).mono ?_
    rintro e w' ⟨rfl, n5, rfl⟩
    go_wp2_with fail
    refine (CG1.out _).mono ?_
    rintro e w' ⟨rfl, n6, rfl⟩
    go_wp2_with fail
    refine (CMu.out _).mono ?_
    rintro e w' ⟨rfl, n7, rfl⟩
    go_wp2_with fail
    refine (CNr.out _).mono ?_
    rintro e w' ⟨rfl, n8, rfl⟩
    go_wp2_with fail
    refine (CG2.out _).mono ?_
    rintro e w' ⟨rfl, n9, rfl⟩
    clear PI PJ PK CAn CPo CG1 CMu CNr CG2 s1 s2 s3 s4 q1 q2 q3 cv cp HA0 HA1 HLong
    generalize n1 + n2 + n3 + n4 + n5 + n6 + n7 + n8 + n9 = nn at *
    have key : Hid (((((i : Int) - 128).tmod 16 == 0) = false) ∨ ((((i : Int) - 128).tmod 16 == 0) = true ∧ (FloatKind.f64.format.order g3 0 != some Ordering.eq) = false) ∨ ((((i : Int) - 128).tmod 16 == 0) = true ∧ (FloatKind.f64.format.order g3 0 != some Ordering.eq) = true ∧ (FloatKind.f64.format.order g3 4607182418800017408 != some Ordering.eq) = false)) := hid (by
      cases hB : (((i : Int) - 128).tmod 16 == 0) with
      | false => exact .inl rfl
      | true =>
        have h := QU.out hB
        cases h0 : (FloatKind.f64.format.order g3 0 != some Ordering.eq) with
        | false => exact .inr (.inl ⟨rfl, rfl⟩)
        | true =>
          rw [h0] at h
          exact .inr (.inr ⟨rfl, rfl, by simpa using h⟩))
    clear QU
    have HXW := hid (fun k => below_drewN (Below.refl w'.heap.size w') k)
    rcases key.out with hB | ⟨hB, h0⟩ | ⟨hB, h0, h1⟩
    · clear key
      go_wp2_with fail
      refine (HB0.out _ (HXW.out _)).mono ?_
      rintro e w2 ⟨⟨s, hs, rfl⟩, rfl⟩
      have HF := hid (tens_at hs)
      have qx := fun w => run_fop_det (P := Try.prog) (show nan .f32 (fop .quo .f32 (floatOfInt .f32 (1 + (s : Int))) 1090519040) = false by rw [HF.out.1]; exact HF.out.2) 24 w
      rw [HF.out.1] at qx
      go_wp2_with fail
      refine (HB1.out _ (HXW.out _)).mono ?_
      rintro e w2 ⟨⟨t, ht, rfl⟩, rfl⟩
      have HG := hid (tens_at ht)
      have qy := fun w => run_fop_det (P := Try.prog) (show nan .f32 (fop .quo .f32 (floatOfInt .f32 (1 + (t : Int))) 1090519040) = false by rw [HG.out.1]; exact HG.out.2) 24 w
      rw [HG.out.1] at qy
      have hmul := mul_fN (show 1 ≤ s + 1 by omega) (show s + 1 ≤ 200 by omega) (show 1 ≤ t + 1 by omega) (show t + 1 ≤ 200 by omega)
      have hp1 : 1 ≤ (s + 1) * (t + 1) := Nat.mul_le_mul (show 1 ≤ s + 1 by omega) (show 1 ≤ t + 1 by omega)
      have hp2 : (s + 1) * (t + 1) ≤ 40000 := Nat.mul_le_mul (show s + 1 ≤ 200 by omega) (show t + 1 ≤ 200 by omega)
      have qm := fun w => run_fop_det (P := Try.prog) (show nan .f32 (fop .mul .f32 (fN (8 * (s + 1))) (fN (8 * (t + 1)))) = false by rw [hmul]; exact nn_fin (pos_fN hp1 hp2).fin) 24 w
      rw [hmul] at qm
      have TX := hid (fun w => ten_calls (show 1 ≤ 8 * (s + 1) by omega) (show 8 * (s + 1) ≤ 40000 by omega) w)
      have TY := hid (fun w => ten_calls (show 1 ≤ 8 * (t + 1) by omega) (show 8 * (t + 1) ≤ 40000 by omega) w)
      have TZ := hid (fun w => ten_calls hp1 hp2 w)
      obtain ⟨k1, k2, k3, b1, b2, b3, e1, e2, e3, i1, i2⟩ := ten_pair (show 1 ≤ s + 1 by omega) (show s + 1 ≤ 200 by omega) (show 1 ≤ t + 1 by omega) (show t + 1 ≤ 200 by omega)
      rw [e1] at TX
      rw [e2] at TY
      rw [e3] at TZ
      clear hmul hp1 hp2 e1 e2 e3 HF HG hs
      generalize fN (8 * (s + 1)) = fx at *
      generalize fN (8 * (t + 1)) = fy at *
      generalize fN ((s + 1) * (t + 1)) = fz at *
      go_wp2_with fail
      refine (TX.out _).mono ?_
      rintro e w2 ⟨rfl, l1, rfl⟩
      go_wp2_with fail
      refine (TY.out _).mono ?_
      rintro e w2 ⟨rfl, l2, rfl⟩
      go_wp2_with fail
      refine (TZ.out _).mono ?_
      rintro e w2 ⟨rfl, l3, rfl⟩
      go_wp2_with fail
      refine (ten_one _).mono ?_
      rintro e w2 ⟨rfl, l4, rfl⟩
      go_wp2_with fail
      refine (AngleOf_calls angOne _).mono ?_
      rintro e w2 ⟨rfl, l5, rfl⟩
      go_wp2_with fail
      refine (quarter_not_zero _).mono ?_
      rintro e w2 ⟨rfl, l6, rfl⟩
      go_wp2
      go_ret
      exact ⟨rfl, below_drewN (Below.refl _ _) _⟩
    · clear key
      go_wp2_with fail
      refine (CG3.out _).mono ?_
      rintro e w1 ⟨rfl, m1, rfl⟩
      go_wp2_with fail
      refine (HB0.out _ (HXW.out _)).mono ?_
      rintro e w2 ⟨⟨s, hs, rfl⟩, rfl⟩
      have HF := hid (tens_at hs)
      have qx := fun w => run_fop_det (P := Try.prog) (show nan .f32 (fop .quo .f32 (floatOfInt .f32 (1 + (s : Int))) 1090519040) = false by rw [HF.out.1]; exact HF.out.2) 24 w
      rw [HF.out.1] at qx
      go_wp2_with fail
      refine (HB1.out _ (HXW.out _)).mono ?_
      rintro e w2 ⟨⟨t, ht, rfl⟩, rfl⟩
      have HG := hid (tens_at ht)
      have qy := fun w => run_fop_det (P := Try.prog) (show nan .f32 (fop .quo .f32 (floatOfInt .f32 (1 + (t : Int))) 1090519040) = false by rw [HG.out.1]; exact HG.out.2) 24 w
      rw [HG.out.1] at qy
      have hmul := mul_fN (show 1 ≤ s + 1 by omega) (show s + 1 ≤ 200 by omega) (show 1 ≤ t + 1 by omega) (show t + 1 ≤ 200 by omega)
      have hp1 : 1 ≤ (s + 1) * (t + 1) := Nat.mul_le_mul (show 1 ≤ s + 1 by omega) (show 1 ≤ t + 1 by omega)
      have hp2 : (s + 1) * (t + 1) ≤ 40000 := Nat.mul_le_mul (show s + 1 ≤ 200 by omega) (show t + 1 ≤ 200 by omega)
      have qm := fun w => run_fop_det (P := Try.prog) (show nan .f32 (fop .mul .f32 (fN (8 * (s + 1))) (fN (8 * (t + 1)))) = false by rw [hmul]; exact nn_fin (pos_fN hp1 hp2).fin) 24 w
      rw [hmul] at qm
      have TX := hid (fun w => ten_calls (show 1 ≤ 8 * (s + 1) by omega) (show 8 * (s + 1) ≤ 40000 by omega) w)
      have TY := hid (fun w => ten_calls (show 1 ≤ 8 * (t + 1) by omega) (show 8 * (t + 1) ≤ 40000 by omega) w)
      have TZ := hid (fun w => ten_calls hp1 hp2 w)
      obtain ⟨k1, k2, k3, b1, b2, b3, e1, e2, e3, i1, i2⟩ := ten_pair (show 1 ≤ s + 1 by omega) (show s + 1 ≤ 200 by omega) (show 1 ≤ t + 1 by omega) (show t + 1 ≤ 200 by omega)
      rw [e1] at TX
      rw [e2] at TY
      rw [e3] at TZ
      clear hmul hp1 hp2 e1 e2 e3 HF HG hs
      generalize fN (8 * (s + 1)) = fx at *
      generalize fN (8 * (t + 1)) = fy at *
      generalize fN ((s + 1) * (t + 1)) = fz at *
      go_wp2_with fail
      refine (TX.out _).mono ?_
      rintro e w2 ⟨rfl, l1, rfl⟩
      go_wp2_with fail
      refine (TY.out _).mono ?_
      rintro e w2 ⟨rfl, l2, rfl⟩
      go_wp2_with fail
      refine (TZ.out _).mono ?_
      rintro e w2 ⟨rfl, l3, rfl⟩
      go_wp2_with fail
      refine (ten_one _).mono ?_
      rintro e w2 ⟨rfl, l4, rfl⟩
      go_wp2_with fail
      refine (AngleOf_calls angOne _).mono ?_
      rintro e w2 ⟨rfl, l5, rfl⟩
      go_wp2_with fail
      refine (quarter_not_zero _).mono ?_
      rintro e w2 ⟨rfl, l6, rfl⟩
      go_wp2
      go_ret
      exact ⟨rfl, below_drewN (Below.refl _ _) _⟩
    · clear key
      go_wp2_with fail
      refine (CG3.out _).mono ?_
      rintro e w1 ⟨rfl, m1, rfl⟩
      go_wp2_with fail
      refine (CG3.out _).mono ?_
      rintro e w1 ⟨rfl, m2, rfl⟩
      go_wp2_with fail
      refine (HB0.out _ (HXW.out _)).mono ?_
      rintro e w2 ⟨⟨s, hs, rfl⟩, rfl⟩
      have HF := hid (tens_at hs)
      have qx := fun w => run_fop_det (P := Try.prog) (show nan .f32 (fop .quo .f32 (floatOfInt .f32 (1 + (s : Int))) 1090519040) = false by rw [HF.out.1]; exact HF.out.2) 24 w
      rw [HF.out.1] at qx
      go_wp2_with fail
      refine (HB1.out _ (HXW.out _)).mono ?_
      rintro e w2 ⟨⟨t, ht, rfl⟩, rfl⟩
      have HG := hid (tens_at ht)
      have qy := fun w => run_fop_det (P := Try.prog) (show nan .f32 (fop .quo .f32 (floatOfInt .f32 (1 + (t : Int))) 1090519040) = false by rw [HG.out.1]; exact HG.out.2) 24 w
      rw [HG.out.1] at qy
      have hmul := mul_fN (show 1 ≤ s + 1 by omega) (show s + 1 ≤ 200 by omega) (show 1 ≤ t + 1 by omega) (show t + 1 ≤ 200 by omega)
      have hp1 : 1 ≤ (s + 1) * (t + 1) := Nat.mul_le_mul (show 1 ≤ s + 1 by omega) (show 1 ≤ t + 1 by omega)
      have hp2 : (s + 1) * (t + 1) ≤ 40000 := Nat.mul_le_mul (show s + 1 ≤ 200 by omega) (show t + 1 ≤ 200 by omega)
      have qm := fun w => run_fop_det (P := Try.prog) (show nan .f32 (fop .mul .f32 (fN (8 * (s + 1))) (fN (8 * (t + 1)))) = false by rw [hmul]; exact nn_fin (pos_fN hp1 hp2).fin) 24 w
      rw [hmul] at qm
      have TX := hid (fun w => ten_calls (show 1 ≤ 8 * (s + 1) by omega) (show 8 * (s + 1) ≤ 40000 by omega) w)
      have TY := hid (fun w => ten_calls (show 1 ≤ 8 * (t + 1) by omega) (show 8 * (t + 1) ≤ 40000 by omega) w)
      have TZ := hid (fun w => ten_calls hp1 hp2 w)
      obtain ⟨k1, k2, k3, b1, b2, b3, e1, e2, e3, i1, i2⟩ := ten_pair (show 1 ≤ s + 1 by omega) (show s + 1 ≤ 200 by omega) (show 1 ≤ t + 1 by omega) (show t + 1 ≤ 200 by omega)
      rw [e1] at TX
      rw [e2] at TY
      rw [e3] at TZ
      clear hmul hp1 hp2 e1 e2 e3 HF HG hs
      generalize fN (8 * (s + 1)) = fx at *
      generalize fN (8 * (t + 1)) = fy at *
      generalize fN ((s + 1) * (t + 1)) = fz at *
      go_wp2_with fail
      refine (TX.out _).mono ?_
      rintro e w2 ⟨rfl, l1, rfl⟩
      go_wp2_with fail
      refine (TY.out _).mono ?_
      rintro e w2 ⟨rfl, l2, rfl⟩
      go_wp2_with fail
      refine (TZ.out _).mono ?_
      rintro e w2 ⟨rfl, l3, rfl⟩
      go_wp2_with fail
      refine (ten_one _).mono ?_
      rintro e w2 ⟨rfl, l4, rfl⟩
      go_wp2_with fail
      refine (AngleOf_calls angOne _).mono ?_
      rintro e w2 ⟨rfl, l5, rfl⟩
      go_wp2_with fail
      refine (quarter_not_zero _).mono ?_
      rintro e w2 ⟨rfl, l6, rfl⟩
      go_wp2
      go_ret
      exact ⟨rfl, below_drewN (Below.refl _ _) _⟩
  · go_wp2
    go_ret
    exact ⟨rfl, Below.refl _ _⟩
end Go.Proofs.Ytmehbfcmmffhmaa.fnCircles
