/-
  The law on powers, walked over the told powers, sums and logarithms.
-/
import Derived.Test.YtmehbfcmmffhmaaExpI
import Derived.Test.YtmehbfcmmffhmaaPowPair
namespace Go.Proofs.Ytmehbfcmmffhmaa.fnPowers
open Go.RowKit Go.Proofs.Fl Go.Proofs.Ytmehbfcmmffhmaa.Num
set_option linter.unusedVariables false
theorem LogNumber_is {x l : Nat} (h : Pos32 x) (hv : fnar (logF (fwide x)) = l) (hn : nan .f32 l = false) (w : World) : Calls Try.prog 9 #[.float .f32 x] w (Ret (.float .f32 l) w) :=
  (LogNumber_pos h w).mono (by
    rintro e w' ⟨v, n, rfl, hf, rfl⟩
    rw [hv] at hf
    obtain rfl := hf.eq hn
    exact ⟨rfl, n, rfl⟩)
theorem e64 : eT 64 = 1065353216 := by decide +kernel
theorem x64 : xT 64 = 0 := by decide +kernel
theorem l32 : lT 32 = 0 := by decide +kernel
theorem e_all : (List.range 129).all (fun m => !nan .f32 (eT m)) = true := by decide +kernel
theorem e_at {m : Nat} (h : m < 129) : nan .f32 (eT m) = false := by
  have := List.all_eq_true.1 e_all m (List.mem_range.2 h)
  simpa using this
theorem exp0 (w : World) : Calls Try.prog 7 #[.float .f32 0] w (Ret (.float .f32 1065353216) w) := by
  have h := ExpNumber_calls (xT 64) (eT 64) (exp_at (by decide)) w
  rw [x64, e64] at h
  exact h
theorem log1 (w : World) : Calls Try.prog 9 #[.float .f32 1065353216] w (Ret (.float .f32 0) w) := by
  have h := log_at (show 32 < 65 by decide)
  have h2 := LogNumber_is ⟨h.fin, h.pos, h.sign⟩ h.val h.nl w
  rw [show eT (32 + 32) = 1065353216 from e64, l32] at h2
  exact h2
set_option maxRecDepth 100000 in
set_option maxHeartbeats 3200000 in
theorem walk (AA : Option Addr) (n c : Nat) (xs : List Int) (hx : xs.length = n) (hnc : n ≤ c) (hc : c ≤ maxLen) {w : World} (ha : Rd w w.heap.size AA (xs.map (Value.int .u8))) (hwf : ∀ z ∈ xs, (Lit.int .u8 z).wf = true)
    (BB : Option Addr) (m d : Nat) (ys : List Int) (hy : ys.length = m) (hmd : m ≤ d) (hd : d ≤ maxLen) (hb : Rd w w.heap.size BB (ys.map (Value.int .u8))) (hwf2 : ∀ z ∈ ys, (Lit.int .u8 z).wf = true) :
    Calls Try.prog 3 #[.slice AA n c, .slice BB m d] w fun e w' => e = .returned (.bool true) ∧ Below w.heap.size w w' := by
  have HA := hid (b10At_calls AA n c xs hx hwf 0 65 (by decide) (by decide) (by decide) w ha)
  have HB := hid (b10At_calls BB m d ys hy hwf2 0 65 (by decide) (by decide) (by decide) w hb)
  have HLong := hid (b10Long_calls AA BB n c m d)
  clear hx hnc hc ha hwf hy hmd hd hb hwf2
  go_enter Try.func3, Try.ntmps3
  go_wp2_with fail
  refine (HLong.out _).mono ?_
  rintro e w' ⟨⟨b, rfl⟩, rfl⟩
  cases b
  · go_wp2_with fail
    refine HA.out.mono ?_
    rintro e w' ⟨⟨i, hi, rfl⟩, rfl⟩
    obtain ⟨x1, x2⟩ := x_at hi
    have q1 := fun w => run_fop_det (P := Try.prog) (show nan .f32 (fop .quo .f32 (floatOfInt .f32 ((i : Int) - 32)) 1090519040) = false by rw [x1]; exact x2) 24 w
    rw [x1] at q1
    go_wp2_with fail
    refine HB.out.mono ?_
    rintro e w' ⟨⟨j, hj, rfl⟩, rfl⟩
    obtain ⟨y1, y2⟩ := x_at hj
    obtain ⟨s1, s2⟩ := sum_at hi hj
    have q2 := fun w => run_fop_det (P := Try.prog) (show nan .f32 (fop .quo .f32 (floatOfInt .f32 ((j : Int) - 32)) 1090519040) = false by rw [y1]; exact y2) 24 w
    rw [y1] at q2
    have q3 := fun w => run_fop_det (P := Try.prog) (show nan .f32 (fop .add .f32 (xT (i + 32)) (xT (j + 32))) = false by rw [s1]; exact s2) 24 w
    rw [s1] at q3
    have lg := log_at hi
    have pr := pair_at hi hj
    have lgj := (log_at hj).ne
    have EA := hid (fun w => ExpNumber_calls _ _ (exp_at (show i + 32 < 129 by omega)) w)
    have EB := hid (fun w => ExpNumber_calls _ _ (exp_at (show j + 32 < 129 by omega)) w)
    have EC := hid (fun w => ExpNumber_calls _ _ (exp_at (show i + j < 129 by omega)) w)
    have LA := hid (fun w => LogNumber_is ⟨lg.fin, lg.pos, lg.sign⟩ lg.val lg.nl w)
    have GA := hid (fun w => b10Gap_calls _ _ lg.ngap w)
    have GB := hid (fun w => b10Gap_calls _ _ pr.ng w)
    have E0 := hid exp0
    have L1 := hid log1
    have nc := e_at (show i + j < 129 by omega)
    have w1 := fun w => conv_wide lg.nl w
    have w2 := fun w => conv_wide x2 w
    have w3 := fun w => conv_wide lg.ne w
    have w4 := fun w => conv_wide lgj w
    have w5 := fun w => conv_wide nc w
    have m1 := fun w => run_fop_det (P := Try.prog) pr.nm 27 w
    have m2 := fun w => run_fop_det (P := Try.prog) (show nan .f64 (fop .mul .f64 4562254508917369340 (fwide (eT (i + j)))) = false from pr.nt) 27 w
    have o1 := lg.gap
    have o2 := pr.gap
    rw [show fop .mul .f64 C001 (fwide (eT (i + j))) = fop .mul .f64 4562254508917369340 (fwide (eT (i + j))) from rfl] at o2
    have o3 := lg.gt
    have o4 : (FloatKind.f32.format.order 1065353216 1065353216 == some Ordering.eq) = true := by decide +kernel
    have o5 : (FloatKind.f32.format.order 0 0 == some Ordering.eq) = true := by decide +kernel
    clear lg pr lgj nc x1 x2 y1 y2 s1 s2
    generalize gapF (fwide (lT i)) (fwide (xT (i + 32))) = g1 at *
    generalize gapF (fop .mul .f64 (fwide (eT (i + 32))) (fwide (eT (j + 32)))) (fwide (eT (i + j))) = g2 at *
    generalize fop .mul .f64 4562254508917369340 (fwide (eT (i + j))) = tt at *
    generalize fop .mul .f64 (fwide (eT (i + 32))) (fwide (eT (j + 32))) = mm at *
    generalize fwide (lT i) = wl at *
    generalize fwide (xT (i + 32)) = wx at *
    generalize fwide (eT (i + j)) = wc at *
    generalize fwide (eT (i + 32)) = wa at *
    generalize fwide (eT (j + 32)) = wb at *
    generalize eT (i + 32) = a at *
    generalize eT (j + 32) = b at *
    generalize eT (i + j) = cc at *
    generalize lT i = l at *
    generalize xT (i + 32) = x at *
    generalize xT (j + 32) = y at *
    generalize xT (i + j) = z at *
    go_wp2_with fail
    refine (EA.out _).mono ?_
    rintro e w' ⟨rfl, n1, rfl⟩
    go_wp2_with fail
    refine (EB.out _).mono ?_
    rintro e w' ⟨rfl, n2, rfl⟩
    go_wp2_with fail
    refine (EC.out _).mono ?_
    rintro e w' ⟨rfl, n3, rfl⟩
    go_wp2_with fail
    refine (LA.out _).mono ?_
    rintro e w' ⟨rfl, n4, rfl⟩
    go_wp2_with fail
    refine (GA.out _).mono ?_
    rintro e w' ⟨rfl, n5, rfl⟩
    go_wp2_with fail
    refine (GB.out _).mono ?_
    rintro e w' ⟨rfl, n6, rfl⟩
    go_wp2_with fail
    refine (E0.out _).mono ?_
    rintro e w' ⟨rfl, n7, rfl⟩
    go_wp2_with fail
    refine (L1.out _).mono ?_
    rintro e w' ⟨rfl, n8, rfl⟩
    go_wp2_with fail
    go_ret
    exact ⟨rfl, below_drewN (Below.refl _ _) _⟩
  · go_wp2
    go_ret
    exact ⟨rfl, Below.refl _ _⟩
end Go.Proofs.Ytmehbfcmmffhmaa.fnPowers
