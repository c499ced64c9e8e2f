/-
  The laws' eqComplex64S: true of two lists of the same complex numbers.
-/
import Derived.Test.YtkbfhooiloaokaaDoorSameFloat
import Derived.Test.YtkbfhooiloaokaaDoorRdC
import Derived.LoopTactic
import Derived.Test.YtkbfhooiloaokaaDoorLikeC
namespace Go.Proofs.YtkbfhooiloaokaaDoor.Num
open Go.RowKit Go.Proofs.Fl
set_option linter.unusedVariables false
theorem run_ftf (w : World) (x : Nat) : ∃ v n, FEq .f64 v (fwide x) ∧ (Conv.floatToFloat .f32 x .f64).run Tryd.prog w = .ok (.float .f64 v) (w.drewN n) := by
  obtain ⟨v, n, hv, hr⟩ := Fl.run_wide (P := Tryd.prog) w 56 61 (by kernel_rfl) Tryd.underlying61 x
  refine ⟨v, n, hv, ?_⟩
  have e : (convert 56 61 (.float .f32 x)).run Tryd.prog w = (Conv.floatToFloat .f32 x .f64).run Tryd.prog w := by
    simp [convert, run_underlying Tryd.underlying56, run_underlying Tryd.underlying61]
  rw [← e]
  exact hr
theorem run_wideC (w : World) (x y : Nat) : ∃ v u n, FEq .f64 v (fwide x) ∧ FEq .f64 u (fwide y) ∧ (convert 64 67 (.complex .f32 x y)).run Tryd.prog w = .ok (.complex .f64 v u) (w.drewN n) := by
  obtain ⟨v, n, hv, hr⟩ := run_ftf w x
  obtain ⟨u, m, hu, hr'⟩ := run_ftf (w.drewN n) y
  refine ⟨v, u, n + m, hv, hu, ?_⟩
  simp [convert, run_underlying Tryd.underlying64, run_underlying Tryd.underlying67, Conv.complexToComplex, hr, hr']
theorem sameComplex_calls (a b c d : Nat) (h : FEq .f64 a c) (h' : FEq .f64 b d) (w : World) : Calls Tryd.prog 56 #[.complex .f64 a b, .complex .f64 c d] w (Ret (.bool true) w) := by
  have H := hid h
  have H' := hid h'
  clear h h'
  go_enter Tryd.func56, Tryd.ntmps56
  go_wp2_with (go_at_call 50; refine (sameFloat_calls _ _ (by first | exact H.out | exact H'.out) _).mono ?_; rintro e w' ⟨rfl, n, rfl⟩)
  go_ret
  exact ⟨rfl, _, rfl⟩
set_option maxHeartbeats 800000 in
theorem eqComplex64S_yes (A B : Option Addr) (n c d : Nat) (xs : List (Nat × Nat)) (hx : xs.length = n) (hn : n ≤ 1048576) (w : World)
    (ha : Rd w w.heap.size A (c64s xs)) (hb : Rd w w.heap.size B (c64s xs)) :
    Calls Tryd.prog 32 #[.slice A n c, .slice B n d] w (Ret (.bool true) w) := by
  have HX := hid hx
  clear hx
  go_enter Tryd.func32, Tryd.ntmps32
  go_wp2
  go_loopw [5] (fun i wr => ∃ k m : Nat, k ≤ n ∧ i = .int .i64 k ∧ wr = w.drewN m) (fun i _ => n - (intOf i).toNat)
  case atStart => exact ⟨0, 0, Nat.zero_le _, rfl, rfl⟩
  case round =>
    obtain ⟨k, m, hk, rfl, rfl⟩ := hrel
    by_cases hlt : k < n
    · have hkx : k < xs.length := by have := HX.out; omega
      obtain ⟨b1, o1, rfl, hb1, hc1⟩ := c64s_at ha hkx
      obtain ⟨b2, o2, rfl, hb2, hc2⟩ := c64s_at hb hkx
      generalize xs[k] = z at *
      obtain ⟨x, y⟩ := z
      simp only at hc1 hc2
      go_wp2
      refine Flc.wp_region_like (by kernel_rfl) (by kernel_rfl) ?_
      refine Flc.like_move (.slice (some ⟨b1, o1, none⟩) n c) rfl rfl ?_
      simp only [Act.put, List.setIfInBounds_toArray, List.set_cons_zero, List.set_cons_succ]
      refine Flc.like_move (.int .i64 k) rfl rfl ?_
      simp only [Act.put, List.setIfInBounds_toArray, List.set_cons_zero, List.set_cons_succ]
      refine Flc.like_two (.tmp 17) (.tmp 18) (v := .pointer (some ⟨b1, o1 + k, none⟩)) rfl rfl rfl rfl rfl (fun w hC ρ h1 h2 => ?_) ?_
      · simp only [execOp, h1, h2]
        go_simp
      simp only [Act.put, List.setIfInBounds_toArray, List.set_cons_zero, List.set_cons_succ]
      refine Flc.like_one (.tmp 19) (v := .complex .f32 x y) rfl rfl rfl (fun w' hC ρ h1 => ?_) ?_
      · obtain ⟨n', rfl⟩ := hC
        simp only [execOp, h1]
        go_simp
      simp only [Act.put, List.setIfInBounds_toArray, List.set_cons_zero, List.set_cons_succ]
      refine Flc.like_wideC (r := x) (s := y) rfl rfl run_wideC ?_
      simp only [Act.put, List.setIfInBounds_toArray, List.set_cons_zero, List.set_cons_succ]
      refine Flc.like_move (.slice (some ⟨b2, o2, none⟩) n d) rfl rfl ?_
      simp only [Act.put, List.setIfInBounds_toArray, List.set_cons_zero, List.set_cons_succ]
      refine Flc.like_move (.int .i64 k) rfl rfl ?_
      simp only [Act.put, List.setIfInBounds_toArray, List.set_cons_zero, List.set_cons_succ]
      refine Flc.like_two (.tmp 22) (.tmp 23) (v := .pointer (some ⟨b2, o2 + k, none⟩)) rfl rfl rfl rfl rfl (fun w hC ρ h1 h2 => ?_) ?_
      · simp only [execOp, h1, h2]
        go_simp
      simp only [Act.put, List.setIfInBounds_toArray, List.set_cons_zero, List.set_cons_succ]
      refine Flc.like_one (.tmp 24) (v := .complex .f32 x y) rfl rfl rfl (fun w' hC ρ h1 => ?_) ?_
      · obtain ⟨n', rfl⟩ := hC
        simp only [execOp, h1]
        go_simp
      simp only [Act.put, List.setIfInBounds_toArray, List.set_cons_zero, List.set_cons_succ]
      refine Flc.like_wideC (r := x) (s := y) rfl rfl run_wideC ?_
      simp only [Act.put, List.setIfInBounds_toArray, List.set_cons_zero, List.set_cons_succ]
      refine Flc.like_callC2 (fn := Tryd.f56) (r := fwide x) (s := fwide x) (p := fwide y) (q := fwide y) (v := .bool true) rfl rfl rfl Tryd.func56 (by kernel_rfl) (by kernel_rfl) (fun r p s q w h1 h2 h3 h4 => sameComplex_calls r p s q (h1.trans h3.symm) (h2.trans h4.symm) w) ?_
      simp only [Act.put, List.setIfInBounds_toArray, List.set_cons_zero, List.set_cons_succ]
      refine Flc.like_one (.tmp 27) (v := .bool false) rfl rfl rfl (fun w' hC ρ h1 => ?_) ?_
      · simp only [execOp, h1]
        go_simp
      simp only [Act.put, List.setIfInBounds_toArray, List.set_cons_zero, List.set_cons_succ]
      refine Flc.wpLike_nil ?_
      intro a' nq ha
      obtain ⟨l', rfl, hl⟩ := ha.lit
      clear ha
      repeat (have h2 := hl.cons; clear hl; obtain ⟨u', l', rfl, hu, hl⟩ := h2; first | (obtain rfl := hu.eq rfl; clear hu) | skip)
      obtain rfl := hl.nil
      go_wp2
      go_roundw
      case rel => exact ⟨k + 1, _, hlt, by go_num, rfl⟩
      case measure => simp [intOf]; omega
    · go_wp2
      go_ret
      exact ⟨rfl, _, rfl⟩
end Go.Proofs.YtkbfhooiloaokaaDoor.Num
