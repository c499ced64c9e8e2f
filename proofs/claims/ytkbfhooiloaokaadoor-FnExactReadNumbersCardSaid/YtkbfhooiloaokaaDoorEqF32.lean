/-
  The laws' eqFloat32S: true of two lists of the same numbers, up to which NaN.
-/
import Derived.Test.YtkbfhooiloaokaaDoorSameFloat
import Derived.Test.YtkbfhooiloaokaaDoorMem
import Derived.LoopTactic
import Derived.Test.YtkbfhooiloaokaaDoorLike
namespace Go.Proofs.YtkbfhooiloaokaaDoor.Num
open Go.RowKit Go.Proofs.Fl
set_option linter.unusedVariables false

set_option maxHeartbeats 800000 in
theorem eqFloat32S_yes (A B : Option Addr) (n c d : Nat) (xs ys : List Nat) (hx : xs.length = n) (hy : ys.length = n) (hn : n ≤ 1048576) (w : World)
    (ha : Rd w w.heap.size A (f32s xs)) (hb : Rd w w.heap.size B (f32s ys)) (hs : ∀ i (h1 : i < xs.length) (h2 : i < ys.length), FEq .f32 xs[i] ys[i]) :
    Calls Tryd.prog 25 #[.slice A n c, .slice B n d] w (Ret (.bool true) w) := by
  have HX := hid hx
  have HY := hid hy
  have HS := hid hs
  clear hx hy hs
  go_enter Tryd.func25, Tryd.ntmps25
  go_wp2
  go_loopw [5] (fun i wr => ∃ k m : Nat, k ≤ n ∧ i = .int .i64 k ∧ wr = w.drewN m) (fun i _ => n - (intOf i).toNat)
  case atStart => exact ⟨0, 0, Nat.zero_le _, rfl, rfl⟩
  case round =>
    obtain ⟨k, m, hk, rfl, rfl⟩ := hrel
    by_cases hlt : k < n
    · have hkx : k < xs.length := by have := HX.out; omega
      have hky : k < ys.length := by have := HY.out; omega
      have HF := hid (HS.out k hkx hky)
      obtain ⟨b1, o1, rfl, hb1, hc1⟩ := f32s_at ha hkx
      obtain ⟨b2, o2, rfl, hb2, hc2⟩ := f32s_at hb hky
      generalize xs[k] = x at *
      generalize ys[k] = y at *
      go_wp2
      refine wp_region_like (by kernel_rfl) (by kernel_rfl) ?_
      refine like_move (.slice (some ⟨b1, o1, none⟩) n c) rfl rfl ?_
      simp only [Act.put, List.setIfInBounds_toArray, List.set_cons_zero, List.set_cons_succ]
      refine like_move (.int .i64 k) rfl rfl ?_
      simp only [Act.put, List.setIfInBounds_toArray, List.set_cons_zero, List.set_cons_succ]
      refine like_two (.tmp 17) (.tmp 18) (v := .pointer (some ⟨b1, o1 + k, none⟩)) rfl rfl rfl rfl rfl (fun w hC ρ h1 h2 => ?_) ?_
      · simp only [execOp, h1, h2]
        go_simp
      simp only [Act.put, List.setIfInBounds_toArray, List.set_cons_zero, List.set_cons_succ]
      refine like_one (.tmp 19) (v := .float .f32 x) rfl rfl rfl (fun w' hC ρ h1 => ?_) ?_
      · obtain ⟨n', rfl⟩ := hC
        simp only [execOp, h1]
        go_simp
      simp only [Act.put, List.setIfInBounds_toArray, List.set_cons_zero, List.set_cons_succ]
      refine like_wide (r := x) rfl rfl (by kernel_rfl) Tryd.underlying61 ?_
      simp only [Act.put, List.setIfInBounds_toArray, List.set_cons_zero, List.set_cons_succ]
      refine like_move (.slice (some ⟨b2, o2, none⟩) n d) rfl rfl ?_
      simp only [Act.put, List.setIfInBounds_toArray, List.set_cons_zero, List.set_cons_succ]
      refine like_move (.int .i64 k) rfl rfl ?_
      simp only [Act.put, List.setIfInBounds_toArray, List.set_cons_zero, List.set_cons_succ]
      refine like_two (.tmp 22) (.tmp 23) (v := .pointer (some ⟨b2, o2 + k, none⟩)) rfl rfl rfl rfl rfl (fun w hC ρ h1 h2 => ?_) ?_
      · simp only [execOp, h1, h2]
        go_simp
      simp only [Act.put, List.setIfInBounds_toArray, List.set_cons_zero, List.set_cons_succ]
      refine like_one (.tmp 24) (v := .float .f32 y) rfl rfl rfl (fun w' hC ρ h1 => ?_) ?_
      · obtain ⟨n', rfl⟩ := hC
        simp only [execOp, h1]
        go_simp
      simp only [Act.put, List.setIfInBounds_toArray, List.set_cons_zero, List.set_cons_succ]
      refine like_wide (r := y) rfl rfl (by kernel_rfl) Tryd.underlying61 ?_
      simp only [Act.put, List.setIfInBounds_toArray, List.set_cons_zero, List.set_cons_succ]
      refine like_call2 (fn := Tryd.f50) (r := fwide x) (s := fwide y) (v := .bool true) rfl rfl rfl Tryd.func50 (by kernel_rfl) (by kernel_rfl) (fun r s w h1 h2 => sameFloat_calls r s (h1.trans (by rw [fwide_congr HF.out]; exact h2.symm)) w) ?_
      simp only [Act.put, List.setIfInBounds_toArray, List.set_cons_zero, List.set_cons_succ]
      refine like_one (.tmp 27) (v := .bool false) rfl rfl rfl (fun w' hC ρ h1 => ?_) ?_
      · simp only [execOp, h1]
        go_simp
      simp only [Act.put, List.setIfInBounds_toArray, List.set_cons_zero, List.set_cons_succ]
      refine wpLike_nil ?_
      intro a' nq ha
      obtain ⟨l', rfl, hl⟩ := ha.lit
      clear ha
      repeat (have h2 := hl.cons; clear hl; obtain ⟨u', l', rfl, hu, hl⟩ := h2; first | (obtain rfl := hu.eq rfl; clear hu) | skip)
      obtain rfl := hl.nil
      go_wp2
      go_roundw
      case rel => exact ⟨k + 1, _, hlt, by go_num, rfl⟩
      case measure => simp [intOf]; omega
    · go_wp2
      go_ret
      exact ⟨rfl, _, rfl⟩
end Go.Proofs.YtkbfhooiloaokaaDoor.Num
