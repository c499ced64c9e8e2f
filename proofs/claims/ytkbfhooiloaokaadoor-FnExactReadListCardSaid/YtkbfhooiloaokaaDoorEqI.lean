/-
  The laws' eqInt64S: true of two lists of the same whole numbers.
-/
import Derived.Test.YtkbfhooiloaokaaDoorExt
import Derived.Test.YtkbfhooiloaokaaDoorMem
import Derived.LoopTactic
import Derived.Test.YtkbfhooiloaokaaDoorLike
namespace Go.Proofs.YtkbfhooiloaokaaDoor.Num
open Go.RowKit Go.Proofs.Fl
set_option linter.unusedVariables false
set_option maxHeartbeats 800000 in
theorem eqInt64S_yes (A B : Option Addr) (n c d : Nat) (xs : List Int) (hx : xs.length = n) (hn : n ≤ 1048576) (w : World)
    (ha : Rd w w.heap.size A (i64s xs)) (hb : Rd w w.heap.size B (i64s xs)) :
    Calls Tryd.prog 17 #[.slice A n c, .slice B n d] w (Ret (.bool true) w) := by
  have HX := hid hx
  clear hx
  go_enter Tryd.func17, Tryd.ntmps17
  go_wp2
  go_loopw [5] (fun i wr => ∃ k m : Nat, k ≤ n ∧ i = .int .i64 k ∧ wr = w.drewN m) (fun i _ => n - (intOf i).toNat)
  case atStart => exact ⟨0, 0, Nat.zero_le _, rfl, rfl⟩
  case round =>
    obtain ⟨k, m, hk, rfl, rfl⟩ := hrel
    by_cases hlt : k < n
    · have hkx : k < xs.length := by have := HX.out; omega
      obtain ⟨b1, o1, rfl, hb1, hc1⟩ := i64s_at ha hkx
      obtain ⟨b2, o2, rfl, hb2, hc2⟩ := i64s_at hb hkx
      generalize xs[k] = x at *
      go_wp2
      refine wp_region_like (by kernel_rfl) (by kernel_rfl) ?_
      refine like_move (.slice (some ⟨b1, o1, none⟩) n c) rfl rfl ?_
      simp only [Act.put, List.setIfInBounds_toArray, List.set_cons_zero, List.set_cons_succ]
      refine like_move (.int .i64 k) rfl rfl ?_
      simp only [Act.put, List.setIfInBounds_toArray, List.set_cons_zero, List.set_cons_succ]
      refine like_two (.tmp 17) (.tmp 18) (v := .pointer (some ⟨b1, o1 + k, none⟩)) rfl rfl rfl rfl rfl (fun w hC ρ h1 h2 => ?_) ?_
      · simp only [execOp, h1, h2]
        go_simp
      simp only [Act.put, List.setIfInBounds_toArray, List.set_cons_zero, List.set_cons_succ]
      refine like_one (.tmp 19) (v := .int .i64 x) rfl rfl rfl (fun w' hC ρ h1 => ?_) ?_
      · obtain ⟨n', rfl⟩ := hC
        simp only [execOp, h1]
        go_simp
      simp only [Act.put, List.setIfInBounds_toArray, List.set_cons_zero, List.set_cons_succ]
      refine like_move (.slice (some ⟨b2, o2, none⟩) n d) rfl rfl ?_
      simp only [Act.put, List.setIfInBounds_toArray, List.set_cons_zero, List.set_cons_succ]
      refine like_move (.int .i64 k) rfl rfl ?_
      simp only [Act.put, List.setIfInBounds_toArray, List.set_cons_zero, List.set_cons_succ]
      refine like_two (.tmp 21) (.tmp 22) (v := .pointer (some ⟨b2, o2 + k, none⟩)) rfl rfl rfl rfl rfl (fun w hC ρ h1 h2 => ?_) ?_
      · simp only [execOp, h1, h2]
        go_simp
      simp only [Act.put, List.setIfInBounds_toArray, List.set_cons_zero, List.set_cons_succ]
      refine like_one (.tmp 23) (v := .int .i64 x) rfl rfl rfl (fun w' hC ρ h1 => ?_) ?_
      · obtain ⟨n', rfl⟩ := hC
        simp only [execOp, h1]
        go_simp
      simp only [Act.put, List.setIfInBounds_toArray, List.set_cons_zero, List.set_cons_succ]
      refine like_two (.tmp 20) (.tmp 24) (v := .bool false) rfl rfl rfl rfl rfl (fun w hC ρ h1 h2 => ?_) ?_
      · simp only [execOp, h1, h2]
        go_simp
      simp only [Act.put, List.setIfInBounds_toArray, List.set_cons_zero, List.set_cons_succ]
      refine wpLike_nil ?_
      intro a' nq ha
      obtain ⟨l', rfl, hl⟩ := ha.lit
      clear ha
      repeat (have h2 := hl.cons; clear hl; obtain ⟨u', l', rfl, hu, hl⟩ := h2; first | (obtain rfl := hu.eq rfl; clear hu) | skip)
      obtain rfl := hl.nil
      go_wp2
      go_roundw
      case rel => exact ⟨k + 1, _, hlt, by go_num, rfl⟩
      case measure => simp [intOf]; omega
    · go_wp2
      go_ret
      exact ⟨rfl, _, rfl⟩
end Go.Proofs.YtkbfhooiloaokaaDoor.Num
