/-
  The sum of a list of float32, from left to right, by both texts.
-/
import Derived.Test.YtpdenbflibplfaaExt
import Derived.Test.YtpdenbflibplfaaMem
import Derived.LoopTactic
namespace Go.Proofs.Ytpdenbflibplfaa.Num
open Go.RowKit Go.Proofs.Fl
set_option linter.unusedVariables false

def sumF (xs : List Nat) : Nat := xs.foldl (fop .add .f32) 0
theorem sumF_snoc (xs : List Nat) (k : Nat) (h : k < xs.length) : sumF (xs.take (k + 1)) = fop .add .f32 (sumF (xs.take k)) xs[k] := by
  rw [List.take_succ_eq_append_getElem h]
  unfold sumF
  rw [List.foldl_append]
  rfl
theorem sumF_end (xs : List Nat) (n k : Nat) (hn : xs.length = n) (hk : n ≤ k) : sumF (xs.take k) = sumF xs := by rw [List.take_of_length_le (by omega)]
theorem sumF_step {xs : List Nat} {k v u : Nat} (hk : k < xs.length) (hv : FEq .f32 v (sumF (xs.take k))) (hu : FEq .f32 u (fop .add .f32 v xs[k])) : FEq .f32 u (sumF (xs.take (k + 1))) := by
  rw [sumF_snoc xs k hk, ← fop_congr hv (FEq.refl _ _)]
  exact hu

set_option maxHeartbeats 400000 in
theorem l01Sum_calls (A : Option Addr) (n c : Nat) (xs : List Nat) (hx : xs.length = n) (hn : n ≤ 1048576) (w : World) (ha : Rd w w.heap.size A (f32s xs)) :
    Calls Try.prog 59 #[.slice A n c] w (RetF .f32 (sumF xs) w) := by
  have HX := hid hx
  clear hx
  go_enter Try.func59, Try.ntmps59
  go_wp2
  go_loopw [3, 4] (fun s i wr => ∃ k m v : Nat, k ≤ n ∧ i = .int .i64 k ∧ wr = w.drewN m ∧ s = .float .f32 v ∧ FEq .f32 v (sumF (xs.take k))) (fun _ i _ => n - (intOf i).toNat)
  case atStart => exact ⟨0, 0, 0, Nat.zero_le _, rfl, rfl, rfl, FEq.refl _ _⟩
  case round =>
    obtain ⟨k, m, v, hk, rfl, rfl, rfl, hv⟩ := hrel
    by_cases hlt : k < n
    · have hkx : k < xs.length := by have := HX.out; omega
      have HF := hid fun u hu => sumF_step (u := u) hkx hv hu
      obtain ⟨b1, o1, rfl, hb1, hc1⟩ := f32s_at ha hkx
      generalize xs[k] = x at *
      clear hv
      go_wp2_with (refine wpList_fop rfl rfl rfl rfl ?_; intro u q hu)
      go_roundw
      case rel => exact ⟨k + 1, _, _, hlt, by go_num, rfl, rfl, HF.out _ ‹_›⟩
      case measure => simp [intOf]; omega
    · have HE := hid (sumF_end xs n k HX.out (by omega))
      have HV := hid hv
      clear hv
      go_wp2
      go_ret
      exact ⟨v, _, rfl, by rw [← HE.out]; exact HV.out, rfl⟩
set_option maxHeartbeats 400000 in
theorem SumNumbers_yes (A : Option Addr) (n c : Nat) (xs : List Nat) (hx : xs.length = n) (hn : n ≤ 256) (w : World) (ha : Rd w w.heap.size A (f32s xs)) :
    Calls Try.prog 26 #[.slice A n c] w (RetFB .f32 (sumF xs) true w) := by
  have HX := hid hx
  clear hx
  go_enter Try.func26, Try.ntmps26
  go_wp2
  go_loopw [4, 12] (fun s i wr => ∃ k m v : Nat, k ≤ n ∧ i = .int .i64 k ∧ wr = w.drewN m ∧ s = .float .f32 v ∧ FEq .f32 v (sumF (xs.take k))) (fun _ i _ => n - (intOf i).toNat)
  case atStart => exact ⟨0, 0, 0, Nat.zero_le _, rfl, rfl, rfl, FEq.refl _ _⟩
  case round =>
    obtain ⟨k, m, v, hk, rfl, rfl, rfl, hv⟩ := hrel
    by_cases hlt : k < n
    · have hkx : k < xs.length := by have := HX.out; omega
      have HF := hid fun u hu => sumF_step (u := u) hkx hv hu
      obtain ⟨b1, o1, rfl, hb1, hc1⟩ := f32s_at ha hkx
      generalize xs[k] = x at *
      clear hv
      go_wp2_with (refine wpList_fop rfl rfl rfl rfl ?_; intro u q hu)
      go_roundw
      case rel => exact ⟨k + 1, _, _, hlt, by go_num, rfl, rfl, HF.out _ ‹_›⟩
      case measure => simp [intOf]; omega
    · have HE := hid (sumF_end xs n k HX.out (by omega))
      have HV := hid hv
      clear hv
      go_wp2
      go_ret2
      exact ⟨v, _, rfl, by rw [← HE.out]; exact HV.out, rfl⟩
theorem SumNumbers_no (A : Option Addr) (n c : Nat) (hn : 256 < n) (w : World) :
    Calls Try.prog 26 #[.slice A n c] w (RetFB .f32 0 false w) := by
  go_enter Try.func26, Try.ntmps26
  go_wp2
  go_ret2
  exact ⟨0, 0, rfl, FEq.refl _ _, rfl⟩
end Go.Proofs.Ytpdenbflibplfaa.Num
