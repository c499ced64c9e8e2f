/-
  The sum of the products of two lists of float32, from left to right, by both texts.
-/
import Derived.Test.YtpdenbflibplfaaExt
import Derived.Test.YtpdenbflibplfaaMem
import Derived.Test.YtpdenbflibplfaaLike
import Derived.LoopTactic
namespace Go.Proofs.Ytpdenbflibplfaa.Num
open Go.RowKit Go.Proofs.Fl
set_option linter.unusedVariables false

def dotF : List Nat → List Nat → Nat → Nat
  | x :: xs, y :: ys, s => dotF xs ys (fop .add .f32 s (fop .mul .f32 x y))
  | _, _, s => s
theorem dotF_snoc : ∀ (xs ys : List Nat) (s : Nat) (k : Nat) (h1 : k < xs.length) (h2 : k < ys.length),
    dotF (xs.take (k + 1)) (ys.take (k + 1)) s = fop .add .f32 (dotF (xs.take k) (ys.take k) s) (fop .mul .f32 xs[k] ys[k])
  | x :: xs, y :: ys, s, 0, _, _ => by simp [dotF]
  | x :: xs, y :: ys, s, k + 1, h1, h2 => by
    simp only [List.take_succ_cons, dotF, List.getElem_cons_succ]
    exact dotF_snoc xs ys _ k (by simpa using h1) (by simpa using h2)
theorem dotF_end (xs ys : List Nat) (n k : Nat) (hx : xs.length = n) (hy : ys.length = n) (hk : n ≤ k) : dotF (xs.take k) (ys.take k) 0 = dotF xs ys 0 := by
  rw [List.take_of_length_le (by omega), List.take_of_length_le (by omega)]
theorem dotF_step {xs ys : List Nat} {k v u : Nat} (hk : k < xs.length) (hl : k < ys.length) (hv : FEq .f32 v (dotF (xs.take k) (ys.take k) 0))
    (hu : FEq .f32 u (fop .add .f32 v (fop .mul .f32 xs[k] ys[k]))) : FEq .f32 u (dotF (xs.take (k + 1)) (ys.take (k + 1)) 0) := by
  rw [dotF_snoc xs ys 0 k hk hl, ← fop_congr hv (FEq.refl _ _)]
  exact hu

set_option maxHeartbeats 800000 in
theorem l01Dot_calls (A B : Option Addr) (n c d : Nat) (xs ys : List Nat) (hx : xs.length = n) (hy : ys.length = n) (hn : n ≤ 1048576) (w : World) (ha : Rd w w.heap.size A (f32s xs)) (hb : Rd w w.heap.size B (f32s ys)) :
    Calls Try.prog 58 #[.slice A n c, .slice B n d] w (RetF .f32 (dotF xs ys 0) w) := by
  have HX := hid hx
  have HY := hid hy
  clear hx hy
  go_enter Try.func58, Try.ntmps58
  go_wp2
  go_loopw [5, 6] (fun s i wr => ∃ k m v : Nat, k ≤ n ∧ i = .int .i64 k ∧ wr = w.drewN m ∧ s = .float .f32 v ∧ FEq .f32 v (dotF (xs.take k) (ys.take k) 0)) (fun _ i _ => n - (intOf i).toNat)
  case atStart => exact ⟨0, 0, 0, Nat.zero_le _, rfl, rfl, rfl, by cases xs <;> cases ys <;> exact FEq.refl _ _⟩
  case round =>
    obtain ⟨k, m, v, hk, rfl, rfl, rfl, hv⟩ := hrel
    by_cases hlt : k < n
    · have hkx : k < xs.length := by have := HX.out; omega
      have hky : k < ys.length := by have := HY.out; omega
      have HF := hid fun u hu => dotF_step (u := u) hkx hky hv hu
      obtain ⟨b1, o1, rfl, hb1, hc1⟩ := f32s_at ha hkx
      obtain ⟨b2, o2, rfl, hb2, hc2⟩ := f32s_at hb hky
      generalize xs[k] = x at *
      generalize ys[k] = y at *
      clear hv
      go_wp2
      refine wp_region_like (by kernel_rfl) (by kernel_rfl) ?_
      refine like_move (.float .f32 v) rfl rfl ?_
      simp only [Act.put, List.setIfInBounds_toArray, List.set_cons_zero, List.set_cons_succ]
      refine like_move (.slice (some ⟨b1, o1, none⟩) n c) rfl rfl ?_
      simp only [Act.put, List.setIfInBounds_toArray, List.set_cons_zero, List.set_cons_succ]
      refine like_move (.int .i64 k) rfl rfl ?_
      simp only [Act.put, List.setIfInBounds_toArray, List.set_cons_zero, List.set_cons_succ]
      refine like_two (.tmp 14) (.tmp 15) (v := .pointer (some ⟨b1, o1 + k, none⟩)) rfl rfl rfl rfl rfl (fun w hC ρ h1 h2 => ?_) ?_
      · simp only [execOp, h1, h2]
        go_simp
      simp only [Act.put, List.setIfInBounds_toArray, List.set_cons_zero, List.set_cons_succ]
      refine like_one (.tmp 16) (v := .float .f32 x) rfl rfl rfl (fun w' hC ρ h1 => ?_) ?_
      · obtain ⟨n', rfl⟩ := hC
        simp only [execOp, h1]
        go_simp
      simp only [Act.put, List.setIfInBounds_toArray, List.set_cons_zero, List.set_cons_succ]
      refine like_move (.slice (some ⟨b2, o2, none⟩) n d) rfl rfl ?_
      simp only [Act.put, List.setIfInBounds_toArray, List.set_cons_zero, List.set_cons_succ]
      refine like_move (.int .i64 k) rfl rfl ?_
      simp only [Act.put, List.setIfInBounds_toArray, List.set_cons_zero, List.set_cons_succ]
      refine like_two (.tmp 18) (.tmp 19) (v := .pointer (some ⟨b2, o2 + k, none⟩)) rfl rfl rfl rfl rfl (fun w hC ρ h1 h2 => ?_) ?_
      · simp only [execOp, h1, h2]
        go_simp
      simp only [Act.put, List.setIfInBounds_toArray, List.set_cons_zero, List.set_cons_succ]
      refine like_one (.tmp 20) (v := .float .f32 y) rfl rfl rfl (fun w' hC ρ h1 => ?_) ?_
      · obtain ⟨n', rfl⟩ := hC
        simp only [execOp, h1]
        go_simp
      simp only [Act.put, List.setIfInBounds_toArray, List.set_cons_zero, List.set_cons_succ]
      refine like_fop (r := x) (s := y) rfl rfl rfl rfl ?_
      simp only [Act.put, List.setIfInBounds_toArray, List.set_cons_zero, List.set_cons_succ]
      refine like_fop (r := v) (s := fop .mul .f32 x y) rfl rfl rfl rfl ?_
      simp only [Act.put, List.setIfInBounds_toArray, List.set_cons_zero, List.set_cons_succ]
      refine like_assign (.float .f32 (fop .add .f32 v (fop .mul .f32 x y))) rfl rfl ?_
      simp only [Act.put, List.setIfInBounds_toArray, List.set_cons_zero, List.set_cons_succ]
      refine wpLike_nil ?_
      intro a' nq ha
      obtain ⟨l', rfl, hl⟩ := ha.lit
      clear ha
      repeat (have h2 := hl.cons; clear hl; obtain ⟨u', l', rfl, hu, hl⟩ := h2; first | (obtain rfl := hu.eq rfl; clear hu) | (have h3 := hu.float; clear hu; obtain ⟨_, rfl, hu⟩ := h3; first | (obtain rfl := hu.eq0) | skip) | skip)
      obtain rfl := hl.nil
      go_wp2
      go_roundw
      case rel => exact ⟨k + 1, _, _, hlt, by go_num, rfl, rfl, HF.out _ (by assumption)⟩
      case measure => simp [intOf]; omega
    · have HE := hid (dotF_end xs ys n k HX.out HY.out (by omega))
      have HV := hid hv
      clear hv
      go_wp2
      go_ret
      exact ⟨v, _, rfl, by rw [← HE.out]; exact HV.out, rfl⟩
set_option maxHeartbeats 800000 in
theorem DotNumbers_yes (A B : Option Addr) (n c d : Nat) (xs ys : List Nat) (hx : xs.length = n) (hy : ys.length = n) (hn : n ≤ 256) (w : World) (ha : Rd w w.heap.size A (f32s xs)) (hb : Rd w w.heap.size B (f32s ys)) :
    Calls Try.prog 23 #[.slice A n c, .slice B n d] w (RetFB .f32 (dotF xs ys 0) true w) := by
  have HX := hid hx
  have HY := hid hy
  clear hx hy
  go_enter Try.func23, Try.ntmps23
  go_wp2
  go_loopw [6, 20] (fun s i wr => ∃ k m v : Nat, k ≤ n ∧ i = .int .i64 k ∧ wr = w.drewN m ∧ s = .float .f32 v ∧ FEq .f32 v (dotF (xs.take k) (ys.take k) 0)) (fun _ i _ => n - (intOf i).toNat)
  case atStart => exact ⟨0, 0, 0, Nat.zero_le _, rfl, rfl, rfl, by cases xs <;> cases ys <;> exact FEq.refl _ _⟩
  case round =>
    obtain ⟨k, m, v, hk, rfl, rfl, rfl, hv⟩ := hrel
    by_cases hlt : k < n
    · have hkx : k < xs.length := by have := HX.out; omega
      have hky : k < ys.length := by have := HY.out; omega
      have HF := hid fun u hu => dotF_step (u := u) hkx hky hv hu
      obtain ⟨b1, o1, rfl, hb1, hc1⟩ := f32s_at ha hkx
      obtain ⟨b2, o2, rfl, hb2, hc2⟩ := f32s_at hb hky
      generalize xs[k] = x at *
      generalize ys[k] = y at *
      clear hv
      go_wp2
      refine wp_region_like (by kernel_rfl) (by kernel_rfl) ?_
      refine like_move (.float .f32 v) rfl rfl ?_
      simp only [Act.put, List.setIfInBounds_toArray, List.set_cons_zero, List.set_cons_succ]
      refine like_move (.slice (some ⟨b1, o1, none⟩) n c) rfl rfl ?_
      simp only [Act.put, List.setIfInBounds_toArray, List.set_cons_zero, List.set_cons_succ]
      refine like_move (.int .i64 k) rfl rfl ?_
      simp only [Act.put, List.setIfInBounds_toArray, List.set_cons_zero, List.set_cons_succ]
      refine like_two (.tmp 24) (.tmp 25) (v := .pointer (some ⟨b1, o1 + k, none⟩)) rfl rfl rfl rfl rfl (fun w hC ρ h1 h2 => ?_) ?_
      · simp only [execOp, h1, h2]
        go_simp
      simp only [Act.put, List.setIfInBounds_toArray, List.set_cons_zero, List.set_cons_succ]
      refine like_one (.tmp 26) (v := .float .f32 x) rfl rfl rfl (fun w' hC ρ h1 => ?_) ?_
      · obtain ⟨n', rfl⟩ := hC
        simp only [execOp, h1]
        go_simp
      simp only [Act.put, List.setIfInBounds_toArray, List.set_cons_zero, List.set_cons_succ]
      refine like_move (.slice (some ⟨b2, o2, none⟩) n d) rfl rfl ?_
      simp only [Act.put, List.setIfInBounds_toArray, List.set_cons_zero, List.set_cons_succ]
      refine like_move (.int .i64 k) rfl rfl ?_
      simp only [Act.put, List.setIfInBounds_toArray, List.set_cons_zero, List.set_cons_succ]
      refine like_two (.tmp 28) (.tmp 29) (v := .pointer (some ⟨b2, o2 + k, none⟩)) rfl rfl rfl rfl rfl (fun w hC ρ h1 h2 => ?_) ?_
      · simp only [execOp, h1, h2]
        go_simp
      simp only [Act.put, List.setIfInBounds_toArray, List.set_cons_zero, List.set_cons_succ]
      refine like_one (.tmp 30) (v := .float .f32 y) rfl rfl rfl (fun w' hC ρ h1 => ?_) ?_
      · obtain ⟨n', rfl⟩ := hC
        simp only [execOp, h1]
        go_simp
      simp only [Act.put, List.setIfInBounds_toArray, List.set_cons_zero, List.set_cons_succ]
      refine like_fop (r := x) (s := y) rfl rfl rfl rfl ?_
      simp only [Act.put, List.setIfInBounds_toArray, List.set_cons_zero, List.set_cons_succ]
      refine like_fop (r := v) (s := fop .mul .f32 x y) rfl rfl rfl rfl ?_
      simp only [Act.put, List.setIfInBounds_toArray, List.set_cons_zero, List.set_cons_succ]
      refine like_assign (.float .f32 (fop .add .f32 v (fop .mul .f32 x y))) rfl rfl ?_
      simp only [Act.put, List.setIfInBounds_toArray, List.set_cons_zero, List.set_cons_succ]
      refine wpLike_nil ?_
      intro a' nq ha
      obtain ⟨l', rfl, hl⟩ := ha.lit
      clear ha
      repeat (have h2 := hl.cons; clear hl; obtain ⟨u', l', rfl, hu, hl⟩ := h2; first | (obtain rfl := hu.eq rfl; clear hu) | (have h3 := hu.float; clear hu; obtain ⟨_, rfl, hu⟩ := h3; first | (obtain rfl := hu.eq0) | skip) | skip)
      obtain rfl := hl.nil
      go_wp2
      go_roundw
      case rel => exact ⟨k + 1, _, _, hlt, by go_num, rfl, rfl, HF.out _ (by assumption)⟩
      case measure => simp [intOf]; omega
    · have HE := hid (dotF_end xs ys n k HX.out HY.out (by omega))
      have HV := hid hv
      clear hv
      go_wp2
      go_ret2
      exact ⟨v, _, rfl, by rw [← HE.out]; exact HV.out, rfl⟩
theorem DotNumbers_no (A B : Option Addr) (n m c d : Nat) (h : 256 < n ∨ n ≠ m) (w : World) :
    Calls Try.prog 23 #[.slice A n c, .slice B m d] w (RetFB .f32 0 false w) := by
  by_cases h1 : 256 < n
  · clear h
    go_enter Try.func23, Try.ntmps23
    go_wp2
    go_ret2
    exact ⟨0, 0, rfl, FEq.refl _ _, rfl⟩
  · have h2 : ((n : Int) != (m : Int)) = true := by rw [bne_iff_ne]; omega
    clear h
    go_enter Try.func23, Try.ntmps23
    go_wp2
    go_ret2
    exact ⟨0, 0, rfl, FEq.refl _ _, rfl⟩
end Go.Proofs.Ytpdenbflibplfaa.Num
