/-
  Integers within bounds, by both texts; the laws' eqInt64S.
-/
import Derived.Test.YtlfmcdobiojdlaaExt
import Derived.Test.YtlfmcdobiojdlaaMem
import Derived.LoopTactic
import Derived.Test.YtlfmcdobiojdlaaLike
namespace Go.Proofs.Ytlfmcdobiojdlaa.Num
open Go.RowKit Go.Proofs.Fl
set_option linter.unusedVariables false

def inB (n lo hi : Int) : Bool := decide (lo ≤ n) && decide (n ≤ hi)
theorem l00In_calls (n lo hi : Int) (w : World) : Calls Try.prog 42 #[.int .i64 n, .int .i64 lo, .int .i64 hi] w (Ret (.bool (inB n lo hi)) w) := by
  unfold inB
  by_cases h1 : lo ≤ n <;> by_cases h2 : n ≤ hi
  all_goals
    go_enter Try.func42, Try.ntmps42
    go_wp2
    go_ret
    exact ⟨ret_bool (by simp [h1, h2]), 0, rfl⟩
theorem within_calls (n lo hi : Int) (w : World) : Calls Try.prog 44 #[.int .i64 n, .int .i64 lo, .int .i64 hi] w (Ret (.bool (inB n lo hi)) w) := by
  unfold inB
  by_cases h1 : lo ≤ n <;> by_cases h2 : n ≤ hi
  all_goals
    go_enter Try.func44, Try.ntmps44
    go_wp2
    go_ret
    exact ⟨ret_bool (by simp [h1, h2]), 0, rfl⟩
theorem l00In_is (n lo hi : Int) (b : Bool) (h : inB n lo hi = b) (w : World) : Calls Try.prog 42 #[.int .i64 n, .int .i64 lo, .int .i64 hi] w (Ret (.bool b) w) := by
  subst h
  exact l00In_calls n lo hi w
theorem within_is (n lo hi : Int) (b : Bool) (h : inB n lo hi = b) (w : World) : Calls Try.prog 44 #[.int .i64 n, .int .i64 lo, .int .i64 hi] w (Ret (.bool b) w) := by
  subst h
  exact within_calls n lo hi w
/-- are all within? -/
def allIn (xs : List Int) (lo hi : Int) : Bool := xs.all fun x => inB x lo hi
theorem allIn_take {xs : List Int} {lo hi : Int} {k : Nat} (hk : k < xs.length) (h : allIn (xs.take k) lo hi = true) (h1 : inB xs[k] lo hi = true) : allIn (xs.take (k + 1)) lo hi = true := by
  rw [List.take_succ_eq_append_getElem hk]
  unfold allIn at *
  rw [List.all_append, h]
  simp [h1]
theorem allIn_not {xs : List Int} {lo hi : Int} {k : Nat} (hk : k < xs.length) (h1 : inB xs[k] lo hi = false) : allIn xs lo hi = false := by
  unfold allIn
  rw [List.all_eq_false]
  exact ⟨xs[k], List.getElem_mem hk, by rw [h1]; decide⟩
theorem allIn_end {xs : List Int} {lo hi : Int} {n k : Nat} (hn : xs.length = n) (hk : n ≤ k) (h : allIn (xs.take k) lo hi = true) : allIn xs lo hi = true := by rwa [List.take_of_length_le (by omega)] at h
set_option maxHeartbeats 400000 in
theorem areWithin_calls (A : Option Addr) (n c : Nat) (xs : List Int) (lo hi : Int) (hx : xs.length = n) (hn : n ≤ 1048576) (w : World) (ha : Rd w w.heap.size A (i64s xs)) :
    Calls Try.prog 45 #[.slice A n c, .int .i64 lo, .int .i64 hi] w (Ret (.bool (allIn xs lo hi)) w) := by
  have HX := hid hx
  clear hx
  go_enter Try.func45, Try.ntmps45
  go_wp2
  go_loopw [11] (fun i wr => ∃ k m : Nat, k ≤ n ∧ i = .int .i64 k ∧ wr = w.drewN m ∧ Hid (allIn (xs.take k) lo hi = true)) (fun i _ => n - (intOf i).toNat)
  case atStart => exact ⟨0, 0, Nat.zero_le _, rfl, rfl, rfl⟩
  case round =>
    obtain ⟨k, m, hk, rfl, rfl, hv⟩ := hrel
    by_cases hlt : k < n
    · have hkx : k < xs.length := by have := HX.out; omega
      have HF := hid fun h1 => allIn_take hkx hv.out h1
      have HN := hid fun h1 => allIn_not (lo := lo) (hi := hi) hkx h1
      obtain ⟨b1, o1, rfl, hb1, hc1⟩ := i64s_at ha hkx
      generalize xs[k] = x at *
      cases hb : inB x lo hi
      · have HB := hid hb
        have HR := hid (HN.out hb)
        clear hb HF HN
        go_wp2_with (go_at_call 44; refine (within_is _ _ _ _ HB.out _).mono ?_; rintro e w' ⟨rfl, q, rfl⟩)
        go_ret
        exact ⟨ret_bool HR.out.symm, _, rfl⟩
      · have HB := hid hb
        have HR := hid (HF.out hb)
        clear hb HN HF
        go_wp2_with (go_at_call 44; refine (within_is _ _ _ _ HB.out _).mono ?_; rintro e w' ⟨rfl, q, rfl⟩)
        go_roundw
        case rel => exact ⟨k + 1, _, hlt, by go_num, rfl, HR.out⟩
        case measure => simp [intOf]; omega
    · have HE := hid (allIn_end HX.out (by omega) hv.out)
      clear hv
      go_wp2
      go_ret
      exact ⟨ret_bool HE.out.symm, _, rfl⟩
set_option maxHeartbeats 400000 in
theorem l02Word_calls (A : Option Addr) (n c : Nat) (xs : List Int) (L : Int) (hx : xs.length = n) (hn : n ≤ 1048576) (hL : 1 ≤ L ∧ L ≤ 4) (w : World) (ha : Rd w w.heap.size A (i64s xs)) :
    Calls Try.prog 43 #[.slice A n c, .int .i64 L] w (Ret (.bool (allIn xs 0 (L - 1) && decide (n ≤ 12))) w) := by
  have HX := hid hx
  have HW : wrap64 (L - 1) = L - 1 := by unfold wrap64; omega
  clear hx
  go_enter Try.func43, Try.ntmps43
  go_wp2
  go_loopw [5] (fun i wr => ∃ k m : Nat, k ≤ n ∧ i = .int .i64 k ∧ wr = w.drewN m ∧ Hid (allIn (xs.take k) 0 (L - 1) = true)) (fun i _ => n - (intOf i).toNat)
  case atStart => exact ⟨0, 0, Nat.zero_le _, rfl, rfl, rfl⟩
  case round =>
    obtain ⟨k, m, hk, rfl, rfl, hv⟩ := hrel
    by_cases hlt : k < n
    · have hkx : k < xs.length := by have := HX.out; omega
      have HF := hid fun h1 => allIn_take hkx hv.out h1
      have HN := hid fun h1 => allIn_not (lo := 0) (hi := L - 1) hkx h1
      obtain ⟨b1, o1, rfl, hb1, hc1⟩ := i64s_at ha hkx
      generalize xs[k] = x at *
      cases hb : inB x 0 (L - 1)
      · have HB := hid hb
        have HR := hid (HN.out hb)
        clear hb HF HN
        go_wp2_with (go_at_call 42; refine (l00In_is _ _ _ _ HB.out _).mono ?_; rintro e w' ⟨rfl, q, rfl⟩)
        go_ret
        exact ⟨ret_bool (by rw [HR.out]; rfl), _, rfl⟩
      · have HB := hid hb
        have HR := hid (HF.out hb)
        clear hb HN HF
        go_wp2_with (go_at_call 42; refine (l00In_is _ _ _ _ HB.out _).mono ?_; rintro e w' ⟨rfl, q, rfl⟩)
        go_roundw
        case rel => exact ⟨k + 1, _, hlt, by go_num, rfl, HR.out⟩
        case measure => simp [intOf]; omega
    · have HE := hid (allIn_end HX.out (by omega) hv.out)
      clear hv
      by_cases h12 : n ≤ 12
      all_goals
        go_wp2
        go_ret
        exact ⟨ret_bool (by rw [HE.out]; simp [h12]; omega), _, rfl⟩
set_option maxHeartbeats 800000 in
theorem eqInt64S_yes (A B : Option Addr) (n c d : Nat) (xs : List Int) (hx : xs.length = n) (hn : n ≤ 1048576) (w : World)
    (ha : Rd w w.heap.size A (i64s xs)) (hb : Rd w w.heap.size B (i64s xs)) :
    Calls Try.prog 16 #[.slice A n c, .slice B n d] w (Ret (.bool true) w) := by
  have HX := hid hx
  clear hx
  go_enter Try.func16, Try.ntmps16
  go_wp2
  go_loopw [5] (fun i wr => ∃ k m : Nat, k ≤ n ∧ i = .int .i64 k ∧ wr = w.drewN m) (fun i _ => n - (intOf i).toNat)
  case atStart => exact ⟨0, 0, Nat.zero_le _, rfl, rfl⟩
  case round =>
    obtain ⟨k, m, hk, rfl, rfl⟩ := hrel
    by_cases hlt : k < n
    · have hkx : k < xs.length := by have := HX.out; omega
      obtain ⟨b1, o1, rfl, hb1, hc1⟩ := i64s_at ha hkx
      obtain ⟨b2, o2, rfl, hb2, hc2⟩ := i64s_at hb hkx
      generalize xs[k] = x at *
      go_wp2
      refine wp_region_like (by kernel_rfl) (by kernel_rfl) ?_
      refine like_move (.slice (some ⟨b1, o1, none⟩) n c) rfl rfl ?_
      simp only [Act.put, List.setIfInBounds_toArray, List.set_cons_zero, List.set_cons_succ]
      refine like_move (.int .i64 k) rfl rfl ?_
      simp only [Act.put, List.setIfInBounds_toArray, List.set_cons_zero, List.set_cons_succ]
      refine like_two (.tmp 17) (.tmp 18) (v := .pointer (some ⟨b1, o1 + k, none⟩)) rfl rfl rfl rfl rfl (fun w hC ρ h1 h2 => ?_) ?_
      · simp only [execOp, h1, h2]
        go_simp
      simp only [Act.put, List.setIfInBounds_toArray, List.set_cons_zero, List.set_cons_succ]
      refine like_one (.tmp 19) (v := .int .i64 x) rfl rfl rfl (fun w' hC ρ h1 => ?_) ?_
      · obtain ⟨n', rfl⟩ := hC
        simp only [execOp, h1]
        go_simp
      simp only [Act.put, List.setIfInBounds_toArray, List.set_cons_zero, List.set_cons_succ]
      refine like_move (.slice (some ⟨b2, o2, none⟩) n d) rfl rfl ?_
      simp only [Act.put, List.setIfInBounds_toArray, List.set_cons_zero, List.set_cons_succ]
      refine like_move (.int .i64 k) rfl rfl ?_
      simp only [Act.put, List.setIfInBounds_toArray, List.set_cons_zero, List.set_cons_succ]
      refine like_two (.tmp 21) (.tmp 22) (v := .pointer (some ⟨b2, o2 + k, none⟩)) rfl rfl rfl rfl rfl (fun w hC ρ h1 h2 => ?_) ?_
      · simp only [execOp, h1, h2]
        go_simp
      simp only [Act.put, List.setIfInBounds_toArray, List.set_cons_zero, List.set_cons_succ]
      refine like_one (.tmp 23) (v := .int .i64 x) rfl rfl rfl (fun w' hC ρ h1 => ?_) ?_
      · obtain ⟨n', rfl⟩ := hC
        simp only [execOp, h1]
        go_simp
      simp only [Act.put, List.setIfInBounds_toArray, List.set_cons_zero, List.set_cons_succ]
      refine like_two (.tmp 20) (.tmp 24) (v := .bool false) rfl rfl rfl rfl rfl (fun w hC ρ h1 h2 => ?_) ?_
      · simp only [execOp, h1, h2]
        go_simp
      simp only [Act.put, List.setIfInBounds_toArray, List.set_cons_zero, List.set_cons_succ]
      refine wpLike_nil ?_
      intro a' nq ha
      obtain ⟨l', rfl, hl⟩ := ha.lit
      clear ha
      repeat (have h2 := hl.cons; clear hl; obtain ⟨u', l', rfl, hu, hl⟩ := h2; first | (obtain rfl := hu.eq rfl; clear hu) | skip)
      obtain rfl := hl.nil
      go_wp2
      go_roundw
      case rel => exact ⟨k + 1, _, hlt, by go_num, rfl⟩
      case measure => simp [intOf]; omega
    · go_wp2
      go_ret
      exact ⟨rfl, _, rfl⟩
end Go.Proofs.Ytlfmcdobiojdlaa.Num
