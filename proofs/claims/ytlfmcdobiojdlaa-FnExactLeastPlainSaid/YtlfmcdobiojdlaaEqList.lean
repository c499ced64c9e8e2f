/-
  Equality of lists, by the reference and by the library.
-/
import Derived.Test.YtlfmcdobiojdlaaRun
import Derived.BigQuiet
import Derived.Deep.QuietTactic
namespace Go.Proofs.Ytlfmcdobiojdlaa.Num
open Go.RowKit Go.Proofs.Fl
set_option linter.unusedVariables false
set_option linter.unusedSimpArgs false
theorem take_eq_snoc {α : Type} {xs ys : List α} {k : Nat} (hx : k < xs.length) (hy : k < ys.length) (h : xs.take k = ys.take k) (he : xs[k] = ys[k]) : xs.take (k + 1) = ys.take (k + 1) := by
  rw [List.take_succ_eq_append_getElem hx, List.take_succ_eq_append_getElem hy, h, he]
theorem take_eq_all {α : Type} {xs ys : List α} {n k : Nat} (hx : xs.length = n) (hy : ys.length = n) (hk : n ≤ k) (h : xs.take k = ys.take k) : xs = ys := by
  rwa [List.take_of_length_le (by omega), List.take_of_length_le (by omega)] at h
theorem get_ne {α : Type} {xs ys : List α} {k : Nat} (hx : k < xs.length) (hy : k < ys.length) (h : xs[k] ≠ ys[k]) : xs ≠ ys := fun e => by subst e; exact h rfl
theorem len_ne {α : Type} {xs ys : List α} {n m : Nat} (hx : xs.length = n) (hy : ys.length = m) (h : n ≠ m) : xs ≠ ys := fun e => by subst e; omega
set_option maxHeartbeats 1600000 in
theorem l02Equal_calls (A B : Option Addr) (n c m d : Nat) (xs ys : List Int) (hx : xs.length = n) (hy : ys.length = m) (hn : n ≤ 1048576) (hm : m ≤ 1048576) (w : World)
    (ha : Rd w w.heap.size A (i64s xs)) (hb : Rd w w.heap.size B (i64s ys)) :
    Calls Try.prog 75 #[.slice A n c, .slice B m d] w (Ret (.bool (decide (xs = ys))) w) := by
  have HX := hid hx
  have HY := hid hy
  clear hx hy
  by_cases hnm : n = m
  case neg =>
    have HN := hid (len_ne HX.out HY.out hnm)
    have hnm' : (n : Int) ≠ (m : Int) := by omega
    go_enter Try.func75, Try.ntmps75
    go_wp2
    go_ret
    exact ⟨ret_bool (by simp [HN.out]), 0, rfl⟩
  subst hnm
  go_enter Try.func75, Try.ntmps75
  go_wp2
  go_loopw [5] (fun i wr => ∃ k : Nat, k ≤ n ∧ i = .int .i64 k ∧ Hid (xs.take k = ys.take k) ∧ Hid (∃ j, wr = w.drewN j)) (fun i _ => n - (intOf i).toNat)
  case atStart => exact ⟨0, Nat.zero_le _, rfl, rfl, ⟨0, rfl⟩⟩
  case round =>
    obtain ⟨k, hk, rfl, heq, hdr⟩ := hrel
    by_cases hlt : k < n
    · have hkx : k < xs.length := by have := HX.out; omega
      have hky : k < ys.length := by have := HY.out; omega
      obtain ⟨b1, o1, rfl, hb1, hc1'⟩ := i64s_at ha hkx
      obtain ⟨b2, o2, rfl, hb2, hc2'⟩ := i64s_at hb hky
      have hc1 : wr.cell? ⟨b1, o1 + k, none⟩ = some (.int .i64 xs[k]) := by obtain ⟨j, rfl⟩ := hdr.out; exact hc1'
      have hc2 : wr.cell? ⟨b2, o2 + k, none⟩ = some (.int .i64 ys[k]) := by obtain ⟨j, rfl⟩ := hdr.out; exact hc2'
      have hki : (k : Int) < (n : Int) := by omega
      by_cases hxy : xs[k] = ys[k]
      · have HT := hid (take_eq_snoc hkx hky heq.out hxy)
        rw [← hxy] at hc2
        clear hxy hc1' hc2' heq
        generalize xs[k] = x at *
        go_wp2_with fail
        go_quiet (fail)
        go_wp2
        go_roundw
        case rel => exact ⟨k + 1, hlt, by go_num, HT, by obtain ⟨j, rfl⟩ := hdr.out; exact ⟨_, World.drewN_drewN _ _ _⟩⟩
        case measure => simp [intOf]; omega
      · have HT := hid (get_ne hkx hky hxy)
        clear hc1' hc2' heq
        have hyx : ¬ ys[k] = xs[k] := fun h => hxy h.symm
        generalize xs[k] = x at *
        generalize ys[k] = y at *
        have hq : (x == y) = false := by simpa using hxy
        go_wp2_with fail
        go_quiet (fail)
        go_wp2
        go_ret
        exact ⟨ret_bool (by simp [HT.out]), by obtain ⟨j, rfl⟩ := hdr.out; exact ⟨_, World.drewN_drewN _ _ _⟩⟩
    · have HT := hid (take_eq_all HX.out HY.out (by omega) heq.out)
      go_wp2
      go_ret
      exact ⟨ret_bool (by simp [HT.out]), hdr.out⟩
set_option maxHeartbeats 1600000 in
theorem equalI_calls (A B : Option Addr) (n c m d : Nat) (xs ys : List Int) (hx : xs.length = n) (hy : ys.length = m) (hn : n ≤ 1048576) (hm : m ≤ 1048576) (w : World)
    (ha : Rd w w.heap.size A (i64s xs)) (hb : Rd w w.heap.size B (i64s ys)) :
    Calls Try.prog 52 #[.slice A n c, .slice B m d] w (Ret (.bool (decide (xs = ys))) w) := by
  have HX := hid hx
  have HY := hid hy
  clear hx hy
  by_cases hnm : n = m
  case neg =>
    have HN := hid (len_ne HX.out HY.out hnm)
    have hnm' : (n : Int) ≠ (m : Int) := by omega
    go_enter Try.func52, Try.ntmps52
    go_wp2
    go_ret
    exact ⟨ret_bool (by simp [HN.out]), 0, rfl⟩
  subst hnm
  go_enter Try.func52, Try.ntmps52
  go_wp2
  go_loopw [5, 13] (fun v i wr => ∃ k : Nat, k ≤ n ∧ i = .int .i64 k ∧ Hid (xs.take k = ys.take k) ∧ Hid (∃ j, wr = w.drewN j)) (fun v i _ => n - (intOf i).toNat)
  case atStart => exact ⟨0, Nat.zero_le _, rfl, rfl, ⟨0, rfl⟩⟩
  case round =>
    obtain ⟨k, hk, rfl, heq, hdr⟩ := hrel
    by_cases hlt : k < n
    · have hkx : k < xs.length := by have := HX.out; omega
      have hky : k < ys.length := by have := HY.out; omega
      obtain ⟨b1, o1, rfl, hb1, hc1'⟩ := i64s_at ha hkx
      obtain ⟨b2, o2, rfl, hb2, hc2'⟩ := i64s_at hb hky
      have hc1 : wr.cell? ⟨b1, o1 + k, none⟩ = some (.int .i64 xs[k]) := by obtain ⟨j, rfl⟩ := hdr.out; exact hc1'
      have hc2 : wr.cell? ⟨b2, o2 + k, none⟩ = some (.int .i64 ys[k]) := by obtain ⟨j, rfl⟩ := hdr.out; exact hc2'
      have hki : (k : Int) < (n : Int) := by omega
      by_cases hxy : xs[k] = ys[k]
      · have HT := hid (take_eq_snoc hkx hky heq.out hxy)
        rw [← hxy] at hc2
        clear hxy hc1' hc2' heq
        generalize xs[k] = x at *
        go_wp2_with fail
        go_quiet (fail)
        go_wp2
        go_roundw
        case rel => exact ⟨k + 1, hlt, by go_num, HT, by obtain ⟨j, rfl⟩ := hdr.out; exact ⟨_, World.drewN_drewN _ _ _⟩⟩
        case measure => simp [intOf]; omega
      · have HT := hid (get_ne hkx hky hxy)
        clear hc1' hc2' heq
        have hyx : ¬ ys[k] = xs[k] := fun h => hxy h.symm
        generalize xs[k] = x at *
        generalize ys[k] = y at *
        have hq : (x == y) = false := by simpa using hxy
        go_wp2_with fail
        go_quiet (fail)
        go_wp2
        go_ret
        exact ⟨ret_bool (by simp [HT.out]), by obtain ⟨j, rfl⟩ := hdr.out; exact ⟨_, World.drewN_drewN _ _ _⟩⟩
    · have HT := hid (take_eq_all HX.out HY.out (by omega) heq.out)
      go_wp2
      go_ret
      exact ⟨ret_bool (by simp [HT.out]), hdr.out⟩
set_option maxHeartbeats 1600000 in
theorem equalB_calls (A B : Option Addr) (n c m d : Nat) (xs ys : List Bool) (hx : xs.length = n) (hy : ys.length = m) (hn : n ≤ 1048576) (hm : m ≤ 1048576) (w : World)
    (ha : Rd w w.heap.size A (bools xs)) (hb : Rd w w.heap.size B (bools ys)) :
    Calls Try.prog 53 #[.slice A n c, .slice B m d] w (Ret (.bool (decide (xs = ys))) w) := by
  have HX := hid hx
  have HY := hid hy
  clear hx hy
  by_cases hnm : n = m
  case neg =>
    have HN := hid (len_ne HX.out HY.out hnm)
    have hnm' : (n : Int) ≠ (m : Int) := by omega
    go_enter Try.func53, Try.ntmps53
    go_wp2
    go_ret
    exact ⟨ret_bool (by simp [HN.out]), 0, rfl⟩
  subst hnm
  go_enter Try.func53, Try.ntmps53
  go_wp2
  go_loopw [5, 13] (fun v i wr => ∃ k : Nat, k ≤ n ∧ i = .int .i64 k ∧ Hid (xs.take k = ys.take k) ∧ Hid (∃ j, wr = w.drewN j)) (fun v i _ => n - (intOf i).toNat)
  case atStart => exact ⟨0, Nat.zero_le _, rfl, rfl, ⟨0, rfl⟩⟩
  case round =>
    obtain ⟨k, hk, rfl, heq, hdr⟩ := hrel
    by_cases hlt : k < n
    · have hkx : k < xs.length := by have := HX.out; omega
      have hky : k < ys.length := by have := HY.out; omega
      obtain ⟨b1, o1, rfl, hb1, hc1'⟩ := bools_at ha hkx
      obtain ⟨b2, o2, rfl, hb2, hc2'⟩ := bools_at hb hky
      have hc1 : wr.cell? ⟨b1, o1 + k, none⟩ = some (.bool xs[k]) := by obtain ⟨j, rfl⟩ := hdr.out; exact hc1'
      have hc2 : wr.cell? ⟨b2, o2 + k, none⟩ = some (.bool ys[k]) := by obtain ⟨j, rfl⟩ := hdr.out; exact hc2'
      have hki : (k : Int) < (n : Int) := by omega
      by_cases hxy : xs[k] = ys[k]
      · have HT := hid (take_eq_snoc hkx hky heq.out hxy)
        rw [← hxy] at hc2
        clear hxy hc1' hc2' heq
        generalize xs[k] = x at *
        go_wp2_with fail
        go_quiet (fail)
        go_wp2
        go_roundw
        case rel => exact ⟨k + 1, hlt, by go_num, HT, by obtain ⟨j, rfl⟩ := hdr.out; exact ⟨_, World.drewN_drewN _ _ _⟩⟩
        case measure => simp [intOf]; omega
      · have HT := hid (get_ne hkx hky hxy)
        clear hc1' hc2' heq
        have hyx : ¬ ys[k] = xs[k] := fun h => hxy h.symm
        generalize xs[k] = x at *
        generalize ys[k] = y at *
        have hq : (x == y) = false := by simpa using hxy
        go_wp2_with fail
        go_quiet (fail)
        go_wp2
        go_ret
        exact ⟨ret_bool (by simp [HT.out]), by obtain ⟨j, rfl⟩ := hdr.out; exact ⟨_, World.drewN_drewN _ _ _⟩⟩
    · have HT := hid (take_eq_all HX.out HY.out (by omega) heq.out)
      go_wp2
      go_ret
      exact ⟨ret_bool (by simp [HT.out]), hdr.out⟩
end Go.Proofs.Ytlfmcdobiojdlaa.Num
