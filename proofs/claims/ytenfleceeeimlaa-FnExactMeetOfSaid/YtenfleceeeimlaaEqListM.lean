/-
  Equality of lists, by the reference and by the library.
-/
import Derived.Test.YtenfleceeeimlaaMach3
import Derived.BigQuiet
import Derived.Deep.QuietTactic
import Derived.Laws.StructEq
namespace Go.Proofs.Ytenfleceeeimlaa.Num
open Go.RowKit Go.Proofs.Fl
set_option linter.unusedVariables false
set_option linter.unusedSimpArgs false
theorem take_eq_snoc {α : Type} {xs ys : List α} {k : Nat} (hx : k < xs.length) (hy : k < ys.length) (h : xs.take k = ys.take k) (he : xs[k] = ys[k]) : xs.take (k + 1) = ys.take (k + 1) := by
  rw [List.take_succ_eq_append_getElem hx, List.take_succ_eq_append_getElem hy, h, he]
theorem take_eq_all {α : Type} {xs ys : List α} {n k : Nat} (hx : xs.length = n) (hy : ys.length = n) (hk : n ≤ k) (h : xs.take k = ys.take k) : xs = ys := by
  rwa [List.take_of_length_le (by omega), List.take_of_length_le (by omega)] at h
theorem get_ne {α : Type} {xs ys : List α} {k : Nat} (hx : k < xs.length) (hy : k < ys.length) (h : xs[k] ≠ ys[k]) : xs ≠ ys := fun e => by subst e; exact h rfl
theorem len_ne {α : Type} {xs ys : List α} {n m : Nat} (hx : xs.length = n) (hy : ys.length = m) (h : n ≠ m) : xs ≠ ys := fun e => by subst e; omega
set_option maxHeartbeats 1600000 in
theorem l02Equal_calls (A B : Option Addr) (n c m d : Nat) (xs ys : List Int) (hx : xs.length = n) (hy : ys.length = m) (hn : n ≤ 1048576) (hm : m ≤ 1048576) (w : World)
    (ha : Rd w w.heap.size A (i64s xs)) (hb : Rd w w.heap.size B (i64s ys)) :
    Calls Try.prog 51 #[.slice A n c, .slice B m d] w (Ret (.bool (decide (xs = ys))) w) := by
  have HX := hid hx
  have HY := hid hy
  clear hx hy
  by_cases hnm : n = m
  case neg =>
    have HN := hid (len_ne HX.out HY.out hnm)
    have hnm' : (n : Int) ≠ (m : Int) := by omega
    go_enter Try.func51, Try.ntmps51
    go_wp2
    go_ret
    exact ⟨ret_bool (by simp [HN.out]), 0, rfl⟩
  subst hnm
  go_enter Try.func51, Try.ntmps51
  go_wp2
  go_loopw [5] (fun i wr => ∃ k : Nat, k ≤ n ∧ i = .int .i64 k ∧ Hid (xs.take k = ys.take k) ∧ Hid (∃ j, wr = w.drewN j)) (fun i _ => n - (intOf i).toNat)
  case atStart => exact ⟨0, Nat.zero_le _, rfl, rfl, ⟨0, rfl⟩⟩
  case round =>
    obtain ⟨k, hk, rfl, heq, hdr⟩ := hrel
    by_cases hlt : k < n
    · have hkx : k < xs.length := by have := HX.out; omega
      have hky : k < ys.length := by have := HY.out; omega
      obtain ⟨b1, o1, rfl, hb1, hc1'⟩ := i64s_at ha hkx
      obtain ⟨b2, o2, rfl, hb2, hc2'⟩ := i64s_at hb hky
      have hc1 : wr.cell? ⟨b1, o1 + k, none⟩ = some (.int .i64 xs[k]) := by obtain ⟨j, rfl⟩ := hdr.out; exact hc1'
      have hc2 : wr.cell? ⟨b2, o2 + k, none⟩ = some (.int .i64 ys[k]) := by obtain ⟨j, rfl⟩ := hdr.out; exact hc2'
      have hki : (k : Int) < (n : Int) := by omega
      by_cases hxy : xs[k] = ys[k]
      · have HT := hid (take_eq_snoc hkx hky heq.out hxy)
        rw [← hxy] at hc2
        clear hxy hc1' hc2' heq
        generalize xs[k] = x at *
        go_wp2_with fail
        go_quiet (fail)
        go_wp2
        go_roundw
        case rel => exact ⟨k + 1, hlt, by go_num, HT, by obtain ⟨j, rfl⟩ := hdr.out; exact ⟨_, World.drewN_drewN _ _ _⟩⟩
        case measure => simp [intOf]; omega
      · have HT := hid (get_ne hkx hky hxy)
        clear hc1' hc2' heq
        have hyx : ¬ ys[k] = xs[k] := fun h => hxy h.symm
        generalize xs[k] = x at *
        generalize ys[k] = y at *
        have hq : (x == y) = false := by simpa using hxy
        go_wp2_with fail
        go_quiet (fail)
        go_wp2
        go_ret
        exact ⟨ret_bool (by simp [HT.out]), by obtain ⟨j, rfl⟩ := hdr.out; exact ⟨_, World.drewN_drewN _ _ _⟩⟩
    · have HT := hid (take_eq_all HX.out HY.out (by omega) heq.out)
      go_wp2
      go_ret
      exact ⟨ret_bool (by simp [HT.out]), hdr.out⟩
set_option maxHeartbeats 1600000 in
theorem equalI_calls (A B : Option Addr) (n c m d : Nat) (xs ys : List Int) (hx : xs.length = n) (hy : ys.length = m) (hn : n ≤ 1048576) (hm : m ≤ 1048576) (w : World)
    (ha : Rd w w.heap.size A (i64s xs)) (hb : Rd w w.heap.size B (i64s ys)) :
    Calls Try.prog 32 #[.slice A n c, .slice B m d] w (Ret (.bool (decide (xs = ys))) w) := by
  have HX := hid hx
  have HY := hid hy
  clear hx hy
  by_cases hnm : n = m
  case neg =>
    have HN := hid (len_ne HX.out HY.out hnm)
    have hnm' : (n : Int) ≠ (m : Int) := by omega
    go_enter Try.func32, Try.ntmps32
    go_wp2
    go_ret
    exact ⟨ret_bool (by simp [HN.out]), 0, rfl⟩
  subst hnm
  go_enter Try.func32, Try.ntmps32
  go_wp2
  go_loopw [5, 13] (fun v i wr => ∃ k : Nat, k ≤ n ∧ i = .int .i64 k ∧ Hid (xs.take k = ys.take k) ∧ Hid (∃ j, wr = w.drewN j)) (fun v i _ => n - (intOf i).toNat)
  case atStart => exact ⟨0, Nat.zero_le _, rfl, rfl, ⟨0, rfl⟩⟩
  case round =>
    obtain ⟨k, hk, rfl, heq, hdr⟩ := hrel
    by_cases hlt : k < n
    · have hkx : k < xs.length := by have := HX.out; omega
      have hky : k < ys.length := by have := HY.out; omega
      obtain ⟨b1, o1, rfl, hb1, hc1'⟩ := i64s_at ha hkx
      obtain ⟨b2, o2, rfl, hb2, hc2'⟩ := i64s_at hb hky
      have hc1 : wr.cell? ⟨b1, o1 + k, none⟩ = some (.int .i64 xs[k]) := by obtain ⟨j, rfl⟩ := hdr.out; exact hc1'
      have hc2 : wr.cell? ⟨b2, o2 + k, none⟩ = some (.int .i64 ys[k]) := by obtain ⟨j, rfl⟩ := hdr.out; exact hc2'
      have hki : (k : Int) < (n : Int) := by omega
      by_cases hxy : xs[k] = ys[k]
      · have HT := hid (take_eq_snoc hkx hky heq.out hxy)
        rw [← hxy] at hc2
        clear hxy hc1' hc2' heq
        generalize xs[k] = x at *
        go_wp2_with fail
        go_quiet (fail)
        go_wp2
        go_roundw
        case rel => exact ⟨k + 1, hlt, by go_num, HT, by obtain ⟨j, rfl⟩ := hdr.out; exact ⟨_, World.drewN_drewN _ _ _⟩⟩
        case measure => simp [intOf]; omega
      · have HT := hid (get_ne hkx hky hxy)
        clear hc1' hc2' heq
        have hyx : ¬ ys[k] = xs[k] := fun h => hxy h.symm
        generalize xs[k] = x at *
        generalize ys[k] = y at *
        have hq : (x == y) = false := by simpa using hxy
        go_wp2_with fail
        go_quiet (fail)
        go_wp2
        go_ret
        exact ⟨ret_bool (by simp [HT.out]), by obtain ⟨j, rfl⟩ := hdr.out; exact ⟨_, World.drewN_drewN _ _ _⟩⟩
    · have HT := hid (take_eq_all HX.out HY.out (by omega) heq.out)
      go_wp2
      go_ret
      exact ⟨ret_bool (by simp [HT.out]), hdr.out⟩
/-- whether the arcs at a place are equal -/
def sameAt (xs ys : List Int) (k : Nat) : Bool := decide (ga xs (k * 4) = ga ys (k * 4) ∧ ga xs (k * 4 + 1) = ga ys (k * 4 + 1) ∧ ga xs (k * 4 + 2) = ga ys (k * 4 + 2) ∧ ga xs (k * 4 + 3) = ga ys (k * 4 + 3))
theorem arc_guard : Try.prog.eqGuardType Try.prog.depth 50 = false := by kernel_rfl
@[go_sem] theorem arc_eqGuard (op : BinOp) (x y : Operand) (xs ys : Array Value) (w : World) : (eqGuard op 50 x y (.agg xs) (.agg ys)).run Try.prog w = .ok () w := run_eqGuard_agg w op _ x y xs ys arc_guard
theorem ga_get {xs : List Int} {j : Nat} (h : j < xs.length) : ga xs j = xs[j] := by
  unfold ga
  rw [List.getD_eq_getElem?_getD, List.getElem?_eq_getElem h]
  rfl
theorem arcs_snoc {xs ys : List Int} {n k : Nat} (hx : xs.length = n * 4) (hy : ys.length = n * 4) (hk : k < n) (h : xs.take (k * 4) = ys.take (k * 4)) (hs : sameAt xs ys k = true) : xs.take ((k + 1) * 4) = ys.take ((k + 1) * 4) := by
  unfold sameAt at hs
  have hs := of_decide_eq_true hs
  obtain ⟨h0, h1, h2, h3⟩ := hs
  rw [ga_get (by omega), ga_get (by omega)] at h0 h1 h2 h3
  have e : (k + 1) * 4 = k * 4 + 1 + 1 + 1 + 1 := by omega
  rw [e]
  exact take_eq_snoc (by omega) (by omega) (take_eq_snoc (by omega) (by omega) (take_eq_snoc (by omega) (by omega) (take_eq_snoc (by omega) (by omega) h h0) h1) h2) h3
theorem arcs_ne {xs ys : List Int} {k : Nat} (hs : sameAt xs ys k = false) : xs ≠ ys := fun e => by
  subst e
  simp [sameAt] at hs
set_option maxHeartbeats 1600000 in
theorem equalA_calls (A B : Option Addr) (n c m d : Nat) (xs ys : List Int) (hx : xs.length = n * 4) (hy : ys.length = m * 4) (hn : n ≤ 1048576) (hm : m ≤ 1048576) (w : World)
    (ha : Rd w w.heap.size A (i64s xs)) (hb : Rd w w.heap.size B (i64s ys)) :
    Calls Try.prog 31 #[.slice A n c, .slice B m d] w (Ret (.bool (decide (xs = ys))) w) := by
  have HX := hid hx
  have HY := hid hy
  clear hx hy
  by_cases hnm : n = m
  case neg =>
    have HN := hid (len_ne HX.out HY.out (show n * 4 ≠ m * 4 by omega))
    have hnm' : (n : Int) ≠ (m : Int) := by omega
    go_enter Try.func31, Try.ntmps31
    go_wp2
    go_ret
    exact ⟨ret_bool (by simp [HN.out]), 0, rfl⟩
  subst hnm
  go_enter Try.func31, Try.ntmps31
  go_wp2
  go_loopw [5, 13] (fun v i wr => ∃ k : Nat, k ≤ n ∧ i = .int .i64 k ∧ Hid (xs.take (k * 4) = ys.take (k * 4)) ∧ Hid (∃ j, wr = w.drewN j)) (fun v i _ => n - (intOf i).toNat)
  case atStart => exact ⟨0, Nat.zero_le _, rfl, rfl, ⟨0, rfl⟩⟩
  case round =>
    obtain ⟨k, hk, rfl, heq, hdr⟩ := hrel
    by_cases hlt : k < n
    · obtain ⟨b1, o1, rfl, hb1, p0', p1', p2', p3'⟩ := arcs_at ha HX.out hlt
      obtain ⟨b2, o2, rfl, hb2, q0', q1', q2', q3'⟩ := arcs_at hb HY.out hlt
      have p0 := show wr.cell? _ = _ by obtain ⟨j, rfl⟩ := hdr.out; exact p0'
      have p1 := show wr.cell? _ = _ by obtain ⟨j, rfl⟩ := hdr.out; exact p1'
      have p2 := show wr.cell? _ = _ by obtain ⟨j, rfl⟩ := hdr.out; exact p2'
      have p3 := show wr.cell? _ = _ by obtain ⟨j, rfl⟩ := hdr.out; exact p3'
      have q0 := show wr.cell? _ = _ by obtain ⟨j, rfl⟩ := hdr.out; exact q0'
      have q1 := show wr.cell? _ = _ by obtain ⟨j, rfl⟩ := hdr.out; exact q1'
      have q2 := show wr.cell? _ = _ by obtain ⟨j, rfl⟩ := hdr.out; exact q2'
      have q3 := show wr.cell? _ = _ by obtain ⟨j, rfl⟩ := hdr.out; exact q3'
      clear p0' p1' p2' p3' q0' q1' q2' q3'
      have hki : (k : Int) < (n : Int) := by omega
      cases hs : sameAt xs ys k
      · have HT := hid (arcs_ne hs)
        unfold sameAt at hs
        generalize ga xs (k * 4) = x0 at *
        generalize ga xs (k * 4 + 1) = x1 at *
        generalize ga xs (k * 4 + 2) = x2 at *
        generalize ga xs (k * 4 + 3) = x3 at *
        generalize ga ys (k * 4) = y0 at *
        generalize ga ys (k * 4 + 1) = y1 at *
        generalize ga ys (k * 4 + 2) = y2 at *
        generalize ga ys (k * 4 + 3) = y3 at *
        clear heq
        have hs2 : ¬(x0 = y0 ∧ x1 = y1 ∧ x2 = y2 ∧ x3 = y3) := of_decide_eq_false hs
        have hd : ¬ x0 = y0 ∨ (x0 = y0 ∧ ¬ x1 = y1) ∨ (x0 = y0 ∧ x1 = y1 ∧ ¬ x2 = y2) ∨ (x0 = y0 ∧ x1 = y1 ∧ x2 = y2 ∧ ¬ x3 = y3) := by omega
        clear hs2 hs
        rcases hd with hd | ⟨rfl, hd⟩ | ⟨rfl, rfl, hd⟩ | ⟨rfl, rfl, rfl, hd⟩
        all_goals
          go_wp2_with fail
          go_quiet (fail)
          go_wp2
          go_ret
          exact ⟨ret_bool (by simp [HT.out]), by obtain ⟨j, rfl⟩ := hdr.out; exact ⟨_, World.drewN_drewN _ _ _⟩⟩
      · have HT := hid (arcs_snoc HX.out HY.out hlt heq.out hs)
        unfold sameAt at hs
        have hs2 := of_decide_eq_true hs
        obtain ⟨e0, e1, e2, e3⟩ := hs2
        rw [← e0] at q0
        rw [← e1] at q1
        rw [← e2] at q2
        rw [← e3] at q3
        clear e0 e1 e2 e3 hs heq
        generalize ga xs (k * 4) = x0 at *
        generalize ga xs (k * 4 + 1) = x1 at *
        generalize ga xs (k * 4 + 2) = x2 at *
        generalize ga xs (k * 4 + 3) = x3 at *
        go_wp2_with fail
        go_quiet (fail)
        go_wp2
        go_roundw
        case rel => exact ⟨k + 1, hlt, by go_num, HT, by obtain ⟨j, rfl⟩ := hdr.out; exact ⟨_, World.drewN_drewN _ _ _⟩⟩
        case measure => simp [intOf]; omega
    · have HT := hid (take_eq_all HX.out HY.out (by omega) heq.out)
      go_wp2
      go_ret
      exact ⟨ret_bool (by simp [HT.out]), hdr.out⟩
end Go.Proofs.Ytenfleceeeimlaa.Num
