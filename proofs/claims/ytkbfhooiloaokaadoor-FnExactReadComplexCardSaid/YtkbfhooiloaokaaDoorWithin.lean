/-
  Whether a number lies within bounds (the program's within, the reference's l00In).
-/
import Derived.Test.YtkbfhooiloaokaaDoorExt
namespace Go.Proofs.YtkbfhooiloaokaaDoor.Num
open Go.RowKit Go.Proofs.Fl
set_option linter.unusedVariables false

def inB (n lo hi : Int) : Bool := decide (lo ≤ n) && decide (n ≤ hi)
theorem inB_yes {n lo hi : Int} (h1 : lo ≤ n) (h2 : n ≤ hi) : inB n lo hi = true := by simp [inB, h1, h2]
theorem inB_no {n lo hi : Int} (h : n < lo ∨ hi < n) : inB n lo hi = false := by
  unfold inB
  rcases h with h | h
  · rw [decide_eq_false (by omega)]; rfl
  · rw [decide_eq_false (p := n ≤ hi) (by omega)]; simp

theorem l00In_is (n lo hi : Int) (b : Bool) (h : inB n lo hi = b) (w : World) : Calls Tryd.prog 58 #[.int .i64 n, .int .i64 lo, .int .i64 hi] w (Ret (.bool b) w) := by
  have H := hid h
  clear h
  by_cases h1 : lo ≤ n
  all_goals
    go_enter Tryd.func58, Tryd.ntmps58
    go_wp2
    go_ret
    exact ⟨ret_bool (by rw [← H.out]; simp [inB]; omega), 0, rfl⟩
theorem within_is (n lo hi : Int) (b : Bool) (h : inB n lo hi = b) (w : World) : Calls Tryd.prog 61 #[.int .i64 n, .int .i64 lo, .int .i64 hi] w (Ret (.bool b) w) := by
  have H := hid h
  clear h
  by_cases h1 : lo ≤ n
  all_goals
    go_enter Tryd.func61, Tryd.ntmps61
    go_wp2
    go_ret
    exact ⟨ret_bool (by rw [← H.out]; simp [inB]; omega), 0, rfl⟩
end Go.Proofs.YtkbfhooiloaokaaDoor.Num
