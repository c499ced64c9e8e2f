/-
  The bits of a float32, one number for all NaNs.
-/
import Derived.Test.YtkbfhooiloaokaaDoorExt
namespace Go.Proofs.YtkbfhooiloaokaaDoor.Num
open Go.RowKit Go.Proofs.Fl
set_option linter.unusedVariables false

theorem l01Bits_calls (x : Nat) (hx : x < 4294967296) (w : World) : Calls Tryd.prog 68 #[.float .f32 x] w (Ret (.int .i64 (cn .f32 x)) w) := by
  go_enter Tryd.func68, Tryd.ntmps68
  go_wp2
  all_goals go_ret
  all_goals rename_i h
  all_goals rw [order_self] at h
  all_goals exact ⟨ret_int (by simp [cn, h, qn]), 0, rfl⟩
end Go.Proofs.YtkbfhooiloaokaaDoor.Num
