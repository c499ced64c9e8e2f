/-
  Whether a float32 is finite: both texts take it from itself and look for zero.
-/
import Derived.Test.YtpdenbflibplfaaExt
namespace Go.Proofs.Ytpdenbflibplfaa.Num
open Go.RowKit Go.Proofs.Fl
set_option linter.unusedVariables false

theorem l01Finite_calls (x : Nat) (w : World) : Calls Try.prog 71 #[.float .f32 x] w (Ret (.bool (finB x)) w) := by
  go_enter Try.func71, Try.ntmps71
  go_wp2_with (refine wpList_fop rfl rfl rfl rfl ?_; intro v n hv)
  go_ret
  exact ⟨ret_bool (finB_eq hv), _, rfl⟩
theorem IsFinite_calls (x : Nat) (w : World) : Calls Try.prog 63 #[.float .f32 x] w (Ret (.bool (finB x)) w) := by
  go_enter Try.func63, Try.ntmps63
  go_wp2_with (refine wpList_fop rfl rfl rfl rfl ?_; intro v n hv)
  go_ret
  exact ⟨ret_bool (finB_eq hv), _, rfl⟩
end Go.Proofs.Ytpdenbflibplfaa.Num
