/-
  Whether a float32 is finite: both texts take it from itself and look for zero.
-/
import Derived.Test.YtmehbfcmmffhmaaExt
namespace Go.Proofs.Ytmehbfcmmffhmaa.Num
open Go.RowKit Go.Proofs.Fl
set_option linter.unusedVariables false

theorem IsFinite_calls (x : Nat) (w : World) : Calls Try.prog 19 #[.float .f32 x] w (Ret (.bool (finB x)) w) := by
  go_enter Try.func19, Try.ntmps19
  go_wp2_with (refine wpList_fop rfl rfl rfl rfl ?_; intro v n hv)
  go_ret
  exact ⟨ret_bool (finB_eq hv), _, rfl⟩
end Go.Proofs.Ytmehbfcmmffhmaa.Num
