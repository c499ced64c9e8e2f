/-
  math.Sqrt: the root, rounded once.
-/
import Derived.Test.YtpdenbflibplfaaExt
import Derived.Test.YtpdenbflibplfaaBound
namespace Go.Proofs.Ytpdenbflibplfaa.Num
open Go.RowKit Go.Proofs.Fl
theorem Sqrt_calls (x : Nat) (w : World) : Calls Try.prog 69 #[.float .f64 x] w (RetF .f64 (froot x) w) := by
  go_enter Try.func69, Try.ntmps69
  go_wp2_with (refine wpList_sqrt Try.func88 (by kernel_rfl) (by kernel_rfl) (by kernel_rfl) (by kernel_rfl) rfl rfl ?_; intro v n hv)
  go_ret
  exact ⟨v, _, rfl, hv, rfl⟩
end Go.Proofs.Ytpdenbflibplfaa.Num
