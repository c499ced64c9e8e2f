/-
  A float32 out of its bits, by the reference.
-/
import Derived.Test.YtpdenbflibplfaaExt
namespace Go.Proofs.Ytpdenbflibplfaa.Num
open Go.RowKit Go.Proofs.Fl
set_option linter.unusedVariables false

theorem l01From_calls (n : Int) (h0 : 0 ≤ n) (h1 : n < 4294967296) (w : World) : Calls Try.prog 51 #[.int .i64 n] w (Ret (.float .f32 n.toNat) w) := by
  go_enter Try.func51, Try.ntmps51
  go_wp2
  go_ret
  exact ⟨rfl, 0, rfl⟩
end Go.Proofs.Ytpdenbflibplfaa.Num
