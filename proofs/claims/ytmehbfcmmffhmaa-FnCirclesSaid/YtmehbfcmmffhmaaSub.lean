/-
  Whether a float32 is subnormal, by the program: the absolute value of the number, made a float64, against the least normal number.
-/
import Derived.Test.YtmehbfcmmffhmaaExt
namespace Go.Proofs.Ytmehbfcmmffhmaa.Num
open Go.RowKit Go.Proofs.Fl
set_option linter.unusedVariables false

theorem Abs_calls (x : Nat) (w : World) : Calls Try.prog 22 #[.float .f64 x] w (Ret (.float .f64 (rg Ieee.double x)) w) := by
  have e := and_mask63 x
  go_enter Try.func22, Try.ntmps22
  go_wp2
  go_ret
  exact ⟨ret_float (by unfold rg; rw [sw64]), 0, rfl⟩

end Go.Proofs.Ytmehbfcmmffhmaa.Num
