/-
  The law on the constants: no input.
-/
import Derived.Test.YtjmgkoccplenpaaExt
namespace Go.Proofs.Ytjmgkoccplenpaa.fnExactConstants
open Go.RowKit Go.Proofs.Fl Go.Proofs.Ytjmgkoccplenpaa.Num
set_option linter.unusedVariables false

theorem walk (w : World) : Calls Try.prog 3 #[] w fun e w' => e = .returned (.bool true) ∧ Below w.heap.size w w' := by
  go_enter Try.func3, Try.ntmps3
  go_wp2
  go_ret
  exact ⟨rfl, Below.refl _ _⟩
end Go.Proofs.Ytjmgkoccplenpaa.fnExactConstants
