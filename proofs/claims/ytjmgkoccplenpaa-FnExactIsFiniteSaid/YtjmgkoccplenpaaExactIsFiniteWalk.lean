/-
  The law on IsFinite: both texts ask the same.
-/
import Derived.Test.YtjmgkoccplenpaaExt
import Derived.Test.YtjmgkoccplenpaaFin
namespace Go.Proofs.Ytjmgkoccplenpaa.fnExactIsFinite
open Go.RowKit Go.Proofs.Fl Go.Proofs.Ytjmgkoccplenpaa.Num
set_option linter.unusedVariables false

theorem spec_calls (x : Nat) (w : World) : Calls Try.prog 11 #[.float .f32 x] w (Ret (.bool (finB x)) w) := by
  go_enter Try.func11, Try.ntmps11
  go_wp2_with (go_at_call 26; refine (l01Finite_calls _ _).mono ?_; rintro e w' ⟨rfl, n, rfl⟩)
  go_ret
  exact ⟨rfl, _, rfl⟩
theorem walk (x : Nat) (hw : (Lit.float .f32 x).wf = true) (w : World) : Calls Try.prog 4 #[.float .f32 x] w fun e w' => e = .returned (.bool true) ∧ Below w.heap.size w w' := by
  go_enter Try.func4, Try.ntmps4
  go_wp2_with (first | (go_at_call 11; refine (spec_calls _ _).mono ?_; rintro e w' ⟨rfl, n, rfl⟩) | (go_at_call 12; refine (IsFinite_calls _ _).mono ?_; rintro e w' ⟨rfl, n, rfl⟩))
  go_ret
  exact ⟨rfl, below_drewN (Below.refl _ _) _⟩
end Go.Proofs.Ytjmgkoccplenpaa.fnExactIsFinite
