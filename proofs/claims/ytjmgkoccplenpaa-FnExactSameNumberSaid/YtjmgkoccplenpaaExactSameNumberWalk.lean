/-
  The law on SameNumber: the program compares the numbers and their signs, the reference compares the bits, with one number for all NaNs.
-/
import Derived.Test.YtjmgkoccplenpaaExt
import Derived.Test.YtjmgkoccplenpaaSame
namespace Go.Proofs.Ytjmgkoccplenpaa.fnExactSameNumber
open Go.RowKit Go.Proofs.Fl Go.Proofs.Ytjmgkoccplenpaa.Num
set_option linter.unusedVariables false

theorem spec_calls (x y : Nat) (hx : x < 4294967296) (hy : y < 4294967296) (w : World) : Calls Try.prog 22 #[.float .f32 x, .float .f32 y] w (Ret (.bool (sameB x y)) w) := by
  go_enter Try.func22, Try.ntmps22
  go_wp2_with (go_at_call 31; refine (l01Same_calls _ _ (by assumption) (by assumption) _).mono ?_; rintro e w' ⟨rfl, n, rfl⟩)
  go_ret
  exact ⟨rfl, _, rfl⟩
theorem walk (x : Nat) (hwx : (Lit.float .f32 x).wf = true) (y : Nat) (hwy : (Lit.float .f32 y).wf = true) (w : World) : Calls Try.prog 9 #[.float .f32 x, .float .f32 y] w fun e w' => e = .returned (.bool true) ∧ Below w.heap.size w w' := by
  have hx : x < 4294967296 := wf32 hwx
  have hy : y < 4294967296 := wf32 hwy
  clear hwx hwy
  go_enter Try.func9, Try.ntmps9
  go_wp2_with (first | (go_at_call 22; refine (spec_calls _ _ (by assumption) (by assumption) _).mono ?_; rintro e w' ⟨rfl, n, rfl⟩) | (go_at_call 23; refine (SameNumber_calls _ _ (by assumption) (by assumption) _).mono ?_; rintro e w' ⟨rfl, n, rfl⟩))
  go_ret
  exact ⟨rfl, below_drewN (Below.refl _ _) _⟩
end Go.Proofs.Ytjmgkoccplenpaa.fnExactSameNumber
