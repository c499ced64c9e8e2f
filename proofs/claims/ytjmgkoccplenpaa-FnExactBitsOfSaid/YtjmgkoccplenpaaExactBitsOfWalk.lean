/-
  The law on BitsOf: both texts give the bits, and one number for all NaNs.
-/
import Derived.Test.YtjmgkoccplenpaaExt
import Derived.Test.YtjmgkoccplenpaaBits
namespace Go.Proofs.Ytjmgkoccplenpaa.fnExactBitsOf
open Go.RowKit Go.Proofs.Fl Go.Proofs.Ytjmgkoccplenpaa.Num
set_option linter.unusedVariables false

theorem spec_calls (x : Nat) (hx : x < 4294967296) (w : World) : Calls Try.prog 16 #[.float .f32 x] w (Ret (.int .i64 (cn .f32 x)) w) := by
  go_enter Try.func16, Try.ntmps16
  go_wp2_with (go_at_call 28; refine (l01Bits_calls _ (by assumption) _).mono ?_; rintro e w' ⟨rfl, n, rfl⟩)
  go_ret
  exact ⟨rfl, _, rfl⟩
theorem impl_calls (x : Nat) (hx : x < 4294967296) (w : World) : Calls Try.prog 17 #[.float .f32 x] w (Ret (.int .i64 (cn .f32 x)) w) := by
  go_enter Try.func17, Try.ntmps17
  go_wp2
  all_goals go_ret
  all_goals rename_i h
  all_goals rw [order_self] at h
  all_goals exact ⟨ret_int (by simp [cn, h, qn]), 0, rfl⟩
theorem walk (x : Nat) (hw : (Lit.float .f32 x).wf = true) (w : World) : Calls Try.prog 6 #[.float .f32 x] w fun e w' => e = .returned (.bool true) ∧ Below w.heap.size w w' := by
  have hx : x < 4294967296 := wf32 hw
  clear hw
  go_enter Try.func6, Try.ntmps6
  go_wp2_with (first | (go_at_call 16; refine (spec_calls _ (by assumption) _).mono ?_; rintro e w' ⟨rfl, n, rfl⟩) | (go_at_call 17; refine (impl_calls _ (by assumption) _).mono ?_; rintro e w' ⟨rfl, n, rfl⟩))
  go_ret
  exact ⟨rfl, below_drewN (Below.refl _ _) _⟩
end Go.Proofs.Ytjmgkoccplenpaa.fnExactBitsOf
