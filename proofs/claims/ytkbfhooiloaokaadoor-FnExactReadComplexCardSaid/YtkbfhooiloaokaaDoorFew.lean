/-
  Whether a list of float32 has at most 256 numbers (the reference's l01Few).
-/
import Derived.Test.YtkbfhooiloaokaaDoorExt
namespace Go.Proofs.YtkbfhooiloaokaaDoor.Num
open Go.RowKit Go.Proofs.Fl
theorem l01Few_is (A : Option Addr) (n c : Nat) (b : Bool) (h : decide (n ≤ 256) = b) (w : World) : Calls Tryd.prog 46 #[.slice A n c] w (Ret (.bool b) w) := by
  have H := hid h
  clear h
  go_enter Tryd.func46, Tryd.ntmps46
  go_wp2
  go_ret
  exact ⟨ret_bool (by rw [← H.out, Bool.eq_iff_iff]; simp; omega), 0, rfl⟩
end Go.Proofs.YtkbfhooiloaokaaDoor.Num
