/-
  The laws' sameFloat: true of two float64 that are the same, up to which NaN.
-/
import Derived.Test.YtkbfhooiloaokaaDoorExt
namespace Go.Proofs.YtkbfhooiloaokaaDoor.Num
open Go.RowKit Go.Proofs.Fl
set_option linter.unusedVariables false

theorem gt_same {v v' c : Nat} (h : FEq .f64 v c) (h' : FEq .f64 v' c) : ((FloatKind.f64.format.order v 0 == some Ordering.gt) == (FloatKind.f64.format.order v' 0 == some Ordering.gt)) = true := by
  rw [order_congr h (FEq.refl _ _), order_congr h' (FEq.refl _ _)]
  simp
theorem sameFloat_calls (a b : Nat) (h : FEq .f64 a b) (w : World) : Calls Tryd.prog 50 #[.float .f64 a, .float .f64 b] w (Ret (.bool true) w) := by
  have ea := order_self .f64 a
  have eb := order_self .f64 b
  rcases h.cases with rfl | ⟨h1, h2⟩
  · cases hn : nan .f64 a with
    | true =>
      rw [hn] at ea
      clear hn h eb
      go_enter Tryd.func50, Tryd.ntmps50
      go_wp2
      go_ret
      exact ⟨rfl, 0, rfl⟩
    | false =>
      rw [hn] at ea
      have e2 : (FloatKind.f64.format.order a a == some Ordering.eq) = true := by simpa using ea
      clear hn h eb
      by_cases h0 : (FloatKind.f64.format.order a 0 == some Ordering.eq) = true
      · go_enter Tryd.func50, Tryd.ntmps50
        go_wp2_with (refine wpList_fop rfl rfl rfl rfl ?_; intro v n hv)
        go_ret
        exact ⟨ret_bool (gt_same (by assumption) (by assumption)), _, rfl⟩
      · have h0 : (FloatKind.f64.format.order a 0 == some Ordering.eq) = false := by simpa using h0
        go_enter Tryd.func50, Tryd.ntmps50
        go_wp2
        go_ret
        exact ⟨rfl, 0, rfl⟩
  · rw [h1] at ea
    rw [h2] at eb
    clear h h1 h2
    go_enter Tryd.func50, Tryd.ntmps50
    go_wp2
    go_ret
    exact ⟨rfl, 0, rfl⟩
end Go.Proofs.YtkbfhooiloaokaaDoor.Num
