/-
  The law on FromBits: within bounds both texts give the number with these bits.
-/
import Derived.Test.YtpdenbflibplfaaFrom
import Derived.Test.YtpdenbflibplfaaWithin
import Derived.Test.YtpdenbflibplfaaSameFloat
namespace Go.Proofs.Ytpdenbflibplfaa.fnExactFromBits
open Go.RowKit Go.Proofs.Fl Go.Proofs.Ytpdenbflibplfaa.Num
set_option linter.unusedVariables false

theorem spec_no (n : Int) (h : inB n 0 4294967295 = false) (w : World) :
    Calls Try.prog 16 #[.int .i64 n] w (Ret (.tuple #[.float .f32 0, .bool false]) w) := by
  have H := hid h
  clear h
  go_enter Try.func16, Try.ntmps16
  go_wp2_with (go_at_call 50; refine (l00In_is _ _ _ false H.out _).mono ?_; rintro e w' ⟨rfl, n, rfl⟩)
  go_ret2
  exact ⟨rfl, _, rfl⟩
theorem spec_yes (n : Int) (h : inB n 0 4294967295 = true) (h0 : 0 ≤ n) (h1 : n < 4294967296) (w : World) :
    Calls Try.prog 16 #[.int .i64 n] w (Ret (.tuple #[.float .f32 n.toNat, .bool true]) w) := by
  have H := hid h
  clear h
  go_enter Try.func16, Try.ntmps16
  go_wp2_with (first | (go_at_call 50; refine (l00In_is _ _ _ true H.out _).mono ?_; rintro e w' ⟨rfl, n, rfl⟩) | (go_at_call 51; refine (l01From_calls _ h0 h1 _).mono ?_; rintro e w' ⟨rfl, n, rfl⟩))
  go_ret2
  exact ⟨rfl, _, rfl⟩
theorem impl_no (n : Int) (h : inB n 0 4294967295 = false) (w : World) :
    Calls Try.prog 17 #[.int .i64 n] w (Ret (.tuple #[.float .f32 0, .bool false]) w) := by
  have H := hid h
  clear h
  go_enter Try.func17, Try.ntmps17
  go_wp2_with (go_at_call 52; refine (within_is _ _ _ false H.out _).mono ?_; rintro e w' ⟨rfl, n, rfl⟩)
  go_ret2
  exact ⟨rfl, _, rfl⟩
theorem impl_yes (n : Int) (h : inB n 0 4294967295 = true) (h0 : 0 ≤ n) (h1 : n < 4294967296) (w : World) :
    Calls Try.prog 17 #[.int .i64 n] w (Ret (.tuple #[.float .f32 n.toNat, .bool true]) w) := by
  have H := hid h
  clear h
  go_enter Try.func17, Try.ntmps17
  go_wp2_with (go_at_call 52; refine (within_is _ _ _ true H.out _).mono ?_; rintro e w' ⟨rfl, n, rfl⟩)
  go_ret2
  exact ⟨rfl, _, rfl⟩
theorem walk (n : Int) (hn : (Lit.int .i64 n).wf = true) (w : World) : Calls Try.prog 3 #[.int .i64 n] w fun e w' => e = .returned (.bool true) ∧ Below w.heap.size w w' := by
  clear hn
  by_cases h : 0 ≤ n ∧ n ≤ 4294967295
  · obtain ⟨h0, h1⟩ := h
    have H := hid (inB_yes h0 h1)
    go_enter Try.func3, Try.ntmps3
    go_wp2_with (first | (go_at_call 16; refine (spec_yes _ H.out (by omega) (by omega) _).mono ?_; rintro e w' ⟨rfl, n, rfl⟩) | (go_at_call 17; refine (impl_yes _ H.out (by omega) (by omega) _).mono ?_; rintro e w' ⟨rfl, n, rfl⟩) | (refine wpList_wide rfl rfl (by kernel_rfl) Try.underlying26 ?_; intro v n hv) | (go_at_call 18; refine (sameFloat_calls _ _ (wide_same (FEq.refl _ _) (by assumption) (by assumption)) _).mono ?_; rintro e w' ⟨rfl, n, rfl⟩))
    go_ret
    exact ⟨rfl, below_drewN (Below.refl _ _) _⟩
  · have H := hid (inB_no (n := n) (lo := 0) (hi := 4294967295) (by omega))
    clear h
    go_enter Try.func3, Try.ntmps3
    go_wp2_with (first | (go_at_call 16; refine (spec_no _ H.out _).mono ?_; rintro e w' ⟨rfl, n, rfl⟩) | (go_at_call 17; refine (impl_no _ H.out _).mono ?_; rintro e w' ⟨rfl, n, rfl⟩) | (refine wpList_wide rfl rfl (by kernel_rfl) Try.underlying26 ?_; intro v n hv) | (go_at_call 18; refine (sameFloat_calls _ _ (wide_same (FEq.refl _ _) (by assumption) (by assumption)) _).mono ?_; rintro e w' ⟨rfl, n, rfl⟩))
    go_ret
    exact ⟨rfl, below_drewN (Below.refl _ _) _⟩
end Go.Proofs.Ytpdenbflibplfaa.fnExactFromBits
