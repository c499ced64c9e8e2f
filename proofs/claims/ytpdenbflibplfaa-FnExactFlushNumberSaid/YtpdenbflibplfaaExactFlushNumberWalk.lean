/-
  The law on FlushNumber: a subnormal number becomes a zero of its sign, by the bits or by the numbers.
-/
import Derived.Test.YtpdenbflibplfaaFrom
import Derived.Test.YtpdenbflibplfaaBits
import Derived.Test.YtpdenbflibplfaaSub
import Derived.Test.YtpdenbflibplfaaSameFloat
namespace Go.Proofs.Ytpdenbflibplfaa.Num
open Go.RowKit Go.Proofs.Fl
set_option linter.unusedVariables false

theorem l01Flush_calls (x : Nat) (hx : x < 4294967296) (w : World) : Calls Try.prog 54 #[.float .f32 x] w (Ret (.float .f32 (flush x)) w) := by
  by_cases h : rg Ieee.single x < 8388608
  · have el := low_cn hx
    rw [decide_eq_true h] at el
    have em := low_mask hx h
    have Hf := hid (flush_low h)
    have hz : (if sg Ieee.single x = true then 2147483648 else 0 : Nat) < 4294967296 := by split <;> omega
    generalize (if sg Ieee.single x = true then 2147483648 else 0 : Nat) = z at *
    clear h
    go_enter Try.func54, Try.ntmps54
    go_wp2_with (first | (go_at_call 82; refine (l01Bits_calls _ (by assumption) _).mono ?_; rintro e w' ⟨rfl, n, rfl⟩) | (go_at_call 51; refine (l01From_calls _ (by omega) (by omega) _).mono ?_; rintro e w' ⟨rfl, n, rfl⟩))
    go_ret
    exact ⟨ret_float (by rw [Hf.out]), _, rfl⟩
  · have el := low_cn hx
    rw [decide_eq_false h] at el
    have Hf := hid (show flush x = x by unfold flush; rw [if_neg h])
    clear h
    go_enter Try.func54, Try.ntmps54
    go_wp2_with (first | (go_at_call 82; refine (l01Bits_calls _ (by assumption) _).mono ?_; rintro e w' ⟨rfl, n, rfl⟩))
    go_ret
    exact ⟨ret_float Hf.out.symm, _, rfl⟩
theorem Copysign_calls (x : Nat) (w : World) : Calls Try.prog 56 #[.float .f64 0, .float .f64 x] w (Ret (.float .f64 (flush64 x)) w) := by
  have H := hid (and_sign64 x)
  go_enter Try.func56, Try.ntmps56
  go_wp2
  go_ret
  exact ⟨ret_float (by rw [H.out]; rfl), 0, rfl⟩
theorem FlushNumber_calls (x : Nat) (hx : x < 4294967296) (w : World) : Calls Try.prog 20 #[.float .f32 x] w (Ret (.float .f32 (flush x)) w) := by
  cases h : subB x with
  | true =>
    have hl : rg Ieee.single x < 8388608 := by unfold subB at h; simp at h; exact h.2
    have hn := low_not_nan hl
    have cx : ∀ w, (convert 22 26 (.float .f32 x)).run Try.prog w = .ok (.float .f64 (fwide x)) w := fun w => run_convert_float_float w _ _ .f32 .f64 x _ (by kernel_rfl) Try.underlying26 (wide_some hn)
    have Hz := hid (flush_wide hn)
    have Hf := hid (flush_low hl)
    have Hs := hid h
    have Ht := hid (fits_zero (sg Ieee.single x))
    have Hv := hid (nar_zero (sg Ieee.single x))
    have Hw := hid (nan_zero (sg Ieee.single x))
    clear h hn hl
    generalize (if sg Ieee.single x = true then 9223372036854775808 else 0 : Nat) = z at Hz Ht Hv
    generalize (if sg Ieee.single x = true then 2147483648 else 0 : Nat) = y at Hf Hv Hw
    go_enter Try.func20, Try.ntmps20
    go_wp2_with (first | (go_at_call 55; refine (IsSubnormal_calls _ _).mono ?_; rw [Hs.out]; rintro e w' ⟨rfl, n, rfl⟩) | (go_at_call 56; refine (Copysign_calls _ _).mono ?_; rw [Hz.out]; rintro e w' ⟨rfl, n, rfl⟩) | (refine wpList_narrow rfl rfl (by kernel_rfl) Try.underlying22 Ht.out ?_; rw [Hv.out]; intro v n hv; obtain rfl := hv.eq Hw.out; clear hv))
    go_ret
    exact ⟨ret_float Hf.out.symm, _, rfl⟩
  | false =>
    have Hf := hid (flush_other hx h)
    have Hs := hid h
    clear h
    go_enter Try.func20, Try.ntmps20
    go_wp2_with (go_at_call 55; refine (IsSubnormal_calls _ _).mono ?_; rw [Hs.out]; rintro e w' ⟨rfl, n, rfl⟩)
    go_ret
    exact ⟨ret_float Hf.out.symm, _, rfl⟩
end Go.Proofs.Ytpdenbflibplfaa.Num
namespace Go.Proofs.Ytpdenbflibplfaa.fnExactFlushNumber
open Go.RowKit Go.Proofs.Fl Go.Proofs.Ytpdenbflibplfaa.Num
theorem spec_calls (x : Nat) (hx : x < 4294967296) (w : World) : Calls Try.prog 19 #[.float .f32 x] w (Ret (.float .f32 (flush x)) w) := by
  go_enter Try.func19, Try.ntmps19
  go_wp2_with (go_at_call 54; refine (l01Flush_calls _ (by assumption) _).mono ?_; rintro e w' ⟨rfl, n, rfl⟩)
  go_ret
  exact ⟨rfl, _, rfl⟩
theorem walk (x : Nat) (hw : (Lit.float .f32 x).wf = true) (w : World) : Calls Try.prog 4 #[.float .f32 x] w fun e w' => e = .returned (.bool true) ∧ Below w.heap.size w w' := by
  have hx : x < 4294967296 := wf32 hw
  clear hw
  go_enter Try.func4, Try.ntmps4
  go_wp2_with (first | (go_at_call 19; refine (spec_calls _ (by assumption) _).mono ?_; rintro e w' ⟨rfl, n, rfl⟩) | (go_at_call 20; refine (FlushNumber_calls _ (by assumption) _).mono ?_; rintro e w' ⟨rfl, n, rfl⟩) | (refine wpList_wide rfl rfl (by kernel_rfl) Try.underlying26 ?_; intro v n hv) | (go_at_call 18; refine (sameFloat_calls _ _ (wide_same (FEq.refl _ _) (by assumption) (by assumption)) _).mono ?_; rintro e w' ⟨rfl, n, rfl⟩))
  go_ret
  exact ⟨rfl, below_drewN (Below.refl _ _) _⟩
end Go.Proofs.Ytpdenbflibplfaa.fnExactFlushNumber
