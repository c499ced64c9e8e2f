/-
  Whether two float32 are the same number.
-/
import Derived.Test.YtjmgkoccplenpaaExt
import Derived.Test.YtjmgkoccplenpaaBits
namespace Go.Proofs.Ytjmgkoccplenpaa.Num
open Go.RowKit Go.Proofs.Fl
set_option linter.unusedVariables false

theorem l01Same_calls (x y : Nat) (hx : x < 4294967296) (hy : y < 4294967296) (w : World) : Calls Try.prog 31 #[.float .f32 x, .float .f32 y] w (Ret (.bool (sameB x y)) w) := by
  go_enter Try.func31, Try.ntmps31
  go_wp2_with (go_at_call 28; refine (l01Bits_calls _ (by assumption) _).mono ?_; rintro e w' ⟨rfl, n, rfl⟩)
  go_ret
  refine ⟨ret_bool ?_, _, rfl⟩
  unfold sameB
  rw [Bool.eq_iff_iff, beq_iff_eq, beq_iff_eq]
  exact Int.ofNat_inj
theorem SameNumber_calls (x y : Nat) (hx : x < 4294967296) (hy : y < 4294967296) (w : World) :
    Calls Try.prog 23 #[.float .f32 x, .float .f32 y] w (Ret (.bool (sameB x y)) w) := by
  have ex := order_self .f32 x
  have ey := order_self .f32 y
  by_cases hn : nan .f32 x = true ∨ nan .f32 y = true
  · have hs := hid (same_of_nan hn)
    cases h1 : nan .f32 x <;> cases h2 : nan .f32 y <;> rw [h1] at ex <;> rw [h2] at ey <;> first | (simp [h1, h2] at hn; done) | skip
    all_goals
      clear hn
      have H1 := hid h1
      have H2 := hid h2
      clear h1 h2
      go_enter Try.func23, Try.ntmps23
      go_wp2
      go_ret
      exact ⟨ret_bool (by rw [hs.out, H1.out, H2.out]; rfl), 0, rfl⟩
  · obtain ⟨h1, h2⟩ : nan .f32 x = false ∧ nan .f32 y = false := by simpa using hn
    have hs := hid (same_spell h1 h2 hx hy)
    have cx : ∀ w, (convert 23 25 (.float .f32 x)).run Try.prog w = .ok (.float .f64 (fwide x)) w := fun w => run_convert_float_float w _ _ .f32 .f64 x _ (by kernel_rfl) Try.underlying25 (wide_some h1)
    have cy : ∀ w, (convert 23 25 (.float .f32 y)).run Try.prog w = .ok (.float .f64 (fwide y)) w := fun w => run_convert_float_float w _ _ .f32 .f64 y _ (by kernel_rfl) Try.underlying25 (wide_some h2)
    have sx := signbit64 (fwide x) fwide_lt
    have sy := signbit64 (fwide y) fwide_lt
    rw [h1] at ex
    rw [h2] at ey
    clear hn h1 h2
    cases ho : (FloatKind.f32.format.order x y == some Ordering.eq)
    all_goals
      have Ho := hid ho
      go_enter Try.func23, Try.ntmps23
      go_wp2
      go_ret
      exact ⟨ret_bool (by rw [hs.out, Ho.out]; simp), 0, rfl⟩
end Go.Proofs.Ytjmgkoccplenpaa.Num
