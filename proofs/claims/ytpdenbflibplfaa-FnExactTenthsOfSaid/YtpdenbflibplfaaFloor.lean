/-
  math.Floor of a number that is not too great.
-/
import Derived.Test.YtpdenbflibplfaaExt
import Derived.Test.YtpdenbflibplfaaBound
namespace Go.Proofs.Fl
open Go Ieee Go.RowKit
/-- a number's floor -/
def ffloor (x : Nat) : Nat := FloatKind.f64.encode ((FloatKind.f64.decode x).integral .down)
theorem cut_down (s : Bool) (n d : Nat) : Toward.down.cut s n d ≤ Toward.zero.cut s n d + 1 := by
  unfold Toward.cut
  simp only [Bool.toNat_false, Nat.add_zero]
  have : ∀ b : Bool, b.toNat ≤ 1 := by intro b; cases b <;> decide
  exact Nat.add_le_add_left (this _) _
theorem floor_F2 {n x : Nat} (h : F2 n x) (hn : n ≤ 60) : F2 (n + 1) (ffloor x) := by
  obtain ⟨a, i, e1, hi, ha, _⟩ := read_fin D x h.lt
  have g := h.b.Mg h.nn
  rw [← ha] at g
  have hb : Toward.zero.cut (sg D x) (a <<< i.toNat) (-i).toNat ≤ 2 ^ n := by
    unfold Toward.cut
    simp only [Bool.toNat_false, Nat.add_zero]
    rw [least64] at g hi
    obtain ⟨I, hI⟩ : ∃ I : Nat, (i - -1074).toNat = I := ⟨_, rfl⟩
    rw [hI] at g
    simp only [pw_is] at *
    rw [Nat.shiftLeft_eq, Nat.shiftLeft_eq, Nat.one_mul]
    by_cases hi0 : 0 ≤ i
    · rw [show (-i).toNat = 0 by omega, Nat.zero_min]
      rw [show (2 : Nat) ^ 0 = 1 from rfl, Nat.div_one]
      have : I = i.toNat + 1074 := by omega
      rw [this, pw_add, Nat.add_comm 1074 n, pw_add, ← Nat.mul_assoc] at g
      exact Nat.le_of_mul_le_mul_right g (pw_pos _)
    · rw [show i.toNat = 0 by omega]
      simp only [Nat.pow_zero, Nat.mul_one]
      by_cases hd : (-i).toNat ≤ a.log2 + 2
      · rw [Nat.min_eq_left hd]
        apply Nat.div_le_of_le_mul
        have : I + (-i).toNat = 1074 := by omega
        rw [Nat.add_comm 1074 n, pw_add] at g
        rw [← this, pw_add, Nat.mul_comm (pw I), ← Nat.mul_assoc] at g
        have := Nat.le_of_mul_le_mul_right g (pw_pos _)
        rw [Nat.mul_comm]
        exact this
      · rw [Nat.min_eq_right (by omega)]
        have hlt := Nat.lt_log2_self (n := a)
        have e2 : 2 ^ (a.log2 + 2) = 2 * 2 ^ (a.log2 + 1) := by rw [Nat.pow_succ, Nat.mul_comm]
        rw [Nat.div_eq_of_lt (by omega)]
        exact Nat.zero_le _
  have hf : ffloor x = D.write (.number (sg D x) (Toward.down.cut (sg D x) (a <<< i.toNat) (-i).toNat) 0) := by
    have e1' : FloatKind.f64.decode x = .number (sg D x) a i := e1
    unfold ffloor
    rw [e1']
    rfl
  refine ⟨by omega, ?_⟩
  rw [hf]
  refine write_le D _ _ _ _ ?_
  have hc := cut_down (sg D x) (a <<< i.toNat) (-i).toNat
  have h1 : 1 ≤ 2 ^ n := Nat.one_le_two_pow
  rw [Mg_P2, least64]
  simp only [pw_is]
  rw [show (0 - (-1074 : Int)).toNat = 1074 from rfl, show (-1074 - (0 : Int)).toNat = 0 from rfl]
  rw [show 1074 + (n + 1) = (n + 1) + 1074 by omega, pw_add, show pw 0 = 1 from rfl, Nat.mul_one]
  refine Nat.mul_le_mul_right _ ?_
  unfold pw
  rw [Nat.pow_succ]
  omega
theorem integral_of (x : Nat) (d : Ieee.Datum) (hd : FloatKind.f64.decode x = d) (hn : d.isNaN = false) : Extern.MathFloor.toIntegral "math.archFloor" .down #[.float .f64 x] = pure (.float .f64 (FloatKind.f64.encode (d.integral .down))) := by
  rw [Extern.MathFloor.toIntegral]
  generalize FloatKind.decode FloatKind.f64 = dec at *
  conv =>
    lhs
    whnf
  generalize dec x = d' at *
  subst hd
  cases d'
  all_goals first | rfl | (cases hn)
theorem run_floor {P : Program} {x : Nat} (h : nan .f64 x = false) (w : World) : (Extern.MathFloor.toIntegral "math.archFloor" .down #[.float .f64 x]).run P w = .ok (.float .f64 (ffloor x)) w := by
  rw [integral_of x _ rfl h]
  rfl
end Go.Proofs.Fl
namespace Go.Proofs.Ytpdenbflibplfaa.Num
open Go.RowKit Go.Proofs.Fl
set_option linter.unusedVariables false
theorem archFloor_run (x : Nat) (h : nan .f64 x = false) (w : World) : (callFunc 90 #[.float .f64 x]).run Try.prog w = .ok (.value (.float .f64 (ffloor x))) w := by
  rw [run_callFunc_extern (e := Extern.MathFloor.toIntegral "math.archFloor" .down) Try.func90 (by kernel_rfl) (by kernel_rfl) (by kernel_rfl) (by kernel_rfl)]
  rw [run_floor h]
  rfl
theorem Floor_calls (x : Nat) (h : nan .f64 x = false) (w : World) : Calls Try.prog 73 #[.float .f64 x] w (Ret (.float .f64 (ffloor x)) w) := by
  have hr := archFloor_run x h
  clear h
  go_enter Try.func73, Try.ntmps73
  go_wp2
  go_ret
  exact ⟨rfl, 0, rfl⟩
end Go.Proofs.Ytpdenbflibplfaa.Num
