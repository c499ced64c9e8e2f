/-
  The angle of a point in float64, as both texts compute it: its numbers, and their bounds. Over no program.
-/
import Derived.Test.YtmehbfcmmffhmaaLogN
namespace Go.Proofs.Fl
open Go Ieee Go.RowKit

/-- a quotient of a number by one that is no less -/
theorem quo_le {x y : Nat} (hx : rg D x < D.infRung) (hy : rg D y < D.infRung) (h : rg D x ≤ rg D y) (h0 : 0 < rg D y) : F2 1 (fop .quo .f64 x y) := by
  refine ⟨by omega, ?_⟩
  obtain ⟨a, i, e1, hi, ha, _⟩ := read_fin D x hx
  obtain ⟨b, j, e2, hj, hb, _⟩ := read_fin D y hy
  have hab : a * 2 ^ (i - D.leastPlace).toNat ≤ b * 2 ^ (j - D.leastPlace).toNat := by
    rw [ha, hb]
    exact Mg_mono D h
  have hb0 : b ≠ 0 := by
    intro h1
    rw [h1, Nat.zero_mul] at hb
    have := Mg_smono D h0
    omega
  obtain ⟨more, q, hq1, hq2⟩ : ∃ more q : Nat, (Datum.number (sg D x) a i).quotient (D.fractionBits + 2) (Datum.number (sg D y) b j) = some (.number (sg D x ^^ sg D y) q (i - j - more - 1)) ∧ q * b ≤ 4 * (a * 2 ^ more) := by
    simp only [Datum.quotient]
    rw [if_neg hb0]
    refine ⟨_, _, rfl, ?_⟩
    rw [Nat.shiftLeft_eq]
    generalize hN : a * 2 ^ (D.fractionBits + 2 + b.log2 - a.log2) = N
    have hdm := Nat.div_add_mod N b
    have hr := Nat.mod_lt N (Nat.pos_of_ne_zero hb0)
    by_cases ha0 : a = 0
    · have hN0 : N = 0 := by rw [← hN, ha0, Nat.zero_mul]
      subst hN0
      simp
    · have hNb : b ≤ N := by
        rw [← hN]
        have l1 := Nat.log2_self_le ha0
        have l2 := Nat.lt_log2_self (n := b)
        have l3 : 2 ^ a.log2 * 2 ^ (D.fractionBits + 2 + b.log2 - a.log2) ≤ a * 2 ^ (D.fractionBits + 2 + b.log2 - a.log2) := Nat.mul_le_mul_right _ l1
        rw [← Nat.pow_add] at l3
        have l4 := Nat.pow_le_pow_right (n := 2) (by omega) (show b.log2 + 1 ≤ a.log2 + (D.fractionBits + 2 + b.log2 - a.log2) by omega)
        omega
      have hs : (N % b != 0).toNat ≤ 1 := by cases (N % b != 0) <;> simp
      have e : (2 * (N / b) + (N % b != 0).toNat) * b ≤ 2 * (b * (N / b)) + b := by
        rw [Nat.add_mul, Nat.mul_assoc, Nat.mul_comm (N / b) b]
        have := Nat.mul_le_mul_right b hs
        omega
      omega
  have hf : fop .quo .f64 x y = D.write (.number (sg D x ^^ sg D y) q (i - j - more - 1)) := by
    have e0 : fop .quo .f64 x y = (((D.read x).quotient (D.fractionBits + 2) (D.read y)).map D.write).getD (qn .f64) := rfl
    rw [e0, e1, e2, hq1, Option.map_some, Option.getD_some]
  rw [hf]
  refine write_le D _ _ _ _ ?_
  rw [Mg_P2]
  rw [least64] at *
  obtain ⟨I, hI⟩ : ∃ I : Nat, (i - -1074).toNat = I := ⟨_, rfl⟩
  obtain ⟨J, hJ⟩ : ∃ J : Nat, (j - -1074).toNat = J := ⟨_, rfl⟩
  simp only [pw_is] at *
  rw [hI, hJ] at hab
  have g3 : q * pw I ≤ 4 * (pw J * pw more) := by
    have s1 : q * pw I * b ≤ 4 * (pw J * pw more) * b := by
      calc q * pw I * b = q * b * pw I := by rw [Nat.mul_right_comm]
        _ ≤ 4 * (a * pw more) * pw I := Nat.mul_le_mul_right _ hq2
        _ = 4 * (a * pw I * pw more) := by simp only [Nat.mul_assoc, Nat.mul_comm (pw more)]
        _ ≤ 4 * (b * pw J * pw more) := Nat.mul_le_mul_left _ (Nat.mul_le_mul_right _ hab)
        _ = 4 * (pw J * pw more) * b := by simp only [Nat.mul_assoc, Nat.mul_comm b]
    exact Nat.le_of_mul_le_mul_right s1 (Nat.pos_of_ne_zero hb0)
  have g4 : q * pw (I + 1074) ≤ pw (1074 + 1) * pw (J + more + 1) := by
    rw [pw_add I, ← Nat.mul_assoc, pw_add 1074 1, pw_add (J + more) 1, pw_add J more, show pw 1 = 2 from rfl]
    have := Nat.mul_le_mul_right (pw 1074) g3
    generalize pw J * pw more = u at *
    have e : pw 1074 * 2 * (u * 2) = 4 * u * pw 1074 := by
      rw [show (4 : Nat) = 2 * 2 from rfl]
      simp only [Nat.mul_assoc, Nat.mul_left_comm, Nat.mul_comm]
    rw [e]
    exact this
  by_cases hs : J + more + 1 ≤ I + 1074
  · rw [show (-1074 - (i - j - more - 1)).toNat = 0 by omega, show (i - j - more - 1 - -1074).toNat = I + 1074 - (J + more + 1) by omega]
    rw [show I + 1074 = (I + 1074 - (J + more + 1)) + (J + more + 1) by omega, pw_add _ (J + more + 1), ← Nat.mul_assoc] at g4
    have := Nat.le_of_mul_le_mul_right g4 (pw_pos _)
    rw [show pw 0 = 1 from rfl, Nat.mul_one]
    exact this
  · rw [show (i - j - more - 1 - -1074).toNat = 0 by omega, show (-1074 - (i - j - more - 1)).toNat = J + more + 1 - (I + 1074) by omega]
    rw [show J + more + 1 = (J + more + 1 - (I + 1074)) + (I + 1074) by omega, pw_add (J + more + 1 - (I + 1074)), ← Nat.mul_assoc] at g4
    have := Nat.le_of_mul_le_mul_right g4 (pw_pos _)
    rw [show pw 0 = 1 from rfl, Nat.mul_one]
    exact this

theorem quo_nn {x y : Nat} (hx : rg D x < D.infRung) (hy : rg D y < D.infRung) (h0 : 0 < rg D x) : nan .f64 (fop .quo .f64 x y) = false := by
  by_cases hz : 0 < rg D y
  · exact nn_div hx hy hz
  · obtain ⟨a, i, e1, hi, ha, _⟩ := read_fin D x hx
    obtain ⟨b, j, e2, hj, hb, _⟩ := read_fin D y hy
    have ha0 : a ≠ 0 := by
      intro h1
      rw [h1, Nat.zero_mul] at ha
      have := Mg_smono D h0
      omega
    have hb0 : b = 0 := by
      rw [show rg D y = 0 by omega, Mg_zero] at hb
      rcases Nat.mul_eq_zero.1 hb with h | h
      · exact h
      · have := Nat.two_pow_pos (j - D.leastPlace).toNat
        omega
    have hq : (Datum.number (sg D x) a i).quotient (D.fractionBits + 2) (Datum.number (sg D y) b j) = some (.infinity (sg D x ^^ sg D y)) := by
      simp only [Datum.quotient]
      rw [if_pos hb0, if_neg ha0]
    have e0 : fop .quo .f64 x y = (((D.read x).quotient (D.fractionBits + 2) (D.read y)).map D.write).getD (qn .f64) := rfl
    rw [e0, e1, e2, hq, Option.map_some, Option.getD_some]
    cases (sg D x ^^ sg D y) <;> decide +kernel
theorem sg_square {x : Nat} (hx : rg D x < D.infRung) : sg D (fop .mul .f64 x x) = false := by
  obtain ⟨m, i, e1, _⟩ := read_fin D x hx
  have e0 : fop .mul .f64 x x = (((D.read x).product (D.read x)).map D.write).getD (qn .f64) := rfl
  rw [e0, e1, product_numbers, Option.map_some, Option.getD_some, sg_write, Bool.xor_self]
theorem sv_nonneg {x : Nat} (h : sg D x = false) : 0 ≤ sv D x := by
  unfold sv
  rw [h]
  simp
theorem sg_one {x : Nat} (hx : rg D x < D.infRung) (h : sg D x = false) : sg D (fop .add .f64 C1 x) = false := by
  obtain ⟨s, m, e, h1, _, _, _, h4, _⟩ := sum_fin D C1 x C1_fin hx
  have e0 : fop .add .f64 C1 x = (((D.read C1).sum (D.read x)).map D.write).getD (qn .f64) := rfl
  rw [e0, h1, Option.map_some, Option.getD_some, sg_write]
  refine h4 ?_
  have := sv_nonneg h
  rw [sv_C1]
  have := pw_pos 1074
  omega
theorem ge_one {x : Nat} (hx : rg D x < D.infRung) (h : sg D x = false) : P2 0 ≤ rg D (fop .add .f64 C1 x) := by
  refine ge_add C1_fin hx (Nat.le_of_lt (P2_inf (by omega))) ?_
  have := sv_nonneg h
  rw [sv_C1, Mg_P2, Nat.add_zero]
  omega
/-- the root of a number that is not negative is one -/
theorem root_good {x : Nat} (hx : rg D x < D.infRung) (h : sg D x = false) : nan .f64 (froot x) = false ∧ sg D (froot x) = false ∧ D.sqrt x = some (froot x) := by
  obtain ⟨m, i, e1, _⟩ := read_fin D x hx
  have : ∃ n j, (D.read x).root (D.fractionBits + 2) = some (.number false n j) := by
    rw [e1, h]
    simp only [Datum.root, Bool.false_eq_true, if_false]
    by_cases h0 : m = 0
    · rw [if_pos h0]
      exact ⟨_, _, rfl⟩
    · rw [if_neg h0]
      exact ⟨_, _, rfl⟩
  obtain ⟨n, j, hr⟩ := this
  have hs : D.sqrt x = some (D.write (.number false n j)) := by
    unfold Format.sqrt
    first | rw [hr, Option.map_some] | (have := hr; simp_all)
  have e : froot x = D.write (.number false n j) := by unfold froot; rw [hs, Option.getD_some]
  rw [e]
  exact ⟨nn_write _ _ _, sg_write _ _ _ _, hs⟩
/-- a round of halving the angle -/
def angA (t : Nat) : Nat := fop .mul .f64 t t
def angB (t : Nat) : Nat := fop .add .f64 C1 (angA t)
def angD (t : Nat) : Nat := fop .add .f64 C1 (froot (angB t))
def angS (t : Nat) : Nat := fop .quo .f64 t (angD t)
structure AngStep (n t : Nat) : Prop where
  a : nan .f64 (angA t) = false
  b : nan .f64 (angB t) = false
  r : D.sqrt (angB t) = some (froot (angB t))
  d : nan .f64 (angD t) = false
  s : F2 (n + 1) (angS t)
theorem ang_step {n t : Nat} (h : F2 n t) (hn : n ≤ 100) : AngStep n t := by
  have ha : F2 (2 * n) (angA t) := h.mul h (2 * n) (by omega) (by omega)
  have hb : F2 (2 * n + 1) (angB t) := F2_C1.add ha (2 * n + 1) (by omega) (by omega) (by omega)
  have hsb : sg D (angB t) = false := sg_one ha.lt (sg_square h.lt)
  have hr := root_good hb.lt hsb
  have hr2 : F2 (n + 2) (froot (angB t)) := F2.of (hb.b.root (j := n + 1) (k := n + 2) (by omega) (by omega) (by omega)) hr.1 (by omega)
  have hd : F2 (n + 3) (angD t) := F2_C1.add hr2 (n + 3) (by omega) (by omega) (by omega)
  exact ⟨ha.nn, hb.nn, hr.2.2, hd.nn, h.div hd (ge_one hr2.lt hr.2.1) (n + 1) (by omega) (by omega)⟩
def angT (t : Nat) : Nat → Nat
  | 0 => t
  | j + 1 => angS (angT t j)
theorem angT_F2 {t : Nat} (h : F2 1 t) : ∀ j, j ≤ 3 → F2 (1 + j) (angT t j)
  | 0, _ => h
  | j + 1, hj => (ang_step (angT_F2 h j (by omega)) (by omega)).s
/-! the polynomial -/
def ak (j : Nat) : Nat := floatOfInt .f64 (15 - 2 * (j : Int))
def ar (j : Nat) : Nat := fop .quo .f64 C1 (ak j)
def aktabB (j : Nat) : Bool :=
  (FloatKind.f64.format.order (ak j) C1 == some Ordering.gt || FloatKind.f64.format.order (ak j) C1 == some Ordering.eq) &&
  !nan .f64 (ar j) && (fop .sub .f64 (ak j) C2 == ak (j + 1)) && !nan .f64 (ak (j + 1)) && decide (rg D (ar j) ≤ P2 0) && (fint (ak j) == 15 - 2 * (j : Int)) && (fint (ak (j + 1)) == 15 - 2 * ((j + 1 : Nat) : Int))
theorem aktab_all : (List.range 8).all aktabB = true := by decide +kernel
structure ATab (j : Nat) : Prop where
  test : (FloatKind.f64.format.order (ak j) 4607182418800017408 == some Ordering.gt || FloatKind.f64.format.order (ak j) 4607182418800017408 == some Ordering.eq) = true
  nR : nan .f64 (ar j) = false
  eK : fop .sub .f64 (ak j) C2 = ak (j + 1)
  nK : nan .f64 (ak (j + 1)) = false
  bR : rg D (ar j) ≤ P2 0
  iK : fint (ak j) = 15 - 2 * (j : Int)
  iK' : fint (ak (j + 1)) = 15 - 2 * ((j + 1 : Nat) : Int)
theorem atabs {j : Nat} (h : j < 8) : ATab j := by
  have := List.all_eq_true.1 aktab_all j (List.mem_range.2 h)
  simp only [aktabB, Bool.and_eq_true, decide_eq_true_eq, Bool.not_eq_true', beq_iff_eq] at this
  obtain ⟨⟨⟨⟨⟨⟨h1, h2⟩, h3⟩, h4⟩, h5⟩, h6⟩, h7⟩ := this
  exact ⟨h1, h2, h3, h4, h5, h6, h7⟩
theorem ak_end : (FloatKind.f64.format.order (ak 8) 4607182418800017408 == some Ordering.gt || FloatKind.f64.format.order (ak 8) 4607182418800017408 == some Ordering.eq) = false := by decide +kernel
theorem ak_start : ak 0 = 4624633867356078080 := by decide +kernel
theorem ak_measure {j : Nat} (h : j < 8) : (fint (bitsOfV (.float .f64 (ak (j + 1))))).toNat < (fint (bitsOfV (.float .f64 (ak j)))).toNat := by
  rw [bits_float, bits_float]
  have := atabs h
  rw [this.iK, this.iK']
  omega
def angP (u : Nat) : Nat → Nat
  | 0 => 0
  | j + 1 => fop .sub .f64 (ar j) (fop .mul .f64 u (angP u j))
theorem angP_F2 {u : Nat} (hu : F2 8 u) : ∀ j, j ≤ 8 → F2 (9 * j) (angP u j)
  | 0, _ => ⟨by omega, by show rg D 0 ≤ P2 0; decide +kernel⟩
  | j + 1, h => by
    have ih := angP_F2 hu j (by omega)
    have h1 := hu.mul ih (8 + 9 * j) (Nat.le_refl _) (by omega)
    have h2 : F2 0 (ar j) := ⟨by omega, (atabs (show j < 8 by omega)).bR⟩
    exact h2.sub h1 (9 * (j + 1)) (by omega) (by omega) (by omega)
theorem angP_steps {u : Nat} (hu : F2 8 u) {j : Nat} (h : j < 8) : nan .f64 (fop .mul .f64 u (angP u j)) = false ∧ nan .f64 (angP u (j + 1)) = false :=
  ⟨(hu.mul (angP_F2 hu j (by omega)) (8 + 9 * j) (Nat.le_refl _) (by omega)).nn, (angP_F2 hu (j + 1) (by omega)).nn⟩
def C8 : Nat := 4620693217682128896
theorem F2_C8 : F2 3 C8 := ⟨by omega, by decide +kernel⟩
theorem F2_C025 : F2 0 C025 := ⟨by omega, by decide +kernel⟩
theorem turn_ge : P2 0 ≤ rg D Cturn := by decide +kernel
/-- the angle of a quotient, and its ways -/
def ang0 (t : Nat) : Nat := fop .quo .f64 (fop .mul .f64 C8 (fop .mul .f64 (angT t 3) (angP (angA (angT t 3)) 8))) Cturn
def ang1 (T : Bool) (e : Nat) : Nat := if T = true then fop .sub .f64 C025 e else e
def ang2 (X : Bool) (e : Nat) : Nat := if X = true then fop .sub .f64 C05 e else e
def ang3 (Y : Bool) (e : Nat) : Nat := if Y = true then fneg .f64 e else e
def angQ (a b : Nat) : Nat := if b < a then fop .quo .f64 b a else fop .quo .f64 a b
def angF (T X Y : Bool) (t : Nat) : Nat := ang3 Y (ang2 X (ang1 T (ang0 t)))
theorem angU_F2 {t : Nat} (h : F2 1 t) : F2 8 (angA (angT t 3)) := (angT_F2 h 3 (by omega)).mul (angT_F2 h 3 (by omega)) 8 (by omega) (by omega)
theorem angM_F2 {t : Nat} (h : F2 1 t) : F2 76 (fop .mul .f64 (angT t 3) (angP (angA (angT t 3)) 8)) := (angT_F2 h 3 (by omega)).mul (angP_F2 (angU_F2 h) 8 (by omega)) 76 (by omega) (by omega)
theorem angM8_F2 {t : Nat} (h : F2 1 t) : F2 79 (fop .mul .f64 C8 (fop .mul .f64 (angT t 3) (angP (angA (angT t 3)) 8))) := F2_C8.mul (angM_F2 h) 79 (by omega) (by omega)
theorem ang0_F2 {t : Nat} (h : F2 1 t) : F2 80 (ang0 t) := (angM8_F2 h).div F2_Cturn turn_ge 80 (by omega) (by omega)
theorem angs1_F2 {t : Nat} (h : F2 1 t) : F2 81 (fop .sub .f64 C025 (ang0 t)) := F2_C025.sub (ang0_F2 h) 81 (by omega) (by omega) (by omega)
theorem ang1_F2 {t : Nat} (h : F2 1 t) (T : Bool) : F2 81 (ang1 T (ang0 t)) := by
  unfold ang1
  split
  · exact angs1_F2 h
  · exact (ang0_F2 h).mono (by omega) (by omega)
theorem angs2_F2 {e : Nat} (h : F2 81 e) : F2 82 (fop .sub .f64 C05 e) := F2_C05.sub h 82 (by omega) (by omega) (by omega)
theorem ang2_F2 {e : Nat} (h : F2 81 e) (X : Bool) : F2 82 (ang2 X e) := by
  unfold ang2
  split
  · exact angs2_F2 h
  · exact h.mono (by omega) (by omega)
theorem ang3_F2 {e : Nat} (h : F2 82 e) (Y : Bool) : F2 82 (ang3 Y e) := by
  unfold ang3
  split
  · exact h.neg
  · exact h
theorem angF_F2 {t : Nat} (h : F2 1 t) (T X Y : Bool) : F2 82 (angF T X Y t) := ang3_F2 (ang2_F2 (ang1_F2 h T) X) Y
/-- the quotient at first: the two numbers are words without a sign -/
theorem angQ_F2 {a b : Nat} (ha : a < D.infRung) (hb : b < D.infRung) (h0 : a ≠ 0 ∨ b ≠ 0) : F2 1 (angQ a b) := by
  unfold angQ
  split
  · exact quo_le (by rw [rg_small hb]; exact hb) (by rw [rg_small ha]; exact ha) (by rw [rg_small ha, rg_small hb]; omega) (by rw [rg_small ha]; omega)
  · exact quo_le (by rw [rg_small ha]; exact ha) (by rw [rg_small hb]; exact hb) (by rw [rg_small ha, rg_small hb]; omega) (by rw [rg_small hb]; omega)
end Go.Proofs.Fl
