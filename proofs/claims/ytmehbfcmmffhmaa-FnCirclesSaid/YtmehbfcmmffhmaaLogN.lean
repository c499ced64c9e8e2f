/-
  The logarithm in float64, as both texts compute it: its numbers, and their bounds. Over no program.
-/
import Derived.Test.YtmehbfcmmffhmaaTrig
namespace Go.Proofs.Fl
open Go Ieee Go.RowKit

theorem rg_small {x : Nat} (h : x < D.infRung) : rg D x = x := Nat.mod_eq_of_lt (by rw [inf64] at h; rw [sw64]; omega)
theorem sg_small {x : Nat} (h : x < D.infRung) : sg D x = false := by
  unfold sg
  rw [Nat.div_eq_of_lt (by rw [inf64] at h; rw [sw64]; omega)]
  rfl
theorem write_is {x m : Nat} {e : Int} (hx : x < D.infRung) (hm : m ≠ 0) (hv : Mg D x * 2 ^ (D.leastPlace - e).toNat = m * 2 ^ (e - D.leastPlace).toNat) : D.write (.number false m e) = x := by
  show D.nearest false m e = x
  rw [nearest_eq D false m e hm, near_exact D m e hm x hv]
  unfold Format.word
  simp only [Bool.false_eq_true, if_false]
  omega
theorem Mg_step {x : Nat} (h : 4503599627370496 ≤ x) : Mg D (x + 4503599627370496) = 2 * Mg D x := by
  unfold Mg
  rw [binade64, if_neg (by omega), if_neg (by omega), Nat.add_mod_right, Nat.add_div_right _ (by omega)]
  have : 1 ≤ x / 4503599627370496 := Nat.div_pos h (by omega)
  rw [show (x / 4503599627370496).succ - 1 = (x / 4503599627370496 - 1) + 1 by omega, Nat.pow_succ, ← Nat.mul_assoc, Nat.mul_comm 2]
theorem read_C2 : D.read C2 = .number false 4503599627370496 (-51) := by decide +kernel
theorem read_pos {x : Nat} (h : 4503599627370496 ≤ x) (hx : x < D.infRung) : D.read x = .number false (4503599627370496 + x % 4503599627370496) (D.leastPlace + (x / 4503599627370496 - 1 : Nat)) := by
  unfold Format.read
  change (if rg D x < D.binade then Datum.number (sg D x) (rg D x) D.leastPlace else if rg D x < D.infRung then Datum.number (sg D x) (D.binade + rg D x % D.binade) (D.leastPlace + (rg D x / D.binade - 1 : Nat)) else if rg D x = D.infRung then .infinity (sg D x) else .nan (sg D x) (rg D x - D.infRung)) = _
  rw [rg_small hx, sg_small hx, binade64, if_neg (by omega), if_pos hx]
theorem Mg_pos {x : Nat} (h : 4503599627370496 ≤ x) : Mg D x = (4503599627370496 + x % 4503599627370496) * 2 ^ (x / 4503599627370496 - 1) := by
  unfold Mg
  rw [binade64, if_neg (by omega)]
theorem halve_eq {x : Nat} (h : 9007199254740992 ≤ x) (hx : x < D.infRung) : fop .quo .f64 x C2 = x - 4503599627370496 := by
  show ((((D.read x).quotient (D.fractionBits + 2) (D.read C2)).map D.write).getD (qn .f64)) = _
  rw [read_C2, read_pos (by omega) hx]
  have hM := Mg_pos (x := x) (by omega)
  have hs := Mg_step (x := x - 4503599627370496) (by omega)
  rw [show x - 4503599627370496 + 4503599627370496 = x by omega, hM] at hs
  have hq : 2 ≤ x / 4503599627370496 := (Nat.le_div_iff_mul_le (by omega)).2 (by omega)
  generalize hm : 4503599627370496 + x % 4503599627370496 = m at *
  generalize x / 4503599627370496 = q at *
  have hm1 : 4503599627370496 ≤ m := by omega
  have hm2 : m < 9007199254740992 := by omega
  have hl : m.log2 = 52 := by rw [Nat.log2_eq_iff (by omega)]; omega
  simp only [Datum.quotient]
  rw [if_neg (by omega), hl]
  rw [show D.fractionBits + 2 + Nat.log2 4503599627370496 - 52 = 54 by decide +kernel, Nat.shiftLeft_eq]
  rw [show m * 2 ^ 54 / 4503599627370496 = 4 * m by omega, show m * 2 ^ 54 % 4503599627370496 = 0 by omega]
  show D.write (.number (false ^^ false) (2 * (4 * m) + (0 != 0).toNat) (D.leastPlace + (q - 1 : Nat) - -51 - (54 : Nat) - 1)) = _
  rw [show (2 * (4 * m) + (0 != 0).toNat) = 8 * m by simp; omega]
  refine write_is (by omega) (by omega) ?_
  generalize Mg D (x - 4503599627370496) = G at *
  generalize D.leastPlace = L at *
  rcases (show q = 2 ∨ q = 3 ∨ q = 4 ∨ 5 ≤ q by omega) with rfl | rfl | rfl | h5
  · rw [show (L - (L + (2 - 1 : Nat) - -51 - (54 : Nat) - 1)).toNat = 3 by omega, show (L + (2 - 1 : Nat) - -51 - (54 : Nat) - 1 - L).toNat = 0 by omega]
    omega
  · rw [show (L - (L + (3 - 1 : Nat) - -51 - (54 : Nat) - 1)).toNat = 2 by omega, show (L + (3 - 1 : Nat) - -51 - (54 : Nat) - 1 - L).toNat = 0 by omega]
    omega
  · rw [show (L - (L + (4 - 1 : Nat) - -51 - (54 : Nat) - 1)).toNat = 1 by omega, show (L + (4 - 1 : Nat) - -51 - (54 : Nat) - 1 - L).toNat = 0 by omega]
    omega
  · rw [show (L - (L + (q - 1 : Nat) - -51 - (54 : Nat) - 1)).toNat = 0 by omega, show (L + (q - 1 : Nat) - -51 - (54 : Nat) - 1 - L).toNat = q - 5 by omega]
    rw [show q - 1 = (q - 5) + 4 by omega, Nat.pow_add, ← Nat.mul_assoc] at hs
    rw [Nat.mul_assoc]
    generalize m * 2 ^ (q - 5) = t at *
    omega
theorem double_le {L : Int} {m q G : Nat} (hq : 1 ≤ q) (hs : G = 2 * (m * 2 ^ (q - 1))) : G * 2 ^ (L - (L + (q - 1 : Nat) + -51)).toNat = m * 4503599627370496 * 2 ^ (L + (q - 1 : Nat) + -51 - L).toNat := by
  by_cases h5 : 52 ≤ q
  · rw [show (L - (L + (q - 1 : Nat) + -51)).toNat = 0 by omega, show (L + (q - 1 : Nat) + -51 - L).toNat = q - 52 by omega, hs]
    rw [show q - 1 = (q - 52) + 51 by omega, Nat.pow_add, ← Nat.mul_assoc m, Nat.mul_right_comm m 4503599627370496]
    generalize m * 2 ^ (q - 52) = t
    omega
  · rw [show (L - (L + (q - 1 : Nat) + -51)).toNat = 52 - q by omega, show (L + (q - 1 : Nat) + -51 - L).toNat = 0 by omega, hs]
    have e : 2 ^ (q - 1) * 2 ^ (52 - q) = 2 ^ 51 := by rw [← Nat.pow_add]; congr 1; omega
    rw [Nat.mul_assoc 2, Nat.mul_assoc m, e]
    omega
theorem product_numbers (s t : Bool) (m n : Nat) (i j : Int) : (Datum.number s m i).product (.number t n j) = some (.number (s ^^ t) (m * n) (i + j)) := rfl
theorem double_eq {x : Nat} (h : 4503599627370496 ≤ x) (hx : x + 4503599627370496 < D.infRung) : fop .mul .f64 x C2 = x + 4503599627370496 := by
  have e0 : fop .mul .f64 x C2 = (((D.read x).product (D.read C2)).map D.write).getD (qn .f64) := rfl
  rw [e0, read_C2, read_pos (by omega) (by omega), product_numbers]
  have hM := Mg_pos (x := x) (by omega)
  have hs := Mg_step (x := x) (by omega)
  rw [hM] at hs
  have hq : 1 ≤ x / 4503599627370496 := Nat.div_pos (by omega) (by omega)
  have hm1 : 4503599627370496 + x % 4503599627370496 ≠ 0 := by omega
  generalize 4503599627370496 + x % 4503599627370496 = m at *
  generalize x / 4503599627370496 = q at *
  rw [Option.map_some, Option.getD_some, Bool.xor_false]
  exact write_is hx (Nat.mul_ne_zero hm1 (by omega)) (double_le hq hs)
/-! the tests of the two loops -/
theorem sv_word {x : Nat} (h : x < D.infRung) : sv D x = (Fl.Mg D x : Nat) := by
  unfold sv
  rw [sg_small h, rg_small h]
  simp
theorem geq_word {x c : Nat} (h : x < D.infRung) (hc : c < D.infRung) : (FloatKind.f64.format.order x c == some Ordering.gt || FloatKind.f64.format.order x c == some Ordering.eq) = decide (c ≤ x) := by
  rw [geq_sv (f := .f64) (x := x) (c := c) (by show rg D x ≤ D.infRung; rw [rg_small h]; omega) (by show rg D c ≤ D.infRung; rw [rg_small hc]; omega)]
  rw [show sv FloatKind.f64.format x = _ from sv_word h, show sv FloatKind.f64.format c = _ from sv_word hc, Bool.eq_iff_iff]
  simp only [decide_eq_true_eq, Int.ofNat_le]
  exact Mg_le_iff D
theorem lss_word {x c : Nat} (h : x < D.infRung) (hc : c < D.infRung) : (FloatKind.f64.format.order x c == some Ordering.lt) = decide (x < c) := by
  rw [lss_sv (f := .f64) (x := x) (c := c) (by show rg D x ≤ D.infRung; rw [rg_small h]; omega) (by show rg D c ≤ D.infRung; rw [rg_small hc]; omega)]
  rw [show sv FloatKind.f64.format x = _ from sv_word h, show sv FloatKind.f64.format c = _ from sv_word hc, Bool.eq_iff_iff]
  simp only [decide_eq_true_eq, Int.ofNat_lt]
  exact Mg_lt_iff D
/-! the counter -/
def eF (e : Int) : Nat := floatOfInt .f64 e
def stepB (j : Nat) : Bool :=
  !nan .f64 (fop .add .f64 (eF ((j : Int) - 200)) C1) && (fop .add .f64 (eF ((j : Int) - 200)) C1 == eF ((j : Int) - 200 + 1)) &&
  !nan .f64 (fop .sub .f64 (eF ((j : Int) - 200)) C1) && (fop .sub .f64 (eF ((j : Int) - 200)) C1 == eF ((j : Int) - 200 - 1))
theorem steps_all : (List.range 401).all stepB = true := by decide +kernel
theorem steps {e : Int} (h1 : -200 ≤ e) (h2 : e ≤ 200) : nan .f64 (eF (e + 1)) = false ∧ fop .add .f64 (eF e) C1 = eF (e + 1) ∧ nan .f64 (eF (e - 1)) = false ∧ fop .sub .f64 (eF e) C1 = eF (e - 1) := by
  have := List.all_eq_true.1 steps_all (e + 200).toNat (List.mem_range.2 (by omega))
  unfold stepB at this
  rw [show ((e + 200).toNat : Int) - 200 = e by omega] at this
  simp only [Bool.and_eq_true, Bool.not_eq_true', beq_iff_eq] at this
  exact ⟨by rw [← this.1.1.2]; exact this.1.1.1, this.1.1.2, by rw [← this.2]; exact this.1.2, this.2⟩
/-! the polynomial -/
def lk (j : Nat) : Nat := floatOfInt .f64 (25 - 2 * (j : Int))
def lr (j : Nat) : Nat := fop .quo .f64 C1 (lk j)
def lktabB (j : Nat) : Bool :=
  (FloatKind.f64.format.order (lk j) C1 == some Ordering.gt || FloatKind.f64.format.order (lk j) C1 == some Ordering.eq) &&
  !nan .f64 (lr j) && (fop .sub .f64 (lk j) C2 == lk (j + 1)) && !nan .f64 (lk (j + 1)) && decide (rg D (lr j) ≤ P2 0) && (fint (lk j) == 25 - 2 * (j : Int)) && (fint (lk (j + 1)) == 25 - 2 * ((j + 1 : Nat) : Int))
theorem lktab_all : (List.range 13).all lktabB = true := by decide +kernel
structure LTab (j : Nat) : Prop where
  test : (FloatKind.f64.format.order (lk j) 4607182418800017408 == some Ordering.gt || FloatKind.f64.format.order (lk j) 4607182418800017408 == some Ordering.eq) = true
  nR : nan .f64 (lr j) = false
  eK : fop .sub .f64 (lk j) C2 = lk (j + 1)
  nK : nan .f64 (lk (j + 1)) = false
  bR : rg D (lr j) ≤ P2 0
  iK : fint (lk j) = 25 - 2 * (j : Int)
  iK' : fint (lk (j + 1)) = 25 - 2 * ((j + 1 : Nat) : Int)
theorem ltabs {j : Nat} (h : j < 13) : LTab j := by
  have := List.all_eq_true.1 lktab_all j (List.mem_range.2 h)
  simp only [lktabB, Bool.and_eq_true, decide_eq_true_eq, Bool.not_eq_true', beq_iff_eq] at this
  obtain ⟨⟨⟨⟨⟨⟨h1, h2⟩, h3⟩, h4⟩, h5⟩, h6⟩, h7⟩ := this
  exact ⟨h1, h2, h3, h4, h5, h6, h7⟩
theorem lk_end : (FloatKind.f64.format.order (lk 13) 4607182418800017408 == some Ordering.gt || FloatKind.f64.format.order (lk 13) 4607182418800017408 == some Ordering.eq) = false := by decide +kernel
theorem lk_start : lk 0 = 4627730092099895296 := by decide +kernel
theorem lk_measure {j : Nat} (h : j < 13) : (fint (bitsOfV (.float .f64 (lk (j + 1))))).toNat < (fint (bitsOfV (.float .f64 (lk j)))).toNat := by
  show (fint (lk (j + 1))).toNat < (fint (lk j)).toNat
  have := ltabs h
  rw [this.iK, this.iK']
  omega
def logP (u : Nat) : Nat → Nat
  | 0 => 0
  | j + 1 => fop .add .f64 (lr j) (fop .mul .f64 u (logP u j))
theorem logP_F2 {u : Nat} (hu : F2 2 u) : ∀ j, j ≤ 13 → F2 (3 * j) (logP u j)
  | 0, _ => ⟨by omega, by show rg D 0 ≤ P2 0; decide +kernel⟩
  | j + 1, h => by
    have ih := logP_F2 hu j (by omega)
    have h1 := hu.mul ih (2 + 3 * j) (Nat.le_refl _) (by omega)
    have h2 : F2 0 (lr j) := ⟨by omega, (ltabs (show j < 13 by omega)).bR⟩
    exact h2.add h1 (3 * (j + 1)) (by omega) (by omega) (by omega)
theorem logP_steps {u : Nat} (hu : F2 2 u) {j : Nat} (h : j < 13) : nan .f64 (fop .mul .f64 u (logP u j)) = false ∧ nan .f64 (logP u (j + 1)) = false :=
  ⟨(hu.mul (logP_F2 hu j (by omega)) (2 + 3 * j) (Nat.le_refl _) (by omega)).nn, (logP_F2 hu (j + 1) (by omega)).nn⟩
/-- the number between 3/4 and 3/2 that is a power of two away, and that power -/
def logX (x : Nat) : Nat := (4604930618986332160 + ((x : Int) - 4604930618986332160) % 4503599627370496).toNat
def logE (x : Nat) : Int := ((x : Int) - 4604930618986332160) / 4503599627370496
def logA (x : Nat) : Nat := fop .sub .f64 x C1
def logB (x : Nat) : Nat := fop .add .f64 x C1
def logS (x : Nat) : Nat := fop .quo .f64 (logA x) (logB x)
def logU (x : Nat) : Nat := fop .mul .f64 (logS x) (logS x)
def logM (s u : Nat) : Nat := fop .mul .f64 s (logP u 13)
def Cln2 : Nat := 4604418534313441775
def logR (e : Int) (s u : Nat) : Nat := fop .add .f64 (fop .mul .f64 C2 (logM s u)) (fop .mul .f64 (eF e) Cln2)
def logF (x : Nat) : Nat := logR (logE x) (logS (logX x)) (logU (logX x))
structure Mid (x : Nat) : Prop where
  lo : 4604930618986332160 ≤ x
  hi : x < 4609434218613702656
theorem logX_mid (x : Nat) : Mid (logX x) := by
  unfold logX
  constructor <;> omega
theorem mid_is {x y : Nat} {e : Int} (hm : Mid y) (h : (y : Int) = x - e * 4503599627370496) : y = logX x ∧ e = logE x := by
  obtain ⟨h1, h2⟩ := hm
  unfold logX logE
  constructor <;> omega
theorem Mid.inf {x : Nat} (h : Mid x) : x < D.infRung := by have := h.hi; rw [inf64]; omega
theorem Mid.f2 {x : Nat} (h : Mid x) : F2 1 x := ⟨by omega, by rw [rg_small h.inf]; have := h.hi; unfold P2; omega⟩
theorem Mid.sv {x : Nat} (h : Mid x) : 0 ≤ sv D x ∧ sv D x ≤ 2 * (pw 1074 : Nat) := by
  rw [sv_word h.inf]
  have h1 : Fl.Mg D x ≤ Fl.Mg D (P2 1) := Mg_mono D (by have := h.hi; unfold P2; omega)
  rw [Mg_P2, show 1074 + 1 = 1074 + 1 from rfl, ← pw_two] at h1
  omega
theorem ge_add {x y c : Nat} (hx : rg D x < D.infRung) (hy : rg D y < D.infRung) (hc : c ≤ D.infRung) (h : Fl.Mg D c ≤ (sv D x + sv D y).natAbs) : c ≤ rg D (fop .add .f64 x y) := by
  obtain ⟨s, m, e, h1, h2, h3, _⟩ := sum_fin D x y hx hy
  have hf : fop .add .f64 x y = (((D.read x).sum (D.read y)).map D.write).getD (qn .f64) := rfl
  rw [hf, h1, Option.map_some, Option.getD_some]
  refine le_write D s m e c hc ?_
  rw [h3, show (D.leastPlace - e).toNat = 0 by omega]
  simpa using h
theorem C1_fin : rg D C1 < D.infRung := by decide +kernel
theorem logA_F2 {x : Nat} (h : Mid x) : F2 0 (logA x) := by
  refine sub_F2 h.f2.lt C1_fin (by omega) ?_
  rw [sv_C1]
  have := h.sv
  rw [Nat.add_zero]
  omega
theorem logB_F2 {x : Nat} (h : Mid x) : F2 2 (logB x) := h.f2.add F2_C1 2 (by omega) (by omega) (by omega)
theorem logB_ge {x : Nat} (h : Mid x) : P2 0 ≤ rg D (logB x) := by
  refine ge_add h.f2.lt C1_fin (Nat.le_of_lt (P2_inf (by omega))) ?_
  rw [sv_C1, Mg_P2]
  have := h.sv
  rw [Nat.add_zero]
  omega
theorem logS_F2 {x : Nat} (h : Mid x) : F2 1 (logS x) := (logA_F2 h).div (logB_F2 h) (logB_ge h) 1 (by omega) (by omega)
theorem logU_F2 {x : Nat} (h : Mid x) : F2 2 (logU x) := (logS_F2 h).mul (logS_F2 h) 2 (by omega) (by omega)
theorem logM_F2 {s u : Nat} (hs : F2 1 s) (hu : F2 2 u) : F2 40 (logM s u) := hs.mul (logP_F2 hu 13 (by omega)) 40 (by omega) (by omega)
theorem F2_C2 : F2 1 C2 := ⟨by omega, by decide +kernel⟩
theorem F2_ln2 : F2 0 Cln2 := ⟨by omega, by decide +kernel⟩
theorem eF_F2 {e : Int} (h : e.natAbs ≤ 200) : F2 8 (eF e) := F2.ofInt (by omega) (by omega)
theorem logR1_F2 {s u : Nat} (hs : F2 1 s) (hu : F2 2 u) : F2 41 (fop .mul .f64 C2 (logM s u)) := F2_C2.mul (logM_F2 hs hu) 41 (by omega) (by omega)
theorem logR2_F2 {e : Int} (h : e.natAbs ≤ 200) : F2 8 (fop .mul .f64 (eF e) Cln2) := (eF_F2 h).mul F2_ln2 8 (by omega) (by omega)
theorem logR_F2 {e : Int} {s u : Nat} (h : e.natAbs ≤ 200) (hs : F2 1 s) (hu : F2 2 u) : F2 42 (logR e s u) := (logR1_F2 hs hu).add (logR2_F2 h) 42 (by omega) (by omega) (by omega)
/-- the numbers whose logarithm is taken: positive, and from a float32 -/
structure LogIn (x : Nat) : Prop where
  lo : 873 * 4503599627370496 ≤ x
  hi : x < 1152 * 4503599627370496
theorem LogIn.inf {x : Nat} (h : LogIn x) : x < D.infRung := by have := h.hi; rw [inf64]; omega
theorem LogIn.e {x : Nat} (h : LogIn x) : (logE x).natAbs ≤ 200 := by
  have := h.lo
  have := h.hi
  unfold logE
  omega
theorem logF_F2 {x : Nat} (h : LogIn x) : F2 42 (logF x) := logR_F2 h.e (logS_F2 (logX_mid x)) (logU_F2 (logX_mid x))
theorem C15_inf : 4609434218613702656 < D.infRung := by decide +kernel
theorem C075_inf : 4604930618986332160 < D.infRung := by decide +kernel
/-- what a round of halving does -/
theorem halve_step {x : Nat} (h : 4609434218613702656 ≤ x) (hx : x < D.infRung) : fop .quo .f64 x C2 = x - 4503599627370496 ∧ nan .f64 (fop .quo .f64 x C2) = false := by
  have e := halve_eq (x := x) (by omega) hx
  refine ⟨e, ?_⟩
  rw [e, nan_eq]
  show decide (D.infRung < rg D (x - 4503599627370496)) = false
  rw [rg_small (by omega)]
  simp
  omega
theorem double_step {x : Nat} (h : x < 4604930618986332160) (hx : 4503599627370496 ≤ x) : fop .mul .f64 x C2 = x + 4503599627370496 ∧ nan .f64 (fop .mul .f64 x C2) = false := by
  have hi : D.infRung = 9218868437227405312 := inf64
  have e := double_eq (x := x) hx (by omega)
  refine ⟨e, ?_⟩
  rw [e, nan_eq]
  show decide (D.infRung < rg D (x + 4503599627370496)) = false
  rw [rg_small (by omega)]
  simp
  omega
theorem gtr_word {x c : Nat} (h : x < D.infRung) (hc : c < D.infRung) : (FloatKind.f64.format.order x c == some Ordering.gt) = decide (c < x) := by
  rw [gtr_sv (f := .f64) (x := x) (c := c) (by show rg D x ≤ D.infRung; rw [rg_small h]; omega) (by show rg D c ≤ D.infRung; rw [rg_small hc]; omega)]
  rw [show sv FloatKind.f64.format x = _ from sv_word h, show sv FloatKind.f64.format c = _ from sv_word hc, Bool.eq_iff_iff]
  simp only [decide_eq_true_eq, Int.ofNat_lt]
  exact Mg_lt_iff D
theorem neq_word {x c : Nat} (h : x < D.infRung) (hc : c < D.infRung) : (FloatKind.f64.format.order x c != some Ordering.eq) = decide (x ≠ c) := by
  rw [neq_sv (f := .f64) (x := x) (c := c) (by show rg D x ≤ D.infRung; rw [rg_small h]; omega) (by show rg D c ≤ D.infRung; rw [rg_small hc]; omega)]
  rw [show sv FloatKind.f64.format x = _ from sv_word h, show sv FloatKind.f64.format c = _ from sv_word hc, Bool.eq_iff_iff]
  simp only [decide_eq_true_eq, ne_eq, Int.ofNat_inj]
  exact ⟨fun hn he => hn (by rw [he]), fun hn he => hn (Mg_inj D he)⟩
theorem eql_word {x c : Nat} (h : x < D.infRung) (hc : c < D.infRung) : (FloatKind.f64.format.order x c == some Ordering.eq) = decide (x = c) := by
  have := neq_word h hc
  unfold bne at this
  cases he : (FloatKind.f64.format.order x c == some Ordering.eq) <;> simp_all
theorem log_s1 {x : Nat} (h : LogIn x) : (FloatKind.f64.format.order x x != some Ordering.eq) = false := by rw [neq_word h.inf h.inf]; simp
theorem zero_inf : 0 < D.infRung := by decide +kernel
theorem max_inf : 9218868437227405311 < D.infRung := by decide +kernel
theorem log_s2 {x : Nat} (h : LogIn x) : (FloatKind.f64.format.order x 0 == some Ordering.lt) = false := by rw [lss_word h.inf zero_inf]; simp
theorem log_s3 {x : Nat} (h : LogIn x) : (FloatKind.f64.format.order x 0 == some Ordering.eq) = false := by
  rw [eql_word h.inf zero_inf]
  have := h.lo
  exact decide_eq_false (by omega)
theorem log_s4 {x : Nat} (h : LogIn x) : (FloatKind.f64.format.order x 9218868437227405311 == some Ordering.gt) = false := by
  rw [gtr_word h.inf max_inf]
  have := h.hi
  exact decide_eq_false (by omega)
theorem w64in {n : Int} (h : -9223372036854775808 ≤ n ∧ n ≤ 9223372036854775807) : wrap64 n = n := by unfold wrap64; omega
theorem bits_float (k : FloatKind) (x : Nat) : bitsOfV (.float k x) = x := rfl
theorem eF_zero : eF 0 = 0 := by decide +kernel
end Go.Proofs.Fl
