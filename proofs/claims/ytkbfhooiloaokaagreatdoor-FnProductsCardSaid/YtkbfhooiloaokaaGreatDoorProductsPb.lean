/-
  Texts for the proof of Products, put together (part 2 of 3).
-/
import Derived.Laws.Externs
import Derived.LoopTactic
import Derived.Deep.QuietTactic
import Derived.BigQuiet
import Derived.Lib.ConvBytes
import Derived.Lib.Hide
import Derived.BigCall
import Derived.BigGuard
import Derived.Shelf.Strings.Builder1
import Derived.Shelf.Strings.Builder2
import Derived.Shelf.Strings.OnBuilder
import Derived.Shelf.Strings.BuilderF
import Derived.Shelf.LaysM
import Derived.Shelf.Strconv.Clone
import Derived.Shelf.Strconv.SyntaxError
import Derived.Shelf.LaysC
import Derived.Shelf.Strconv.ToError
import Derived.Shelf.Strings.Search1
import Derived.Shelf.Strings.Search2
import Derived.Shelf.Strings.Search3
import Derived.Shelf.Strings.Count
import Derived.Shelf.Strings.Shaped
import Derived.Shelf.Strings.Prefix
import Derived.Shelf.Strings.Split
import Derived.Shelf.Bits.Mul64
import Derived.Shelf.Strings.Repeat
import Derived.Shelf.Unicode.DecodeSlow
import Derived.Test.YtkbfhooiloaokaaGreatDoorProg
import Derived.Test.YtkbfhooiloaokaaGreatDoorProductsPa
/-
  Bounds of float64 numbers by powers of two: they pass through + - * / and the root, and keep a number from growing too great to be narrowed or cut to an integer. Over no program.
-/
namespace Go.Proofs.Fl
open Go Ieee Go.RowKit

abbrev D : Format := Ieee.double
/-- the rung of 2 to the power of n -/
def P2 (n : Nat) : Nat := (1023 + n) * 4503599627370496
theorem binade64 : D.binade = 4503599627370496 := by decide +kernel
theorem two52 : (4503599627370496 : Nat) = 2 ^ 52 := by decide +kernel
theorem pw52 (n : Nat) : 2 ^ 52 * 2 ^ (1022 + n) = pw (1074 + n) := by
  have h : 1074 + n = 52 + (1022 + n) := by omega
  unfold pw
  rw [h, Nat.pow_add 2 52 (1022 + n)]
theorem Mg_P2 (n : Nat) : Mg D (P2 n) = pw (1074 + n) := by
  have h := Mg_eq D (1022 + n) 4503599627370496 (by rw [binade64]; omega) (.inr (by rw [binade64]; exact Nat.le_refl _))
  rw [binade64] at h
  have e : P2 n = (1022 + n) * 4503599627370496 + 4503599627370496 := by unfold P2; omega
  rw [e, h]
  have h2 := pw52 n
  rw [← two52] at h2
  exact h2
theorem P2_inf {n : Nat} (h : n ≤ 1023) : P2 n < D.infRung := by
  rw [inf64]
  unfold P2
  omega
theorem P2_mono {n m : Nat} (h : n ≤ m) : P2 n ≤ P2 m := by unfold P2; omega

/-- a NaN, or at most 2 to the power of n -/
def B2 (n v : Nat) : Prop := nan .f64 v = true ∨ rg D v ≤ P2 n
theorem B2.mono {n m v : Nat} (h : B2 n v) (hm : n ≤ m) : B2 m v := h.imp_right fun h => Nat.le_trans h (P2_mono hm)
theorem B2.congr {n v w : Nat} (h : FEq .f64 v w) (hw : B2 n w) : B2 n v := by
  rcases h.cases with rfl | ⟨h1, _⟩
  · exact hw
  · exact .inl h1
theorem B2_qn (n : Nat) : B2 n (qn .f64) := .inl (nan_qn _)

theorem write_le (f : Format) (s : Bool) (m : Nat) (e : Int) (c : Nat) (hv : m * 2 ^ (e - f.leastPlace).toNat ≤ Mg f c * 2 ^ (f.leastPlace - e).toNat) :
    rg f (f.write (.number s m e)) ≤ c := by
  have hsw := f.infRung_lt
  show rg f (f.nearest s m e) ≤ c
  by_cases h0 : m = 0
  · subst h0
    simp only [Format.nearest, if_true]
    rw [rg_word _ _ (signWeight_pos f)]
    exact Nat.zero_le _
  · rw [nearest_eq f s m e h0, rg_word _ _ (by omega)]
    have := near_le f m e h0 c hv
    omega
theorem sg_write (f : Format) (s : Bool) (m : Nat) (e : Int) : sg f (f.write (.number s m e)) = s := by
  have hsw := f.infRung_lt
  show sg f (f.nearest s m e) = s
  by_cases h0 : m = 0
  · subst h0
    simp only [Format.nearest, if_true]
    exact sg_word _ _ (signWeight_pos f)
  · rw [nearest_eq f s m e h0, sg_word _ _ (by omega)]
theorem le_write (f : Format) (s : Bool) (m : Nat) (e : Int) (c : Nat) (hc : c ≤ f.infRung) (hv : Mg f c * 2 ^ (f.leastPlace - e).toNat ≤ m * 2 ^ (e - f.leastPlace).toNat) :
    c ≤ rg f (f.write (.number s m e)) := by
  have hsw := f.infRung_lt
  show c ≤ rg f (f.nearest s m e)
  by_cases h0 : m = 0
  · subst h0
    have : Mg f c = 0 := by
      have := Nat.two_pow_pos (f.leastPlace - e).toNat
      rw [Nat.zero_mul] at hv
      exact (Nat.mul_eq_zero.1 (Nat.le_zero.1 hv)).resolve_right (by omega)
    have hc0 : c = 0 := Mg_inj f (by rw [this, Mg_zero])
    omega
  · rw [nearest_eq f s m e h0, rg_word _ _ (by omega)]
    have := le_near f m e h0 c hv
    omega

/-- the sum of two finite words, before it is rounded: a whole number of units -/
theorem sum_fin (f : Format) (x y : Nat) (hx : rg f x < f.infRung) (hy : rg f y < f.infRung) :
    ∃ (s : Bool) (m : Nat) (e : Int), (f.read x).sum (f.read y) = some (.number s m e) ∧ f.leastPlace ≤ e ∧ m * 2 ^ (e - f.leastPlace).toNat = (sv f x + sv f y).natAbs ∧
      (sv f x + sv f y < 0 → s = true) ∧ (0 < sv f x + sv f y → s = false) ∧ (sv f x + sv f y = 0 → s = (sg f x && sg f y)) := by
  obtain ⟨m, i, e1, hi, hm, _⟩ := read_fin f x hx
  obtain ⟨n, j, e2, hj, hn, _⟩ := read_fin f y hy
  rw [e1, e2]
  have key : ∀ (s : Bool) (m : Nat) (i base : Int), f.leastPlace ≤ base → base ≤ i → signed s m (i - base).toNat * ((2 ^ (base - f.leastPlace).toNat : Nat) : Int) = if s = true then -((m * 2 ^ (i - f.leastPlace).toNat : Nat) : Int) else ((m * 2 ^ (i - f.leastPlace).toNat : Nat) : Int) := by
    intro s m i base h1 h2
    have e : (m <<< (i - base).toNat) * 2 ^ (base - f.leastPlace).toNat = m * 2 ^ (i - f.leastPlace).toNat := by
      rw [Nat.shiftLeft_eq, Nat.mul_assoc, ← Nat.pow_add]
      congr 2
      omega
    rw [← e]
    unfold signed
    cases s <;> simp [Int.neg_mul]
  have k1 := key (sg f x) m i (min i j) (by omega) (by omega)
  have k2 := key (sg f y) n j (min i j) (by omega) (by omega)
  rw [hm] at k1
  rw [hn] at k2
  have ht : (signed (sg f x) m (i - min i j).toNat + signed (sg f y) n (j - min i j).toNat) * ((2 ^ (min i j - f.leastPlace).toNat : Nat) : Int) = sv f x + sv f y := by
    rw [Int.add_mul, k1, k2]
    rfl
  have hp : (0 : Int) < ((2 ^ (min i j - f.leastPlace).toNat : Nat) : Int) := by have := Nat.two_pow_pos (min i j - f.leastPlace).toNat; omega
  refine ⟨_, _, _, rfl, by omega, ?_, ?_, ?_, ?_⟩
  · rw [← ht, Int.natAbs_mul]
    rfl
  all_goals
    generalize signed (sg f x) m (i - min i j).toNat + signed (sg f y) n (j - min i j).toNat = t at *
    generalize ((2 ^ (min i j - f.leastPlace).toNat : Nat) : Int) = p at *
    intro h
    rw [← ht] at h
  · have h1 : t < 0 := by
      refine Int.not_le.1 fun h0 => ?_
      have := Int.mul_nonneg h0 (Int.le_of_lt hp)
      omega
    rw [if_neg (by omega)]
    simpa using h1
  · have h1 : 0 < t := by
      refine Int.not_le.1 fun h0 => ?_
      have := Int.mul_nonpos_of_nonpos_of_nonneg h0 (Int.le_of_lt hp)
      omega
    rw [if_neg (by omega)]
    simp
    omega
  · have h1 : t = 0 := by
      rcases Int.mul_eq_zero.1 h with h2 | h2
      · exact h2
      · omega
    rw [if_pos h1]
theorem natAbs_sv (f : Format) (x : Nat) : (sv f x).natAbs = Mg f (rg f x) := by
  unfold sv
  split <;> omega

/-- where the exact sum is at most a rung's magnitude, the rounded one is at most that rung -/
theorem add_le (x y c : Nat) (hx : rg D x < D.infRung) (hy : rg D y < D.infRung) (h : (sv D x + sv D y).natAbs ≤ Mg D c) :
    rg D (fop .add .f64 x y) ≤ c := by
  obtain ⟨s, m, e, h1, h2, h3, _⟩ := sum_fin D x y hx hy
  have hf : fop .add .f64 x y = D.write (.number s m e) := by
    show ((((D.read x).sum (D.read y)).map D.write).getD (qn .f64)) = _
    rw [h1]
    rfl
  rw [hf]
  refine write_le D s m e c ?_
  rw [h3, show (D.leastPlace - e).toNat = 0 by omega]
  simpa using h

theorem pw_mono {a b : Nat} (h : a ≤ b) : pw a ≤ pw b := Nat.pow_le_pow_right (by omega) h
theorem pw_two (a : Nat) : pw a + pw a = pw (a + 1) := by unfold pw; rw [Nat.pow_succ]; omega
theorem pw_add (a b : Nat) : pw (a + b) = pw a * pw b := Nat.pow_add 2 a b
theorem pw_is (a : Nat) : 2 ^ a = pw a := rfl

theorem fop_nan_left {op : BinOp} {k : FloatKind} {x y : Nat} (h : nan k x = true) : fop op k x y = qn k := by unfold fop; rw [floatBits_nan_left h]; rfl
theorem fop_nan_right {op : BinOp} {k : FloatKind} {x y : Nat} (h : nan k y = true) : fop op k x y = qn k := by unfold fop; rw [floatBits_nan_right h]; rfl
theorem B2.fin {n v : Nat} (h : B2 n v) (hn : nan .f64 v = false) : rg D v ≤ P2 n := by
  rcases h with h | h
  · rw [hn] at h; cases h
  · exact h
theorem B2.Mg {n v : Nat} (h : B2 n v) (hn : nan .f64 v = false) : Fl.Mg D (rg D v) ≤ pw (1074 + n) := by
  rw [← Mg_P2]
  exact Mg_mono D (h.fin hn)
theorem B2.lt {n v : Nat} (h : B2 n v) (hn : nan .f64 v = false) (hk : n ≤ 1023) : rg D v < D.infRung := Nat.lt_of_le_of_lt (h.fin hn) (P2_inf hk)

theorem B2.add {n m k x y : Nat} (hx : B2 n x) (hy : B2 m y) (hn : n + 1 ≤ k) (hm : m + 1 ≤ k) (hk : k ≤ 1023) : B2 k (fop .add .f64 x y) := by
  cases h1 : nan .f64 x with
  | true => rw [fop_nan_left h1]; exact B2_qn k
  | false =>
    cases h2 : nan .f64 y with
    | true => rw [fop_nan_right h2]; exact B2_qn k
    | false =>
      refine .inr (add_le x y _ (hx.lt h1 (by omega)) (hy.lt h2 (by omega)) ?_)
      rw [Mg_P2]
      have e1 := hx.Mg h1
      have e2 := hy.Mg h2
      have e3 := natAbs_sv D x
      have e4 := natAbs_sv D y
      have e5 : pw (1074 + n) ≤ pw (1074 + (k - 1)) := pw_mono (by omega)
      have e6 : pw (1074 + m) ≤ pw (1074 + (k - 1)) := pw_mono (by omega)
      have e7 := pw_two (1074 + (k - 1))
      rw [show 1074 + (k - 1) + 1 = 1074 + k by omega] at e7
      omega

/-- the opposite of a word -/
def fneg (k : FloatKind) (x : Nat) : Nat := Op.negFloat k x
theorem xor_pow (x k : Nat) : (x ^^^ 2 ^ k) % 2 ^ k = x % 2 ^ k ∧ ((x ^^^ 2 ^ k) / 2 ^ k % 2 == 1) = !(x / 2 ^ k % 2 == 1) := by
  constructor
  · apply Nat.eq_of_testBit_eq
    intro i
    simp only [Nat.testBit_mod_two_pow, Nat.testBit_xor, Nat.testBit_two_pow]
    by_cases h : i < k
    · have : ¬ k = i := by omega
      simp [h, this]
    · simp [h]
  · have h1 : ∀ y : Nat, (y / 2 ^ k % 2 == 1) = y.testBit k := by
      intro y
      rw [Nat.testBit_eq_decide_div_mod_eq, Bool.eq_iff_iff]
      simp
    rw [h1, h1]
    simp
theorem rg_fneg (k : FloatKind) (x : Nat) : rg k.format (fneg k x) = rg k.format x := (xor_pow x _).1
theorem sg_fneg (k : FloatKind) (x : Nat) : sg k.format (fneg k x) = !sg k.format x := (xor_pow x _).2
theorem nan_fneg (k : FloatKind) (x : Nat) : nan k (fneg k x) = nan k x := by rw [nan_eq, nan_eq, rg_fneg]
theorem read_fneg (k : FloatKind) (x : Nat) : k.format.read (fneg k x) = (k.format.read x).opposite := by
  unfold Format.read
  change (if rg k.format (fneg k x) < k.format.binade then Datum.number (sg k.format (fneg k x)) (rg k.format (fneg k x)) k.format.leastPlace else if rg k.format (fneg k x) < k.format.infRung then Datum.number (sg k.format (fneg k x)) (k.format.binade + rg k.format (fneg k x) % k.format.binade) (k.format.leastPlace + (rg k.format (fneg k x) / k.format.binade - 1 : Nat)) else if rg k.format (fneg k x) = k.format.infRung then .infinity (sg k.format (fneg k x)) else .nan (sg k.format (fneg k x)) (rg k.format (fneg k x) - k.format.infRung)) =
    (if rg k.format x < k.format.binade then Datum.number (sg k.format x) (rg k.format x) k.format.leastPlace else if rg k.format x < k.format.infRung then Datum.number (sg k.format x) (k.format.binade + rg k.format x % k.format.binade) (k.format.leastPlace + (rg k.format x / k.format.binade - 1 : Nat)) else if rg k.format x = k.format.infRung then .infinity (sg k.format x) else .nan (sg k.format x) (rg k.format x - k.format.infRung)).opposite
  rw [rg_fneg, sg_fneg]
  split
  · rfl
  · split
    · rfl
    · split <;> rfl
theorem fop_sub (k : FloatKind) (x y : Nat) : fop .sub k x y = fop .add k x (fneg k y) := by
  show ((((k.format.read x).sum (k.format.read y).opposite).map k.format.write).getD (qn k)) = ((((k.format.read x).sum (k.format.read (fneg k y))).map k.format.write).getD (qn k))
  rw [read_fneg]
theorem fneg_congr {k : FloatKind} {x y : Nat} (h : FEq k x y) : FEq k (fneg k x) (fneg k y) := by
  rcases h.cases with rfl | ⟨h1, h2⟩
  · exact FEq.refl _ _
  · exact FEq.of_nan (by rw [nan_fneg, h1]) (by rw [nan_fneg, h2])
theorem sv_fneg (k : FloatKind) (x : Nat) : sv k.format (fneg k x) = -sv k.format x := by
  unfold sv
  rw [rg_fneg, sg_fneg]
  cases sg k.format x <;> simp
theorem B2.neg {n x : Nat} (h : B2 n x) : B2 n (fneg .f64 x) := by
  rcases h with h | h
  · exact .inl (by rw [nan_fneg, h])
  · exact .inr (by rw [show rg D (fneg .f64 x) = rg D x from rg_fneg .f64 x]; exact h)
theorem B2.sub {n m k x y : Nat} (hx : B2 n x) (hy : B2 m y) (hn : n + 1 ≤ k) (hm : m + 1 ≤ k) (hk : k ≤ 1023) : B2 k (fop .sub .f64 x y) := by
  rw [fop_sub]
  exact hx.add hy.neg hn hm hk

theorem B2.mul {n m k x y : Nat} (hx : B2 n x) (hy : B2 m y) (hk : n + m ≤ k) (hk2 : k ≤ 1023) : B2 k (fop .mul .f64 x y) := by
  cases h1 : nan .f64 x with
  | true => rw [fop_nan_left h1]; exact B2_qn k
  | false =>
    cases h2 : nan .f64 y with
    | true => rw [fop_nan_right h2]; exact B2_qn k
    | false =>
      obtain ⟨a, i, e1, hi, ha, _⟩ := read_fin D x (hx.lt h1 (by omega))
      obtain ⟨b, j, e2, hj, hb, _⟩ := read_fin D y (hy.lt h2 (by omega))
      have hf : fop .mul .f64 x y = D.write (.number (sg D x ^^ sg D y) (a * b) (i + j)) := by
        show ((((D.read x).product (D.read y)).map D.write).getD (qn .f64)) = _
        rw [e1, e2]
        rfl
      rw [hf]
      refine .inr (write_le D _ _ _ _ ?_)
      have g1 := hx.Mg h1
      have g2 := hy.Mg h2
      rw [← ha] at g1
      rw [← hb] at g2
      rw [Mg_P2]
      rw [least64] at *
      obtain ⟨I, hI⟩ : ∃ I : Nat, (i - -1074).toNat = I := ⟨_, rfl⟩
      obtain ⟨J, hJ⟩ : ∃ J : Nat, (j - -1074).toNat = J := ⟨_, rfl⟩
      rw [hI] at g1
      rw [hJ] at g2
      have g3 : a * b * pw (I + J) ≤ pw (1074 + k) * pw 1074 := by
        have g := Nat.mul_le_mul g1 g2
        have e : a * 2 ^ I * (b * 2 ^ J) = a * b * pw (I + J) := by
          rw [pw_add]
          simp only [pw, Nat.mul_assoc, Nat.mul_left_comm]
        rw [e, ← pw_add] at g
        rw [← pw_add]
        exact Nat.le_trans g (pw_mono (by omega))
      simp only [pw_is]
      by_cases hIJ : 1074 ≤ I + J
      · rw [show (-1074 - (i + j)).toNat = 0 by omega, show (i + j - -1074).toNat = I + J - 1074 by omega]
        rw [show I + J = (I + J - 1074) + 1074 by omega, pw_add, ← Nat.mul_assoc] at g3
        have := Nat.le_of_mul_le_mul_right g3 (pw_pos 1074)
        rw [show pw 0 = 1 from rfl, Nat.mul_one]
        exact this
      · rw [show (i + j - -1074).toNat = 0 by omega, show (-1074 - (i + j)).toNat = 1074 - (I + J) by omega]
        have e : pw 1074 = pw (1074 - (I + J)) * pw (I + J) := by rw [← pw_add]; congr 1; omega
        rw [e, ← Nat.mul_assoc] at g3
        have := Nat.le_of_mul_le_mul_right g3 (pw_pos (I + J))
        rw [show pw 0 = 1 from rfl, Nat.mul_one]
        exact this

/-- at least 2 to the power of 0, in its absolute value: what may be divided by -/
def A1 (v : Nat) : Prop := nan .f64 v = true ∨ P2 0 ≤ rg D v
theorem A1.congr {v w : Nat} (h : FEq .f64 v w) (hw : A1 w) : A1 v := by
  rcases h.cases with rfl | ⟨h1, _⟩
  · exact hw
  · exact .inl h1
theorem B2.div {n k x y : Nat} (hx : B2 n x) (hy : A1 y) (hk : n + 1 ≤ k) (hk2 : k ≤ 1023) : B2 k (fop .quo .f64 x y) := by
  cases h1 : nan .f64 x with
  | true => rw [fop_nan_left h1]; exact B2_qn k
  | false =>
    cases h2 : nan .f64 y with
    | true => rw [fop_nan_right h2]; exact B2_qn k
    | false =>
      have hd : P2 0 ≤ rg D y := by
        rcases hy with h | h
        · rw [h2] at h; cases h
        · exact h
      obtain ⟨a, i, e1, hi, ha, _⟩ := read_fin D x (hx.lt h1 (by omega))
      have hle := rg_le_of h2
      change rg D y ≤ D.infRung at hle
      rcases Nat.lt_or_eq_of_le hle with hlt | heq
      · obtain ⟨b, j, e2, hj, hb, _⟩ := read_fin D y hlt
        have hb1 : pw 1074 ≤ b * 2 ^ (j - D.leastPlace).toNat := by
          rw [hb, ← Mg_P2 0]
          exact Mg_mono D hd
        have hb0 : b ≠ 0 := by
          intro h0
          rw [h0, Nat.zero_mul] at hb1
          have := pw_pos 1074
          omega
        obtain ⟨more, q, hq1, hq2, hq3⟩ : ∃ more q : Nat, (Datum.number (sg D x) a i).quotient (D.fractionBits + 2) (Datum.number (sg D y) b j) = some (.number (sg D x ^^ sg D y) q (i - j - more - 1)) ∧
            q * b ≤ 4 * (a * 2 ^ more) ∧ True := by
          simp only [Datum.quotient]
          rw [if_neg hb0]
          refine ⟨_, _, rfl, ?_, trivial⟩
          rw [Nat.shiftLeft_eq]
          generalize hN : a * 2 ^ (D.fractionBits + 2 + b.log2 - a.log2) = N
          have hdm := Nat.div_add_mod N b
          have hr := Nat.mod_lt N (Nat.pos_of_ne_zero hb0)
          by_cases ha0 : a = 0
          · have hN0 : N = 0 := by rw [← hN, ha0, Nat.zero_mul]
            subst hN0
            simp
          · have hNb : b ≤ N := by
              rw [← hN]
              have l1 := Nat.log2_self_le ha0
              have l2 := Nat.lt_log2_self (n := b)
              have l3 : 2 ^ a.log2 * 2 ^ (D.fractionBits + 2 + b.log2 - a.log2) ≤ a * 2 ^ (D.fractionBits + 2 + b.log2 - a.log2) := Nat.mul_le_mul_right _ l1
              rw [← Nat.pow_add] at l3
              have l4 := Nat.pow_le_pow_right (n := 2) (by omega) (show b.log2 + 1 ≤ a.log2 + (D.fractionBits + 2 + b.log2 - a.log2) by omega)
              omega
            have hs : (N % b != 0).toNat ≤ 1 := by cases (N % b != 0) <;> simp
            have e : (2 * (N / b) + (N % b != 0).toNat) * b ≤ 2 * (b * (N / b)) + b := by
              rw [Nat.add_mul, Nat.mul_assoc, Nat.mul_comm (N / b) b]
              have := Nat.mul_le_mul_right b hs
              omega
            omega
        have hf : fop .quo .f64 x y = D.write (.number (sg D x ^^ sg D y) q (i - j - more - 1)) := by
          show ((((D.read x).quotient (D.fractionBits + 2) (D.read y)).map D.write).getD (qn .f64)) = _
          rw [e1, e2, hq1]
          rfl
        rw [hf]
        refine .inr (write_le D _ _ _ _ ?_)
        have g1 := hx.Mg h1
        rw [← ha] at g1
        rw [Mg_P2]
        rw [least64] at *
        obtain ⟨I, hI⟩ : ∃ I : Nat, (i - -1074).toNat = I := ⟨_, rfl⟩
        obtain ⟨J, hJ⟩ : ∃ J : Nat, (j - -1074).toNat = J := ⟨_, rfl⟩
        simp only [pw_is] at *
        rw [hI] at g1
        rw [hJ] at hb1
        -- q * b * 2^(I + J..) against the bound
        have g3 : q * pw (I + 1074) ≤ pw (1074 + k) * pw (J + more + 1) := by
          -- q * b * pw I ≤ 4 * a * pw more * pw I ≤ 4 * pw (1074 + n) * pw more, and pw 1074 ≤ b * pw J
          have s1 : q * b * pw I ≤ 4 * (pw (1074 + n) * pw more) := by
            calc q * b * pw I ≤ 4 * (a * pw more) * pw I := Nat.mul_le_mul_right _ hq2
              _ = 4 * (a * pw I * pw more) := by simp only [Nat.mul_assoc, Nat.mul_comm (pw more)]
              _ ≤ 4 * (pw (1074 + n) * pw more) := Nat.mul_le_mul_left _ (Nat.mul_le_mul_right _ g1)
          calc q * pw (I + 1074) = q * pw I * pw 1074 := by rw [pw_add, Nat.mul_assoc]
            _ ≤ q * pw I * (b * pw J) := Nat.mul_le_mul_left _ hb1
            _ = q * b * pw I * pw J := by simp only [Nat.mul_assoc, Nat.mul_left_comm]
            _ ≤ 4 * (pw (1074 + n) * pw more) * pw J := Nat.mul_le_mul_right _ s1
            _ = pw (1074 + (n + 1)) * pw (J + more + 1) := by
              rw [← Nat.add_assoc, pw_add (1074 + n) 1, pw_add (J + more) 1, pw_add J more, show pw 1 = 2 from rfl]
              generalize pw (1074 + n) = u
              generalize pw more = v
              generalize pw J = t
              rw [show (4 : Nat) = 2 * 2 from rfl]
              simp only [Nat.mul_assoc, Nat.mul_left_comm, Nat.mul_comm]
            _ ≤ pw (1074 + k) * pw (J + more + 1) := Nat.mul_le_mul_right _ (pw_mono (by omega))
        by_cases hs : J + more + 1 ≤ I + 1074
        · rw [show (-1074 - (i - j - more - 1)).toNat = 0 by omega, show (i - j - more - 1 - -1074).toNat = I + 1074 - (J + more + 1) by omega]
          rw [show I + 1074 = (I + 1074 - (J + more + 1)) + (J + more + 1) by omega, pw_add, ← Nat.mul_assoc] at g3
          have := Nat.le_of_mul_le_mul_right g3 (pw_pos _)
          rw [show pw 0 = 1 from rfl, Nat.mul_one]
          exact this
        · rw [show (i - j - more - 1 - -1074).toNat = 0 by omega, show (-1074 - (i - j - more - 1)).toNat = J + more + 1 - (I + 1074) by omega]
          rw [show J + more + 1 = (J + more + 1 - (I + 1074)) + (I + 1074) by omega, pw_add (J + more + 1 - (I + 1074)), ← Nat.mul_assoc] at g3
          have := Nat.le_of_mul_le_mul_right g3 (pw_pos _)
          rw [show pw 0 = 1 from rfl, Nat.mul_one]
          exact this
      · have hf : fop .quo .f64 x y = D.write (.number (sg D x ^^ sg D y) 0 0) := by
          show ((((D.read x).quotient (D.fractionBits + 2) (D.read y)).map D.write).getD (qn .f64)) = _
          rw [e1, read_inf D (by decide) y heq]
          rfl
        rw [hf]
        exact .inr (write_le D _ _ _ _ (by simp))

/-- a number of at most 2 to the power of 127 can be narrowed -/
theorem B2.fits {n x : Nat} (h : B2 n x) (hn : n ≤ 127) : Fits x := by
  cases h1 : nan .f64 x with
  | true => exact .inl h1
  | false =>
    right
    obtain ⟨a, i, e1, hi, ha, _⟩ := read_fin D x (h.lt h1 (by omega))
    have g := h.Mg h1
    rw [← ha] at g
    have hle : rg Ieee.single (Ieee.single.write (.number (sg D x) a i)) ≤ 254 * 8388608 := by
      refine write_le Ieee.single _ _ _ _ ?_
      have hM : Fl.Mg Ieee.single (254 * 8388608) = pw (149 + 127) := by decide +kernel
      rw [hM, least32]
      rw [least64] at g hi
      obtain ⟨I, hI⟩ : ∃ I : Nat, (i - -1074).toNat = I := ⟨_, rfl⟩
      rw [hI] at g
      simp only [pw_is] at *
      have g2 : a * pw I ≤ pw (149 + 127) * pw 925 := by
        rw [← pw_add]
        exact Nat.le_trans g (pw_mono (by omega))
      by_cases hs : 925 ≤ I
      · rw [show (-149 - i).toNat = 0 by omega, show (i - -149).toNat = I - 925 by omega]
        rw [show I = (I - 925) + 925 by omega, pw_add, ← Nat.mul_assoc] at g2
        have := Nat.le_of_mul_le_mul_right g2 (pw_pos _)
        rw [show pw 0 = 1 from rfl, Nat.mul_one]
        exact this
      · rw [show (i - -149).toNat = 0 by omega, show (-149 - i).toNat = 925 - I by omega]
        have e : pw 925 = pw (925 - I) * pw I := by rw [← pw_add]; congr 1; omega
        rw [e, ← Nat.mul_assoc] at g2
        have := Nat.le_of_mul_le_mul_right g2 (pw_pos _)
        rw [show pw 0 = 1 from rfl, Nat.mul_one]
        exact this
    have hninf : (FloatKind.f32.decode (FloatKind.f32.encode (.number (sg D x) a i))).isInfinity = false := by
      obtain ⟨m', e', hr', _⟩ := read_fin Ieee.single (Ieee.single.write (.number (sg D x) a i)) (by rw [inf32]; omega)
      show (Ieee.single.read (Ieee.single.write (.number (sg D x) a i))).isInfinity = false
      rw [hr']
      rfl
    unfold floatToFloatBits
    rw [if_neg (by decide)]
    have e1' : FloatKind.f64.decode x = .number (sg D x) a i := e1
    rw [e1']
    simp only [hninf]
    simp

/-- float64(n) of an integer -/
theorem B2.ofInt {n : Nat} {k : Int} (h : k.natAbs ≤ 2 ^ n) : B2 n (floatOfInt .f64 k) := by
  refine .inr ?_
  show rg D (D.write (.number (k < 0) k.natAbs 0)) ≤ P2 n
  refine write_le D _ _ _ _ ?_
  rw [Mg_P2, least64]
  simp only [pw_is]
  rw [show ((0 : Int) - -1074).toNat = 1074 from rfl, show ((-1074 : Int) - 0).toNat = 0 from rfl]
  rw [show pw 0 = 1 from rfl, Nat.mul_one, Nat.add_comm 1074 n, pw_add]
  exact Nat.mul_le_mul_right _ h

/-- int64(x) of a number whose absolute value is at most 2 to the power of 62 -/
def fint (x : Nat) : Int := (floatToIntVal .f64 x .i64).getD 0
theorem fint_some {n x : Nat} (h : B2 n x) (hn : n ≤ 62) (hx : nan .f64 x = false) : floatToIntVal .f64 x .i64 = some (fint x) ∧ (fint x).natAbs ≤ 2 ^ n := by
  obtain ⟨a, i, e1, hi, ha, _⟩ := read_fin D x (h.lt hx (by omega))
  have g := h.Mg hx
  rw [← ha] at g
  have e1' : FloatKind.f64.decode x = .number (sg D x) a i := e1
  have hb : Toward.zero.cut (sg D x) (a <<< i.toNat) (-i).toNat ≤ 2 ^ n := by
    unfold Toward.cut
    simp only [Bool.toNat_false, Nat.add_zero]
    rw [least64] at g hi
    obtain ⟨I, hI⟩ : ∃ I : Nat, (i - -1074).toNat = I := ⟨_, rfl⟩
    rw [hI] at g
    simp only [pw_is] at *
    rw [Nat.shiftLeft_eq, Nat.shiftLeft_eq, Nat.one_mul]
    by_cases hi0 : 0 ≤ i
    · rw [show (-i).toNat = 0 by omega, Nat.zero_min]
      rw [show (2 : Nat) ^ 0 = 1 from rfl, Nat.div_one]
      have : I = i.toNat + 1074 := by omega
      rw [this, pw_add, Nat.add_comm 1074 n, pw_add, ← Nat.mul_assoc] at g
      exact Nat.le_of_mul_le_mul_right g (pw_pos _)
    · rw [show i.toNat = 0 by omega]
      simp only [Nat.pow_zero, Nat.mul_one]
      by_cases hd : (-i).toNat ≤ a.log2 + 2
      · rw [Nat.min_eq_left hd]
        apply Nat.div_le_of_le_mul
        have : I + (-i).toNat = 1074 := by omega
        rw [Nat.add_comm 1074 n, pw_add] at g
        rw [← this, pw_add, Nat.mul_comm (pw I), ← Nat.mul_assoc] at g
        have := Nat.le_of_mul_le_mul_right g (pw_pos _)
        rw [Nat.mul_comm]
        exact this
      · rw [Nat.min_eq_right (by omega)]
        have hlt := Nat.lt_log2_self (n := a)
        have e2 : 2 ^ (a.log2 + 2) = 2 * 2 ^ (a.log2 + 1) := by rw [Nat.pow_succ, Nat.mul_comm]
        rw [Nat.div_eq_of_lt (by omega)]
        exact Nat.zero_le _
  have hk : ∃ k : Int, (FloatKind.f64.decode x).toInt .zero = some k ∧ k.natAbs ≤ 2 ^ n := by
    rw [e1']
    refine ⟨_, rfl, ?_⟩
    simp only [signed]
    cases hs : sg D x <;> rw [hs] at hb <;> simpa using hb
  obtain ⟨k, hk1, hk2⟩ := hk
  have hpow : 2 ^ n ≤ 2 ^ 62 := Nat.pow_le_pow_right (by omega) hn
  have hv : floatToIntVal .f64 x .i64 = some k := by
    unfold floatToIntVal
    rw [hk1]
    simp only [IntKind.min, IntKind.max, IntKind.bits, IntKind.signed]
    rw [if_pos (by simp; omega)]
  unfold fint
  rw [hv]
  exact ⟨rfl, hk2⟩

/-! ### The root -/
theorem rootFrom_le (n : Nat) : ∀ (k r : Nat), r * r ≤ n → Datum.rootFrom n k r * Datum.rootFrom n k r ≤ n
  | 0, r, h => h
  | k + 1, r, h => by
    unfold Datum.rootFrom
    simp only
    split
    · rename_i h2
      exact rootFrom_le n k _ h2
    · exact rootFrom_le n k _ h
theorem rootFrom_ge (n : Nat) : ∀ (k r : Nat), r ≤ Datum.rootFrom n k r
  | 0, r => Nat.le_refl _
  | k + 1, r => by
    unfold Datum.rootFrom
    simp only
    split
    · exact Nat.le_trans (Nat.le_add_right _ _) (rootFrom_ge n k _)
    · exact rootFrom_ge n k _
theorem rootFrom_pos (n : Nat) (hn : n ≠ 0) : ∀ (k r : Nat), 1 ≤ k ∨ 1 ≤ r → 1 ≤ Datum.rootFrom n k r
  | 0, r, h => by
    rcases h with h | h
    · omega
    · exact h
  | k + 1, r, h => by
    by_cases hr : 1 ≤ r
    · exact Nat.le_trans hr (rootFrom_ge n _ _)
    · obtain rfl : r = 0 := by omega
      unfold Datum.rootFrom
      simp only
      by_cases hk : 1 ≤ k
      · exact rootFrom_pos n hn k _ (.inl hk)
      · obtain rfl : k = 0 := by omega
        simp only [Nat.zero_add, Nat.shiftLeft_zero, Nat.mul_one]
        rw [if_pos (by omega)]
        exact Nat.le_refl _

/-- the root, as the model has it; of a negative number a NaN -/
def froot (x : Nat) : Nat := (D.sqrt x).getD (qn .f64)
theorem froot_nan {x : Nat} (h : nan .f64 x = true) : froot x = qn .f64 := by
  obtain ⟨s, t, hd⟩ := read_of_nan h
  unfold froot Format.sqrt
  have hd' : D.read x = .nan s t := hd
  rw [hd']
  rfl
theorem froot_congr {x y : Nat} (h : FEq .f64 x y) : froot x = froot y := by
  rcases h.cases with rfl | ⟨h1, h2⟩
  · rfl
  · rw [froot_nan h1, froot_nan h2]
theorem sqrt_none (x : Nat) (h : D.sqrt x = none) : froot x = qn .f64 := by unfold froot; rw [h]; rfl
theorem run_sqrt {P : Program} (w : World) (x : Nat) : ∃ v n, FEq .f64 v (froot x) ∧ (Extern.MathSqrt.sqrt #[.float .f64 x]).run P w = .ok (.float .f64 v) (w.drewN n) := by
  cases h : D.sqrt x with
  | some r =>
    refine ⟨r, 0, ?_, ?_⟩
    · unfold froot; rw [h]; exact FEq.refl _ _
    · have h' : FloatKind.f64.format.sqrt x = some r := h
      change Sem.run P (match FloatKind.f64.format.sqrt x with | some r => pure (Value.float .f64 r) | none => do pure (Value.float .f64 (← choose (.nanBits .f64 x x)))) w = _
      rw [h']
      rfl
  | none =>
    refine ⟨_, 1, FEq.of_nan (cut_nan .f64 x x (w.tape w.drawn (.nanBits .f64 x x))) (by rw [sqrt_none x h]; exact nan_qn _), ?_⟩
    have h' : FloatKind.f64.format.sqrt x = none := h
    change Sem.run P (match FloatKind.f64.format.sqrt x with | some r => pure (Value.float .f64 r) | none => do pure (Value.float .f64 (← choose (.nanBits .f64 x x)))) w = _
    rw [h']
    simp [choose, Sem.run, Question.forced, World.drewN]
theorem B2.root {n j k x : Nat} (h : B2 n x) (hn : n ≤ 1023) (hj : n ≤ 2 * j) (hk : j + 1 ≤ k) : B2 k (froot x) := by
  cases h1 : nan .f64 x with
  | true => rw [froot_nan h1]; exact B2_qn k
  | false =>
    obtain ⟨a, i, e1, hi, ha, hlt⟩ := read_fin D x (h.lt h1 (by omega))
    cases hs : D.sqrt x with
    | none => rw [sqrt_none x hs]; exact B2_qn k
    | some r =>
      have hr : froot x = r := by unfold froot; rw [hs]; rfl
      rw [hr]
      unfold Format.sqrt at hs
      rw [e1] at hs
      simp only [Datum.root] at hs
      by_cases ha0 : a = 0
      · rw [if_pos ha0] at hs
        injection hs with hs
        rw [← hs, ha0]
        exact .inr (write_le D _ _ _ _ (by simp))
      · rw [if_neg ha0] at hs
        split at hs
        · cases hs
        · injection hs with hs
          rw [← hs]
          clear hs
          have hfrac : D.fractionBits = 52 := rfl
          rw [hfrac]
          have hb : D.binade = 2 ^ 52 := rfl
          have hlog : a.log2 ≤ 53 := by
            have : a < 2 ^ 54 := by rw [hb] at hlt; omega
            have := (Nat.log2_lt ha0).2 this
            omega
          have g := h.Mg h1
          rw [← ha] at g
          generalize hmore : 2 * (52 + 2) - a.log2 + ((i - (2 * (52 + 2) - a.log2 : Nat)) % 2).toNat = more
          have hmore1 : more ≤ 109 := by omega
          have heven : (i - (more : Int)) % 2 = 0 := by omega
          generalize hN : a <<< more = N
          rw [Nat.shiftLeft_eq] at hN
          have hN0 : N ≠ 0 := by
            rw [← hN]
            exact Nat.ne_of_gt (Nat.mul_pos (Nat.pos_of_ne_zero ha0) (Nat.two_pow_pos _))
          have hw1 := rootFrom_le N (N.log2 / 2 + 1) 0 (by simp)
          have hw2 := rootFrom_pos N hN0 (N.log2 / 2 + 1) 0 (.inl (by omega))
          generalize Datum.rootFrom N (N.log2 / 2 + 1) 0 = W at *
          have hst : (W * W != N).toNat ≤ 1 := by cases (W * W != N) <;> simp
          generalize (W * W != N).toNat = s at *
          refine .inr (write_le D _ _ _ _ ?_)
          rw [Mg_P2]
          rw [least64] at *
          obtain ⟨I, hI⟩ : ∃ I : Nat, (i - -1074).toNat = I := ⟨_, rfl⟩
          rw [hI] at g
          simp only [pw_is] at *
          obtain ⟨q, hq⟩ : ∃ q : Nat, ((i - (more : Int)) / 2 - 1 - -1074).toNat = q := ⟨_, rfl⟩
          rw [hq, show (-1074 - ((i - (more : Int)) / 2 - 1)).toNat = 0 by omega, show pw 0 = 1 from rfl, Nat.mul_one]
          -- (W * 2^(q+1))^2 = W^2 * 2^(2q+2) ≤ N * 2^(2q+2) = a * 2^(more + 2q + 2) = a * 2^(I + 1074)
          have hexp : more + (2 * q + 2) = I + 1074 := by omega
          have hsq : W * pw (q + 1) * (W * pw (q + 1)) ≤ pw (1074 + j) * pw (1074 + j) := by
            calc W * pw (q + 1) * (W * pw (q + 1)) = W * W * pw (2 * q + 2) := by
                  rw [show 2 * q + 2 = (q + 1) + (q + 1) by omega, pw_add (q + 1) (q + 1)]
                  simp only [Nat.mul_assoc, Nat.mul_left_comm]
              _ ≤ N * pw (2 * q + 2) := Nat.mul_le_mul_right _ hw1
              _ = a * pw (I + 1074) := by rw [← hN, Nat.mul_assoc, ← pw_add, hexp]
              _ = a * pw I * pw 1074 := by rw [pw_add, Nat.mul_assoc]
              _ ≤ pw (1074 + n) * pw 1074 := Nat.mul_le_mul_right _ g
              _ ≤ pw (1074 + j) * pw (1074 + j) := by rw [← pw_add, ← pw_add]; exact pw_mono (by omega)
          have hle : W * pw (q + 1) ≤ pw (1074 + j) := by
            refine Nat.le_of_not_lt fun hgt => ?_
            have := Nat.mul_lt_mul_of_lt_of_le hgt (Nat.le_of_lt hgt) (by have := pw_pos (1074 + j); omega)
            omega
          have e : pw (q + 1) = pw q + pw q := (pw_two q).symm
          have e2 : pw (1074 + (j + 1)) = pw (1074 + j) + pw (1074 + j) := (pw_two _).symm
          have e3 := pw_mono (show 1074 + (j + 1) ≤ 1074 + k by omega)
          rw [e, Nat.mul_add] at hle
          have e4 : (2 * W + s) * pw q ≤ 2 * (W * pw q) + W * pw q := by
            rw [Nat.add_mul, Nat.mul_assoc]
            have := Nat.mul_le_mul_right (pw q) (show s ≤ W by omega)
            omega
          omega

/-- THE WALK'S LAW for a call of math.sqrt, which has no body here -/
theorem wpList_sqrt {P : Program} {ops : Array Oper} {Q : Exit → Act → World → Prop} {a : Act} {w : World} {rest : List Oper}
    {d : Option Tmp} {ty : TypeId} {o : Operand} {ts : Array TypeId} {f : FuncId} {fn : Func} {pos : String} {af : Array Edge} {g : Option (Nat × Bool)}
    (hf : P.funcs[f]? = some fn) (hname : (fn.name == "runtime.NumGoroutine") = false) (hb : fn.body.isNone = true) (hn : Extern.findNext fn = none) (he : Extern.find fn = some Extern.MathSqrt.sqrt)
    (hw : Region.wanted ⟨d, .call { callee := .value (.func f), args := #[o], argTypes := ts }, ty, pos, af, g⟩ (yielded ops a.tmps) = true)
    {x : Nat} (ho : a.eval o = .float .f64 x)
    (hK : ∀ v n, FEq .f64 v (froot x) → wpList P ops Q rest (a.put d (.float .f64 v)) (w.drewN n)) :
    wpList P ops Q (⟨d, .call { callee := .value (.func f), args := #[o], argTypes := ts }, ty, pos, af, g⟩ :: rest) a w := by
  refine wpList_step fun K hK' => ?_
  rw [if_pos hw]
  obtain ⟨v, n, hv, hrun⟩ := run_sqrt (P := P) w x
  have hc := run_callFunc_extern hf hname hb hn he #[.float .f64 x] w
  rw [hrun] at hc
  have hfe : a.eval (.func f) = .func (.func f) #[] #[] := rfl
  unfold Oper.wp
  have h2 : (execOp a.eval ⟨d, .call { callee := .value (.func f), args := #[o], argTypes := ts }, ty, pos, af, g⟩).run P w = .ok (.value (.float .f64 v)) (w.drewN n) := by
    simp [execOp, resolve, invoke, Deferred.ofValue, hfe, ho, hc]
  rw [h2]
  exact hK' _ _ (hK v n hv)

/-- a finite float32, made a float64 -/
theorem B2.wide {x : Nat} (h : rg Ieee.single x < 2139095040) : B2 128 (fwide x) := by
  refine .inr ?_
  have hw := (wide_fin x h).2.2.2
  have hlt := Mg_smono Ieee.single (show rg Ieee.single x < Ieee.single.infRung by rw [inf32]; exact h)
  rw [Mg_inf32] at hlt
  refine (Mg_le_iff D).1 ?_
  rw [Mg_P2, hw]
  have e : pw (1074 + 128) = pw 277 * w925 := by rw [w925, ← pw_add]
  rw [e]
  exact Nat.mul_le_mul_right _ (Nat.le_of_lt hlt)
theorem Fits_inf {x : Nat} (h : rg D x = 9218868437227405312) : Fits x := by
  right
  have hr : FloatKind.f64.decode x = .infinity (sg D x) := read_inf D (by decide) x (by rw [inf64]; exact h)
  unfold floatToFloatBits
  rw [if_neg (by decide), hr]
  rfl
theorem root_fits (x : Nat) : Fits (froot (fwide x)) := by
  cases hn : nan .f32 x with
  | true => exact .inl (by rw [froot_nan (by rw [nan_wide, hn])]; exact nan_qn _)
  | false =>
    have h2 := rg_le_of hn
    change rg Ieee.single x ≤ Ieee.single.infRung at h2
    rw [inf32] at h2
    rcases Nat.lt_or_eq_of_le h2 with h | h
    · exact ((B2.wide h).root (j := 64) (k := 65) (by omega) (by omega) (by omega)).fits (by omega)
    · have hw := wide_inf x h
      have hr : D.read (fwide x) = .infinity (sg D (fwide x)) := read_inf D (by decide) _ (by rw [inf64]; exact hw.2.2)
      unfold froot Format.sqrt
      rw [hr]
      cases hs : sg D (fwide x) with
      | true => exact .inl (nan_qn .f64)
      | false => exact Fits_inf (by decide +kernel)

/-! ### Finite numbers, bounded: every operation gives just one number -/
def F2 (n v : Nat) : Prop := n ≤ 1023 ∧ rg D v ≤ P2 n
theorem F2.nn {n v : Nat} (h : F2 n v) : nan .f64 v = false := by
  rw [nan_eq]
  have := P2_inf h.1
  have h2 := h.2
  change decide (D.infRung < rg D v) = false
  simp
  omega
theorem F2.lt {n v : Nat} (h : F2 n v) : rg D v < D.infRung := Nat.lt_of_le_of_lt h.2 (P2_inf h.1)
theorem F2.b {n v : Nat} (h : F2 n v) : B2 n v := .inr h.2
theorem F2.mono {n m v : Nat} (h : F2 n v) (hm : n ≤ m) (hk : m ≤ 1023) : F2 m v := ⟨hk, Nat.le_trans h.2 (P2_mono hm)⟩
theorem F2.of {n v : Nat} (h : B2 n v) (hn : nan .f64 v = false) (hk : n ≤ 1023) : F2 n v := ⟨hk, h.fin hn⟩
theorem nn_write (s : Bool) (m : Nat) (e : Int) : nan .f64 (D.write (.number s m e)) = false := by
  rw [nan_eq]
  have hsw := D.infRung_lt
  change decide (D.infRung < rg D (D.nearest s m e)) = false
  have : rg D (D.nearest s m e) ≤ D.infRung := by
    by_cases h0 : m = 0
    · subst h0
      simp only [Format.nearest, if_true]
      rw [rg_word _ _ (signWeight_pos D)]
      exact Nat.zero_le _
    · rw [nearest_eq D s m e h0, rg_word _ _ (by omega)]
      exact Nat.min_le_right _ _
  simp
  omega
theorem nn_add {x y : Nat} (hx : rg D x < D.infRung) (hy : rg D y < D.infRung) : nan .f64 (fop .add .f64 x y) = false := by
  obtain ⟨s, m, e, h1, _⟩ := sum_fin D x y hx hy
  have hf : fop .add .f64 x y = D.write (.number s m e) := by
    show ((((D.read x).sum (D.read y)).map D.write).getD (qn .f64)) = _
    rw [h1]
    rfl
  rw [hf]
  exact nn_write _ _ _
theorem nn_mul {x y : Nat} (hx : rg D x < D.infRung) (hy : rg D y < D.infRung) : nan .f64 (fop .mul .f64 x y) = false := by
  obtain ⟨a, i, e1, _⟩ := read_fin D x hx
  obtain ⟨b, j, e2, _⟩ := read_fin D y hy
  have hf : fop .mul .f64 x y = D.write (.number (sg D x ^^ sg D y) (a * b) (i + j)) := by
    show ((((D.read x).product (D.read y)).map D.write).getD (qn .f64)) = _
    rw [e1, e2]
    rfl
  rw [hf]
  exact nn_write _ _ _
theorem nn_div {x y : Nat} (hx : rg D x < D.infRung) (hy : rg D y < D.infRung) (h0 : 0 < rg D y) : nan .f64 (fop .quo .f64 x y) = false := by
  obtain ⟨a, i, e1, _⟩ := read_fin D x hx
  obtain ⟨b, j, e2, _, hb, _⟩ := read_fin D y hy
  have hb0 : b ≠ 0 := by
    intro hb0
    rw [hb0, Nat.zero_mul] at hb
    have := Mg_smono D h0
    omega
  have hq : ∃ s m e, (Datum.number (sg D x) a i).quotient (D.fractionBits + 2) (Datum.number (sg D y) b j) = some (.number s m e) := by
    simp only [Datum.quotient]
    rw [if_neg hb0]
    exact ⟨_, _, _, rfl⟩
  obtain ⟨s, m, e, hq⟩ := hq
  have hf : fop .quo .f64 x y = D.write (.number s m e) := by
    show ((((D.read x).quotient (D.fractionBits + 2) (D.read y)).map D.write).getD (qn .f64)) = _
    rw [e1, e2, hq]
    rfl
  rw [hf]
  exact nn_write _ _ _
theorem F2.add {n m x y : Nat} (hx : F2 n x) (hy : F2 m y) (k : Nat) (hn : n + 1 ≤ k) (hm : m + 1 ≤ k) (hk : k ≤ 1023) : F2 k (fop .add .f64 x y) :=
  F2.of (hx.b.add hy.b hn hm hk) (nn_add hx.lt hy.lt) hk
theorem F2.neg {n x : Nat} (hx : F2 n x) : F2 n (fneg .f64 x) := ⟨hx.1, by rw [show rg D (fneg .f64 x) = rg D x from rg_fneg .f64 x]; exact hx.2⟩
theorem F2.sub {n m x y : Nat} (hx : F2 n x) (hy : F2 m y) (k : Nat) (hn : n + 1 ≤ k) (hm : m + 1 ≤ k) (hk : k ≤ 1023) : F2 k (fop .sub .f64 x y) := by
  rw [fop_sub]
  exact hx.add hy.neg k hn hm hk
theorem F2.mul {n m x y : Nat} (hx : F2 n x) (hy : F2 m y) (k : Nat) (hn : n + m ≤ k) (hk : k ≤ 1023) : F2 k (fop .mul .f64 x y) :=
  F2.of (hx.b.mul hy.b hn hk) (nn_mul hx.lt hy.lt) hk
theorem F2.div {n m x y : Nat} (hx : F2 n x) (hy : F2 m y) (h1 : P2 0 ≤ rg D y) (k : Nat) (hn : n + 1 ≤ k) (hk : k ≤ 1023) : F2 k (fop .quo .f64 x y) :=
  F2.of (hx.b.div (.inr h1) hn hk) (nn_div hx.lt hy.lt (Nat.lt_of_lt_of_le (by decide) h1)) hk
theorem F2.ofInt {n : Nat} {k : Int} (h : k.natAbs ≤ 2 ^ n) (hn : n ≤ 1023) : F2 n (floatOfInt .f64 k) :=
  F2.of (B2.ofInt h) (nn_write _ _ _) hn
theorem F2.wide {x : Nat} (h : rg Ieee.single x < 2139095040) : F2 128 (fwide x) :=
  F2.of (B2.wide h) (by
    rw [nan_wide, nan_eq]
    change decide (Ieee.single.infRung < rg Ieee.single x) = false
    rw [inf32]
    simp
    omega) (by omega)
theorem F2.fits {n x : Nat} (h : F2 n x) (hn : n ≤ 127) : Fits x := h.b.fits hn

/-- THE WALK'S LAW for an operation that gives a number: just that number; the world is as it was -/
theorem run_fop_det {P : Program} {op : BinOp} {k : FloatKind} {x y : Nat} (h : nan k (fop op k x y) = false) (t : TypeId) (w : World) :
    (binOp op t (.float k x) (.float k y)).run P w = .ok (.float k (fop op k x y)) w := by
  cases hb : floatBits op k x y with
  | some r =>
    have : fop op k x y = r := by unfold fop; rw [hb]; rfl
    rw [this]
    exact run_float_arith w op t k x y r hb
  | none =>
    have : fop op k x y = qn k := by unfold fop; rw [hb]; rfl
    rw [this, nan_qn] at h
    cases h
/-- the same, the result under a name -/
theorem det_named {P : Program} {op : BinOp} {k : FloatKind} {x y : Nat} (h : nan k (fop op k x y) = false) (t : TypeId) :
    ∃ z, Hid (fop op k x y = z) ∧ ∀ w, (binOp op t (.float k x) (.float k y)).run P w = .ok (.float k z) w := ⟨_, hid rfl, run_fop_det h t⟩

/-! ### A number without its whole part -/
theorem nat_pw (n : Nat) : ((pw n : Nat) : Int) = (pw n : Nat) := rfl
theorem ofInt_sv {k : Int} (h : k.natAbs ≤ 2 ^ 52) : sv D (floatOfInt .f64 k) = k * (pw 1074 : Nat) := by
  have hB := binade64
  have h52 : (2 : Nat) ^ 52 = 4503599627370496 := by decide +kernel
  rw [h52] at h
  show sv D (D.write (.number (k < 0) k.natAbs 0)) = _
  by_cases h0 : k = 0
  · subst h0
    have : sv D (D.write (.number (decide ((0 : Int) < 0)) (Int.natAbs 0) 0)) = 0 := by decide +kernel
    rw [this]
    simp
  · have hn : k.natAbs ≠ 0 := by omega
    obtain ⟨g, hg⟩ := Mg_surj D k.natAbs 1074 (by rw [hB]; omega)
    simp only [pw_is] at hg
    have hgi : g < D.infRung := by
      refine (Mg_lt_iff D).1 ?_
      rw [hg, Mg_inf64]
      refine Nat.lt_of_le_of_lt (Nat.mul_le_mul_right _ h) ?_
      exact of_decide_eq_true (by decide +kernel)
    have hnr : nearRung D k.natAbs 0 = g := by
      refine near_exact D k.natAbs 0 hn g ?_
      rw [least64]
      simp only [pw_is]
      rw [show ((0 : Int) - -1074).toNat = 1074 from rfl, show ((-1074 : Int) - 0).toNat = 0 from rfl, hg]
      rw [show pw 0 = 1 from rfl, Nat.mul_one]
    have hw : D.write (.number (k < 0) k.natAbs 0) = D.word (k < 0) g := by
      show D.nearest _ _ _ = _
      rw [nearest_eq D _ _ _ hn, hnr, Nat.min_eq_left (by omega)]
    have hsw := D.infRung_lt
    rw [hw]
    unfold sv
    rw [sg_word _ _ (by omega), rg_word _ _ (by omega), hg]
    generalize pw 1074 = q
    by_cases hk : k < 0
    · rw [if_pos (by simpa using hk)]
      rw [Int.natCast_mul, show ((k.natAbs : Nat) : Int) = -k by omega, Int.neg_mul, Int.neg_neg]
    · rw [if_neg (by simpa using hk)]
      rw [Int.natCast_mul, show ((k.natAbs : Nat) : Int) = k by omega]
/-- cut towards zero: off by less than one -/
theorem fint_near {x : Nat} (h : F2 52 x) : (sv D x - fint x * (pw 1074 : Nat)).natAbs < pw 1074 := by
  obtain ⟨a, i, e1, hi, ha, _⟩ := read_fin D x h.lt
  have hv := (fint_some h.b (by omega) h.nn).1
  have e1' : FloatKind.f64.decode x = .number (sg D x) a i := e1
  rw [least64] at hi ha
  obtain ⟨I, hI⟩ : ∃ I : Nat, (i - -1074).toNat = I := ⟨_, rfl⟩
  rw [hI] at ha
  simp only [pw_is] at ha
  have hlow : Toward.zero.cut (sg D x) (a <<< i.toNat) (-i).toNat * pw 1074 ≤ a * pw I ∧ a * pw I < (Toward.zero.cut (sg D x) (a <<< i.toNat) (-i).toNat + 1) * pw 1074 := by
    unfold Toward.cut
    simp only [Bool.toNat_false, Nat.add_zero]
    rw [Nat.shiftLeft_eq, Nat.shiftLeft_eq, Nat.one_mul]
    by_cases hi0 : 0 ≤ i
    · rw [show (-i).toNat = 0 by omega, Nat.zero_min]
      rw [show (2 : Nat) ^ 0 = 1 from rfl, Nat.div_one]
      have : I = i.toNat + 1074 := by omega
      rw [this, pw_add, ← Nat.mul_assoc]
      simp only [pw_is]
      refine ⟨Nat.le_refl _, ?_⟩
      rw [Nat.add_mul]
      have := pw_pos 1074
      omega
    · rw [show i.toNat = 0 by omega]
      simp only [Nat.pow_zero, Nat.mul_one]
      have hId : (-i).toNat + I = 1074 := by omega
      by_cases hd : (-i).toNat ≤ a.log2 + 2
      · rw [Nat.min_eq_left hd]
        simp only [pw_is]
        have h1 := Nat.div_add_mod a (pw (-i).toNat)
        have h2 := Nat.mod_lt a (pw_pos (-i).toNat)
        have e : pw 1074 = pw (-i).toNat * pw I := by rw [← pw_add, hId]
        rw [e, ← Nat.mul_assoc, ← Nat.mul_assoc]
        constructor
        · refine Nat.mul_le_mul_right _ ?_
          rw [Nat.mul_comm]
          omega
        · refine Nat.mul_lt_mul_of_pos_right ?_ (pw_pos I)
          rw [Nat.add_mul, Nat.mul_comm]
          omega
      · rw [Nat.min_eq_right (by omega)]
        have hlt := Nat.lt_log2_self (n := a)
        have e2 : 2 ^ (a.log2 + 2) = 2 * 2 ^ (a.log2 + 1) := by rw [Nat.pow_succ, Nat.mul_comm]
        rw [Nat.div_eq_of_lt (by omega)]
        refine ⟨by rw [Nat.zero_mul]; exact Nat.zero_le _, ?_⟩
        rw [Nat.zero_add, Nat.one_mul, ← hId, pw_add]
        refine Nat.mul_lt_mul_of_pos_right (Nat.lt_of_lt_of_le hlt ?_) (pw_pos I)
        exact Nat.pow_le_pow_right (by omega) (by omega)
  generalize hT : Toward.zero.cut (sg D x) (a <<< i.toNat) (-i).toNat = T at hlow
  have hf : fint x = if sg D x = true then -(T : Int) else (T : Int) := by
    have h2 : (FloatKind.f64.decode x).toInt .zero = some (if sg D x = true then -(T : Int) else (T : Int)) := by
      rw [e1']
      simp only [Datum.toInt, Datum.integral, hT, signed]
      simp
    generalize (if sg D x = true then -(T : Int) else (T : Int)) = K at h2 ⊢
    unfold floatToIntVal at hv
    rw [h2] at hv
    simp only at hv
    split at hv
    · injection hv with hv
      exact hv.symm
    · cases hv
  rw [hf]
  unfold sv
  rw [← ha]
  generalize a * pw I = M at *
  generalize pw 1074 = q at *
  rw [Nat.add_mul] at hlow
  obtain ⟨l1, l2⟩ := hlow
  have hc : ((T * q : Nat) : Int) = (T : Int) * (q : Int) := Int.natCast_mul T q
  cases sg D x
  · simp only [Bool.false_eq_true, if_false]
    omega
  · simp only [if_true]
    rw [Int.neg_mul]
    omega
def C1 : Nat := 4607182418800017408
def fracF (x : Nat) : Nat := if (D.order (fop .sub .f64 x (floatOfInt .f64 (fint x))) 0 == some Ordering.lt) = true then fop .add .f64 (fop .sub .f64 x (floatOfInt .f64 (fint x))) C1 else fop .sub .f64 x (floatOfInt .f64 (fint x))
theorem add_F2 {n x y : Nat} (hx : rg D x < D.infRung) (hy : rg D y < D.infRung) (hn : n ≤ 1023) (h : (sv D x + sv D y).natAbs ≤ pw (1074 + n)) : F2 n (fop .add .f64 x y) :=
  ⟨hn, add_le x y _ hx hy (by rw [Mg_P2]; exact h)⟩
theorem sub_F2 {n x y : Nat} (hx : rg D x < D.infRung) (hy : rg D y < D.infRung) (hn : n ≤ 1023) (h : (sv D x - sv D y).natAbs ≤ pw (1074 + n)) : F2 n (fop .sub .f64 x y) := by
  rw [fop_sub]
  refine add_F2 hx (by rw [show rg D (fneg .f64 y) = rg D y from rg_fneg .f64 y]; exact hy) hn ?_
  rw [show sv D (fneg .f64 y) = -sv D y from sv_fneg .f64 y]
  exact h
theorem less_F2 {x : Nat} (h : F2 52 x) : F2 0 (fop .sub .f64 x (floatOfInt .f64 (fint x))) := by
  have hi := (fint_some h.b (by omega) h.nn).2
  have ho := F2.ofInt hi (by omega)
  refine sub_F2 h.lt ho.lt (by omega) ?_
  rw [ofInt_sv hi]
  exact Nat.le_of_lt (fint_near h)
theorem order_lt0 {x : Nat} (hx : rg D x ≤ D.infRung) : (D.order x 0 == some Ordering.lt) = decide (sv D x < 0) := by
  rw [order_sv D (by decide) x 0 hx (by decide +kernel)]
  have h0 : sv D 0 = 0 := by decide +kernel
  rw [h0, Bool.eq_iff_iff]
  simp [Int.compare_eq_lt]
theorem sv_C1 : sv D C1 = (pw 1074 : Nat) := by decide +kernel
theorem frac_F2 {x : Nat} (h : F2 52 x) : F2 0 (fracF x) := by
  have hf := less_F2 h
  unfold fracF
  generalize fop .sub .f64 x (floatOfInt .f64 (fint x)) = f at *
  split
  · rename_i hlt
    rw [order_lt0 (Nat.le_of_lt hf.lt)] at hlt
    have hlt : sv D f < 0 := by simpa using hlt
    refine add_F2 hf.lt (by decide +kernel) (by omega) ?_
    have hm := natAbs_sv D f
    have hb : Fl.Mg D (rg D f) ≤ pw (1074 + 0) := by rw [← Mg_P2]; exact Mg_mono D hf.2
    rw [sv_C1]
    simp only [Nat.add_zero] at *
    omega
  · exact hf
end Go.Proofs.Fl
/-
  The sine of turns in float64, as both texts compute it: its numbers, and their bounds. Over no program.
-/
namespace Go.Proofs.Fl
open Go Ieee Go.RowKit

def C2 : Nat := 4611686018427387904
def C05 : Nat := 4602678819172646912
def C025 : Nat := 4598175219545276416
def Cturn : Nat := 4618760256179416344
theorem F2_C1 : F2 0 C1 := ⟨by omega, by decide +kernel⟩
theorem F2_C05 : F2 0 C05 := ⟨by omega, by decide +kernel⟩
theorem F2_Cturn : F2 3 Cturn := ⟨by omega, by decide +kernel⟩
/-- the counter of the program's loop, a float, behind j rounds -/
def kf (j : Nat) : Nat := floatOfInt .f64 (8 - (j : Int))
def kA (j : Nat) : Nat := fop .mul .f64 C2 (kf j)
def kB (j : Nat) : Nat := fop .add .f64 (kA j) C1
/-- what is divided by in round j -/
def kD (j : Nat) : Nat := floatOfInt .f64 (2 * (8 - (j : Int)) * (2 * (8 - (j : Int)) + 1))
def ktabB (j : Nat) : Bool :=
  (FloatKind.f64.format.order (kf j) C1 == some Ordering.gt || FloatKind.f64.format.order (kf j) C1 == some Ordering.eq) &&
  !nan .f64 (kA j) && !nan .f64 (kB j) && (fop .mul .f64 (kA j) (kB j) == kD j) && !nan .f64 (kD j) && (fop .sub .f64 (kf j) C1 == kf (j + 1)) && !nan .f64 (kf (j + 1)) &&
  decide (P2 0 ≤ rg D (kD j)) && decide (rg D (kD j) ≤ P2 10)
theorem ktab_all : (List.range 8).all ktabB = true := by decide +kernel
theorem ktab {j : Nat} (h : j < 8) : ktabB j = true := List.all_eq_true.1 ktab_all j (List.mem_range.2 h)
theorem kf_end : (FloatKind.f64.format.order (kf 8) C1 == some Ordering.gt || FloatKind.f64.format.order (kf 8) C1 == some Ordering.eq) = false := by decide +kernel
theorem kf_start : kf 0 = 4620693217682128896 := by decide +kernel

/-- the polynomial behind j rounds -/
def sineP (u : Nat) : Nat → Nat
  | 0 => C1
  | j + 1 => fop .sub .f64 C1 (fop .quo .f64 (fop .mul .f64 u (sineP u j)) (kD j))
theorem kD_F2 {j : Nat} (h : j < 8) : F2 10 (kD j) ∧ P2 0 ≤ rg D (kD j) := by
  have := ktab h
  simp only [ktabB, Bool.and_eq_true, decide_eq_true_eq] at this
  exact ⟨⟨by omega, this.2⟩, this.1.2⟩
theorem sineP_F2 {u : Nat} (hu : F2 10 u) : ∀ j, j ≤ 8 → F2 (12 * j) (sineP u j)
  | 0, _ => F2_C1
  | j + 1, h => by
    have ih := sineP_F2 hu j (by omega)
    have hk := kD_F2 (show j < 8 by omega)
    have h1 := hu.mul ih (10 + 12 * j) (Nat.le_refl _) (by omega)
    have h2 := h1.div hk.1 hk.2 (11 + 12 * j) (by omega) (by omega)
    exact F2_C1.sub h2 (12 * (j + 1)) (by omega) (by omega) (by omega)
/-- the steps of a round, each a number -/
theorem sineP_steps {u : Nat} (hu : F2 10 u) {j : Nat} (h : j < 8) : nan .f64 (fop .mul .f64 u (sineP u j)) = false ∧ nan .f64 (fop .quo .f64 (fop .mul .f64 u (sineP u j)) (kD j)) = false ∧ nan .f64 (sineP u (j + 1)) = false := by
  have ih := sineP_F2 hu j (by omega)
  have hk := kD_F2 h
  have h1 := hu.mul ih (10 + 12 * j) (Nat.le_refl _) (by omega)
  have h2 := h1.div hk.1 hk.2 (11 + 12 * j) (by omega) (by omega)
  exact ⟨h1.nn, h2.nn, (sineP_F2 hu (j + 1) (by omega)).nn⟩

def sine1 (f : Nat) : Nat := if (D.order f C05 == some Ordering.gt || D.order f C05 == some Ordering.eq) = true then fop .sub .f64 f C05 else f
def sine2 (f : Nat) : Nat := if (D.order (sine1 f) C025 == some Ordering.gt) = true then fop .sub .f64 C05 (sine1 f) else sine1 f
def sineZ (f : Nat) : Nat := fop .mul .f64 (sine2 f) Cturn
def sineU (f : Nat) : Nat := fop .mul .f64 (sineZ f) (sineZ f)
def sineR (f : Nat) : Nat := fop .mul .f64 (sineZ f) (sineP (sineU f) 8)
/-- the sine of the turns whose fraction is f -/
def sineF (f : Nat) : Nat := if (D.order f C05 == some Ordering.gt || D.order f C05 == some Ordering.eq) = true then fneg .f64 (sineR f) else sineR f
theorem sine1_F2 {f : Nat} (h : F2 0 f) : F2 1 (sine1 f) := by
  unfold sine1
  split
  · exact h.sub F2_C05 1 (by omega) (by omega) (by omega)
  · exact h.mono (by omega) (by omega)
theorem sine2_F2 {f : Nat} (h : F2 0 f) : F2 2 (sine2 f) := by
  have := sine1_F2 h
  unfold sine2
  split
  · exact F2_C05.sub this 2 (by omega) (by omega) (by omega)
  · exact this.mono (by omega) (by omega)
theorem sineZ_F2 {f : Nat} (h : F2 0 f) : F2 5 (sineZ f) := (sine2_F2 h).mul F2_Cturn 5 (by omega) (by omega)
theorem sineU_F2 {f : Nat} (h : F2 0 f) : F2 10 (sineU f) := (sineZ_F2 h).mul (sineZ_F2 h) 10 (by omega) (by omega)
theorem sineR_F2 {f : Nat} (h : F2 0 f) : F2 101 (sineR f) := (sineZ_F2 h).mul (sineP_F2 (sineU_F2 h) 8 (by omega)) 101 (by omega) (by omega)
theorem sineF_F2 {f : Nat} (h : F2 0 f) : F2 101 (sineF f) := by
  unfold sineF
  split
  · exact (sineR_F2 h).neg
  · exact sineR_F2 h
/-- a float slot's bits, for a loop's measure -/
def bitsOfV : Value → Nat
  | .float _ b => b
  | _ => 0
theorem kf_fint_all : (List.range 9).all (fun j => fint (kf j) == 8 - (j : Int)) = true := by decide +kernel
theorem kf_fint {j : Nat} (h : j ≤ 8) : fint (kf j) = 8 - (j : Int) := by simpa using List.all_eq_true.1 kf_fint_all j (List.mem_range.2 (by omega))
theorem kf_measure {j : Nat} (h : j < 8) : (fint (bitsOfV (.float .f64 (kf (j + 1))))).toNat < (fint (bitsOfV (.float .f64 (kf j)))).toNat := by
  show (fint (kf (j + 1))).toNat < (fint (kf j)).toNat
  rw [kf_fint (show j + 1 ≤ 8 by omega), kf_fint (show j ≤ 8 by omega)]
  omega
structure KTab (j : Nat) : Prop where
  test : (FloatKind.f64.format.order (kf j) 4607182418800017408 == some Ordering.gt || FloatKind.f64.format.order (kf j) 4607182418800017408 == some Ordering.eq) = true
  nA : nan .f64 (kA j) = false
  nB : nan .f64 (kB j) = false
  eD : fop .mul .f64 (kA j) (kB j) = kD j
  nD : nan .f64 (kD j) = false
  eK : fop .sub .f64 (kf j) C1 = kf (j + 1)
  nK : nan .f64 (kf (j + 1)) = false
theorem ktabs {j : Nat} (h : j < 8) : KTab j := by
  have := ktab h
  simp only [ktabB, Bool.and_eq_true, decide_eq_true_eq, Bool.not_eq_true', beq_iff_eq] at this
  obtain ⟨⟨⟨⟨⟨⟨⟨⟨h1, h2⟩, h3⟩, h4⟩, h5⟩, h6⟩, h7⟩, _⟩, _⟩ := this
  exact ⟨h1, h2, h3, h4, h5, h6, h7⟩
/-- the parts of a sine, under their tests -/
structure SineParts (f f1 f2 z u : Nat) (T G : Bool) : Prop where
  hT : (FloatKind.f64.format.order f 4602678819172646912 == some Ordering.gt || FloatKind.f64.format.order f 4602678819172646912 == some Ordering.eq) = T
  h1 : f1 = if T = true then fop .sub .f64 f C05 else f
  n1 : nan .f64 (fop .sub .f64 f C05) = false
  hG : (FloatKind.f64.format.order f1 4598175219545276416 == some Ordering.gt) = G
  h2 : f2 = if G = true then fop .sub .f64 C05 f1 else f1
  n2 : nan .f64 (fop .sub .f64 C05 f1) = false
  hz : z = fop .mul .f64 f2 Cturn
  nz : nan .f64 (fop .mul .f64 f2 Cturn) = false
  hu : u = fop .mul .f64 z z
  nu : nan .f64 (fop .mul .f64 z z) = false
  fu : F2 10 u
  nr : nan .f64 (fop .mul .f64 z (sineP u 8)) = false
  res : sineF f = if T = true then fneg .f64 (fop .mul .f64 z (sineP u 8)) else fop .mul .f64 z (sineP u 8)
theorem sine_parts {f : Nat} (h : F2 0 f) : ∃ f1 f2 z u T G, SineParts f f1 f2 z u T G :=
  ⟨sine1 f, sine2 f, sineZ f, sineU f, _, _, rfl, rfl, (h.sub F2_C05 1 (by omega) (by omega) (by omega)).nn, rfl, rfl, (F2_C05.sub (sine1_F2 h) 2 (by omega) (by omega) (by omega)).nn, rfl, (sineZ_F2 h).nn, rfl, (sineU_F2 h).nn, sineU_F2 h, (sineR_F2 h).nn, rfl⟩

/-! ### Tests told by what the words stand for -/
theorem geq_sv {f : FloatKind} {x c : Nat} (hx : rg f.format x ≤ f.format.infRung) (hc : rg f.format c ≤ f.format.infRung) : (f.format.order x c == some Ordering.gt || f.format.order x c == some Ordering.eq) = decide (sv f.format c ≤ sv f.format x) := by
  rw [order_sv f.format (exp_pos f) x c hx hc, Bool.eq_iff_iff]
  simp only [Bool.or_eq_true, beq_iff_eq, Option.some.injEq, Int.compare_eq_gt, Int.compare_eq_eq, decide_eq_true_eq]
  omega
theorem leq_sv {f : FloatKind} {x c : Nat} (hx : rg f.format x ≤ f.format.infRung) (hc : rg f.format c ≤ f.format.infRung) : (f.format.order x c == some Ordering.lt || f.format.order x c == some Ordering.eq) = decide (sv f.format x ≤ sv f.format c) := by
  rw [order_sv f.format (exp_pos f) x c hx hc, Bool.eq_iff_iff]
  simp only [Bool.or_eq_true, beq_iff_eq, Option.some.injEq, Int.compare_eq_lt, Int.compare_eq_eq, decide_eq_true_eq]
  omega
theorem lss_sv {f : FloatKind} {x c : Nat} (hx : rg f.format x ≤ f.format.infRung) (hc : rg f.format c ≤ f.format.infRung) : (f.format.order x c == some Ordering.lt) = decide (sv f.format x < sv f.format c) := by
  rw [order_sv f.format (exp_pos f) x c hx hc, Bool.eq_iff_iff]
  simp only [beq_iff_eq, Option.some.injEq, Int.compare_eq_lt, decide_eq_true_eq]
theorem gtr_sv {f : FloatKind} {x c : Nat} (hx : rg f.format x ≤ f.format.infRung) (hc : rg f.format c ≤ f.format.infRung) : (f.format.order x c == some Ordering.gt) = decide (sv f.format c < sv f.format x) := by
  rw [order_sv f.format (exp_pos f) x c hx hc, Bool.eq_iff_iff]
  simp only [beq_iff_eq, Option.some.injEq, Int.compare_eq_gt, decide_eq_true_eq]
theorem neq_sv {f : FloatKind} {x c : Nat} (hx : rg f.format x ≤ f.format.infRung) (hc : rg f.format c ≤ f.format.infRung) : (f.format.order x c != some Ordering.eq) = decide (sv f.format x ≠ sv f.format c) := by
  rw [order_sv f.format (exp_pos f) x c hx hc, Bool.eq_iff_iff]
  simp only [bne_iff_ne, ne_eq, Option.some.injEq, Int.compare_eq_eq, decide_eq_true_eq]
/-- a finite number less itself is +0 -/
theorem self_zero (f : FloatKind) (x : Nat) (hx : rg f.format x < f.format.infRung) : fop .sub f x x = 0 := by
  have hs : fop .sub f x x = ((((f.format.read x).sum (f.format.read x).opposite).map f.format.write).getD (qn f)) := rfl
  obtain ⟨m, i, e1, hi, hm, _⟩ := read_fin f.format x hx
  rw [hs, e1]
  have e : (Datum.number (sg f.format x) m i).sum (Datum.number (sg f.format x) m i).opposite = some (.number false 0 i) := by
    simp only [Datum.sum, Datum.opposite, Int.min_self]
    have h0 : signed (sg f.format x) m (i - i).toNat + signed (!sg f.format x) m (i - i).toNat = 0 := by
      unfold signed
      cases sg f.format x <;> simp <;> omega
    rw [h0]
    simp
  rw [e]
  show f.format.nearest false 0 i = 0
  simp [Format.nearest, Format.word]
theorem self_inf (f : FloatKind) (x : Nat) (hx : rg f.format x = f.format.infRung) : fop .sub f x x = qn f := by
  have hs : fop .sub f x x = ((((f.format.read x).sum (f.format.read x).opposite).map f.format.write).getD (qn f)) := rfl
  rw [hs, read_inf f.format (exp_pos f) x hx]
  cases sg f.format x <;> rfl
/-- what IsFinite tells -/
theorem finB_told (x : Nat) : finB x = decide (rg Ieee.single x < 2139095040) := by
  unfold finB
  rcases Nat.lt_trichotomy (rg Ieee.single x) 2139095040 with h | h | h
  · rw [self_zero .f32 x (by show rg Ieee.single x < Ieee.single.infRung; rw [inf32]; exact h), decide_eq_true h]
    decide +kernel
  · rw [self_inf .f32 x (by show rg Ieee.single x = Ieee.single.infRung; rw [inf32]; exact h), order_nan_left (nan_qn _), decide_eq_false (by omega)]
    rfl
  · have hn : nan .f32 x = true := by
      rw [nan_eq]
      change decide (Ieee.single.infRung < rg Ieee.single x) = true
      rw [inf32]
      simpa using h
    rw [fop_nan_left hn, order_nan_left (nan_qn _), decide_eq_false (by omega)]
    rfl
/-- a float64 that is no finite number -/
theorem self_bad {y : Nat} (hy : ¬ rg D y < D.infRung) : nan .f64 (fop .sub .f64 y y) = true := by
  cases hn : nan .f64 y with
  | true => rw [fop_nan_left hn]; exact nan_qn _
  | false =>
    have h := rg_le_of hn
    change rg D y ≤ D.infRung at h
    rw [self_inf .f64 y (show rg D y = D.infRung by omega)]
    exact nan_qn _
def C52 : Nat := 4841369599423283200
theorem C52_P2 : C52 = P2 52 := by decide +kernel
theorem sv_C52 : sv D C52 = (Fl.Mg D (P2 52) : Nat) := by decide +kernel
theorem sv_N52 : sv D 14064741636278059008 = -(Fl.Mg D (P2 52) : Nat) := by decide +kernel
/-- is a number at least 2 to the power of 52, in its absolute value? -/
def bigB (y : Nat) : Bool := decide (P2 52 ≤ rg D y)
theorem big_abs {y : Nat} (hy : rg D y ≤ D.infRung) : (FloatKind.f64.format.order (rg D y) 4841369599423283200 == some Ordering.gt || FloatKind.f64.format.order (rg D y) 4841369599423283200 == some Ordering.eq) = bigB y := by
  rw [geq_sv (f := .f64) (x := rg D y) (c := 4841369599423283200) (by show rg D (rg D y) ≤ _; rw [rg_rg]; exact hy) (by decide +kernel)]
  have h2 : sv FloatKind.f64.format (rg D y) = (Fl.Mg D (rg D y) : Nat) := by
    unfold sv
    change (if sg D (rg D y) = true then -(Fl.Mg D (rg D (rg D y)) : Int) else (Fl.Mg D (rg D (rg D y)) : Int)) = _
    rw [sg_rg, rg_rg]
    simp
  rw [h2, show sv FloatKind.f64.format 4841369599423283200 = (Fl.Mg D (P2 52) : Nat) from sv_C52]
  unfold bigB
  rw [Bool.eq_iff_iff]
  simp only [decide_eq_true_eq, Int.ofNat_le]
  exact Mg_le_iff D
theorem big_two {y : Nat} (hy : rg D y ≤ D.infRung) : ((FloatKind.f64.format.order y 4841369599423283200 == some Ordering.gt || FloatKind.f64.format.order y 4841369599423283200 == some Ordering.eq) || (FloatKind.f64.format.order y 14064741636278059008 == some Ordering.lt || FloatKind.f64.format.order y 14064741636278059008 == some Ordering.eq)) = bigB y := by
  rw [geq_sv (f := .f64) (x := y) (c := 4841369599423283200) hy (by decide +kernel), leq_sv (f := .f64) (x := y) (c := 14064741636278059008) hy (by decide +kernel)]
  rw [show sv FloatKind.f64.format 4841369599423283200 = (Fl.Mg D (P2 52) : Nat) from sv_C52, show sv FloatKind.f64.format 14064741636278059008 = -(Fl.Mg D (P2 52) : Nat) from sv_N52]
  have hm := natAbs_sv D y
  have hle : Fl.Mg D (P2 52) ≤ Fl.Mg D (rg D y) ↔ P2 52 ≤ rg D y := Mg_le_iff D
  unfold bigB
  rw [Bool.eq_iff_iff]
  simp only [Bool.or_eq_true, decide_eq_true_eq]
  rw [← hle, ← hm]
  change (_ ≤ sv D y ∨ sv D y ≤ _) ↔ _
  omega
theorem F2_small {y : Nat} (h : bigB y = false) : F2 52 y := by
  unfold bigB at h
  simp at h
  exact ⟨by omega, Nat.le_of_lt h⟩
end Go.Proofs.Fl
/-
  The logarithm in float64, as both texts compute it: its numbers, and their bounds. Over no program.
-/
namespace Go.Proofs.Fl
open Go Ieee Go.RowKit

theorem rg_small {x : Nat} (h : x < D.infRung) : rg D x = x := Nat.mod_eq_of_lt (by rw [inf64] at h; rw [sw64]; omega)
theorem sg_small {x : Nat} (h : x < D.infRung) : sg D x = false := by
  unfold sg
  rw [Nat.div_eq_of_lt (by rw [inf64] at h; rw [sw64]; omega)]
  rfl
theorem write_is {x m : Nat} {e : Int} (hx : x < D.infRung) (hm : m ≠ 0) (hv : Mg D x * 2 ^ (D.leastPlace - e).toNat = m * 2 ^ (e - D.leastPlace).toNat) : D.write (.number false m e) = x := by
  show D.nearest false m e = x
  rw [nearest_eq D false m e hm, near_exact D m e hm x hv]
  unfold Format.word
  simp only [Bool.false_eq_true, if_false]
  omega
theorem Mg_step {x : Nat} (h : 4503599627370496 ≤ x) : Mg D (x + 4503599627370496) = 2 * Mg D x := by
  unfold Mg
  rw [binade64, if_neg (by omega), if_neg (by omega), Nat.add_mod_right, Nat.add_div_right _ (by omega)]
  have : 1 ≤ x / 4503599627370496 := Nat.div_pos h (by omega)
  rw [show (x / 4503599627370496).succ - 1 = (x / 4503599627370496 - 1) + 1 by omega, Nat.pow_succ, ← Nat.mul_assoc, Nat.mul_comm 2]
theorem read_C2 : D.read C2 = .number false 4503599627370496 (-51) := by decide +kernel
theorem read_pos {x : Nat} (h : 4503599627370496 ≤ x) (hx : x < D.infRung) : D.read x = .number false (4503599627370496 + x % 4503599627370496) (D.leastPlace + (x / 4503599627370496 - 1 : Nat)) := by
  unfold Format.read
  change (if rg D x < D.binade then Datum.number (sg D x) (rg D x) D.leastPlace else if rg D x < D.infRung then Datum.number (sg D x) (D.binade + rg D x % D.binade) (D.leastPlace + (rg D x / D.binade - 1 : Nat)) else if rg D x = D.infRung then .infinity (sg D x) else .nan (sg D x) (rg D x - D.infRung)) = _
  rw [rg_small hx, sg_small hx, binade64, if_neg (by omega), if_pos hx]
theorem Mg_pos {x : Nat} (h : 4503599627370496 ≤ x) : Mg D x = (4503599627370496 + x % 4503599627370496) * 2 ^ (x / 4503599627370496 - 1) := by
  unfold Mg
  rw [binade64, if_neg (by omega)]
theorem halve_eq {x : Nat} (h : 9007199254740992 ≤ x) (hx : x < D.infRung) : fop .quo .f64 x C2 = x - 4503599627370496 := by
  show ((((D.read x).quotient (D.fractionBits + 2) (D.read C2)).map D.write).getD (qn .f64)) = _
  rw [read_C2, read_pos (by omega) hx]
  have hM := Mg_pos (x := x) (by omega)
  have hs := Mg_step (x := x - 4503599627370496) (by omega)
  rw [show x - 4503599627370496 + 4503599627370496 = x by omega, hM] at hs
  have hq : 2 ≤ x / 4503599627370496 := (Nat.le_div_iff_mul_le (by omega)).2 (by omega)
  generalize hm : 4503599627370496 + x % 4503599627370496 = m at *
  generalize x / 4503599627370496 = q at *
  have hm1 : 4503599627370496 ≤ m := by omega
  have hm2 : m < 9007199254740992 := by omega
  have hl : m.log2 = 52 := by rw [Nat.log2_eq_iff (by omega)]; omega
  simp only [Datum.quotient]
  rw [if_neg (by omega), hl]
  rw [show D.fractionBits + 2 + Nat.log2 4503599627370496 - 52 = 54 by decide +kernel, Nat.shiftLeft_eq]
  rw [show m * 2 ^ 54 / 4503599627370496 = 4 * m by omega, show m * 2 ^ 54 % 4503599627370496 = 0 by omega]
  show D.write (.number (false ^^ false) (2 * (4 * m) + (0 != 0).toNat) (D.leastPlace + (q - 1 : Nat) - -51 - (54 : Nat) - 1)) = _
  rw [show (2 * (4 * m) + (0 != 0).toNat) = 8 * m by simp; omega]
  refine write_is (by omega) (by omega) ?_
  generalize Mg D (x - 4503599627370496) = G at *
  generalize D.leastPlace = L at *
  rcases (show q = 2 ∨ q = 3 ∨ q = 4 ∨ 5 ≤ q by omega) with rfl | rfl | rfl | h5
  · rw [show (L - (L + (2 - 1 : Nat) - -51 - (54 : Nat) - 1)).toNat = 3 by omega, show (L + (2 - 1 : Nat) - -51 - (54 : Nat) - 1 - L).toNat = 0 by omega]
    omega
  · rw [show (L - (L + (3 - 1 : Nat) - -51 - (54 : Nat) - 1)).toNat = 2 by omega, show (L + (3 - 1 : Nat) - -51 - (54 : Nat) - 1 - L).toNat = 0 by omega]
    omega
  · rw [show (L - (L + (4 - 1 : Nat) - -51 - (54 : Nat) - 1)).toNat = 1 by omega, show (L + (4 - 1 : Nat) - -51 - (54 : Nat) - 1 - L).toNat = 0 by omega]
    omega
  · rw [show (L - (L + (q - 1 : Nat) - -51 - (54 : Nat) - 1)).toNat = 0 by omega, show (L + (q - 1 : Nat) - -51 - (54 : Nat) - 1 - L).toNat = q - 5 by omega]
    rw [show q - 1 = (q - 5) + 4 by omega, Nat.pow_add, ← Nat.mul_assoc] at hs
    rw [Nat.mul_assoc]
    generalize m * 2 ^ (q - 5) = t at *
    omega
theorem double_le {L : Int} {m q G : Nat} (hq : 1 ≤ q) (hs : G = 2 * (m * 2 ^ (q - 1))) : G * 2 ^ (L - (L + (q - 1 : Nat) + -51)).toNat = m * 4503599627370496 * 2 ^ (L + (q - 1 : Nat) + -51 - L).toNat := by
  by_cases h5 : 52 ≤ q
  · rw [show (L - (L + (q - 1 : Nat) + -51)).toNat = 0 by omega, show (L + (q - 1 : Nat) + -51 - L).toNat = q - 52 by omega, hs]
    rw [show q - 1 = (q - 52) + 51 by omega, Nat.pow_add, ← Nat.mul_assoc m, Nat.mul_right_comm m 4503599627370496]
    generalize m * 2 ^ (q - 52) = t
    omega
  · rw [show (L - (L + (q - 1 : Nat) + -51)).toNat = 52 - q by omega, show (L + (q - 1 : Nat) + -51 - L).toNat = 0 by omega, hs]
    have e : 2 ^ (q - 1) * 2 ^ (52 - q) = 2 ^ 51 := by rw [← Nat.pow_add]; congr 1; omega
    rw [Nat.mul_assoc 2, Nat.mul_assoc m, e]
    omega
theorem product_numbers (s t : Bool) (m n : Nat) (i j : Int) : (Datum.number s m i).product (.number t n j) = some (.number (s ^^ t) (m * n) (i + j)) := rfl
theorem double_eq {x : Nat} (h : 4503599627370496 ≤ x) (hx : x + 4503599627370496 < D.infRung) : fop .mul .f64 x C2 = x + 4503599627370496 := by
  have e0 : fop .mul .f64 x C2 = (((D.read x).product (D.read C2)).map D.write).getD (qn .f64) := rfl
  rw [e0, read_C2, read_pos (by omega) (by omega), product_numbers]
  have hM := Mg_pos (x := x) (by omega)
  have hs := Mg_step (x := x) (by omega)
  rw [hM] at hs
  have hq : 1 ≤ x / 4503599627370496 := Nat.div_pos (by omega) (by omega)
  have hm1 : 4503599627370496 + x % 4503599627370496 ≠ 0 := by omega
  generalize 4503599627370496 + x % 4503599627370496 = m at *
  generalize x / 4503599627370496 = q at *
  rw [Option.map_some, Option.getD_some, Bool.xor_false]
  exact write_is hx (Nat.mul_ne_zero hm1 (by omega)) (double_le hq hs)
/-! the tests of the two loops -/
theorem sv_word {x : Nat} (h : x < D.infRung) : sv D x = (Fl.Mg D x : Nat) := by
  unfold sv
  rw [sg_small h, rg_small h]
  simp
theorem geq_word {x c : Nat} (h : x < D.infRung) (hc : c < D.infRung) : (FloatKind.f64.format.order x c == some Ordering.gt || FloatKind.f64.format.order x c == some Ordering.eq) = decide (c ≤ x) := by
  rw [geq_sv (f := .f64) (x := x) (c := c) (by show rg D x ≤ D.infRung; rw [rg_small h]; omega) (by show rg D c ≤ D.infRung; rw [rg_small hc]; omega)]
  rw [show sv FloatKind.f64.format x = _ from sv_word h, show sv FloatKind.f64.format c = _ from sv_word hc, Bool.eq_iff_iff]
  simp only [decide_eq_true_eq, Int.ofNat_le]
  exact Mg_le_iff D
theorem lss_word {x c : Nat} (h : x < D.infRung) (hc : c < D.infRung) : (FloatKind.f64.format.order x c == some Ordering.lt) = decide (x < c) := by
  rw [lss_sv (f := .f64) (x := x) (c := c) (by show rg D x ≤ D.infRung; rw [rg_small h]; omega) (by show rg D c ≤ D.infRung; rw [rg_small hc]; omega)]
  rw [show sv FloatKind.f64.format x = _ from sv_word h, show sv FloatKind.f64.format c = _ from sv_word hc, Bool.eq_iff_iff]
  simp only [decide_eq_true_eq, Int.ofNat_lt]
  exact Mg_lt_iff D
/-! the counter -/
def eF (e : Int) : Nat := floatOfInt .f64 e
def stepB (j : Nat) : Bool :=
  !nan .f64 (fop .add .f64 (eF ((j : Int) - 200)) C1) && (fop .add .f64 (eF ((j : Int) - 200)) C1 == eF ((j : Int) - 200 + 1)) &&
  !nan .f64 (fop .sub .f64 (eF ((j : Int) - 200)) C1) && (fop .sub .f64 (eF ((j : Int) - 200)) C1 == eF ((j : Int) - 200 - 1))
theorem steps_all : (List.range 401).all stepB = true := by decide +kernel
theorem steps {e : Int} (h1 : -200 ≤ e) (h2 : e ≤ 200) : nan .f64 (eF (e + 1)) = false ∧ fop .add .f64 (eF e) C1 = eF (e + 1) ∧ nan .f64 (eF (e - 1)) = false ∧ fop .sub .f64 (eF e) C1 = eF (e - 1) := by
  have := List.all_eq_true.1 steps_all (e + 200).toNat (List.mem_range.2 (by omega))
  unfold stepB at this
  rw [show ((e + 200).toNat : Int) - 200 = e by omega] at this
  simp only [Bool.and_eq_true, Bool.not_eq_true', beq_iff_eq] at this
  exact ⟨by rw [← this.1.1.2]; exact this.1.1.1, this.1.1.2, by rw [← this.2]; exact this.1.2, this.2⟩
/-! the polynomial -/
def lk (j : Nat) : Nat := floatOfInt .f64 (25 - 2 * (j : Int))
def lr (j : Nat) : Nat := fop .quo .f64 C1 (lk j)
def lktabB (j : Nat) : Bool :=
  (FloatKind.f64.format.order (lk j) C1 == some Ordering.gt || FloatKind.f64.format.order (lk j) C1 == some Ordering.eq) &&
  !nan .f64 (lr j) && (fop .sub .f64 (lk j) C2 == lk (j + 1)) && !nan .f64 (lk (j + 1)) && decide (rg D (lr j) ≤ P2 0) && (fint (lk j) == 25 - 2 * (j : Int)) && (fint (lk (j + 1)) == 25 - 2 * ((j + 1 : Nat) : Int))
theorem lktab_all : (List.range 13).all lktabB = true := by decide +kernel
structure LTab (j : Nat) : Prop where
  test : (FloatKind.f64.format.order (lk j) 4607182418800017408 == some Ordering.gt || FloatKind.f64.format.order (lk j) 4607182418800017408 == some Ordering.eq) = true
  nR : nan .f64 (lr j) = false
  eK : fop .sub .f64 (lk j) C2 = lk (j + 1)
  nK : nan .f64 (lk (j + 1)) = false
  bR : rg D (lr j) ≤ P2 0
  iK : fint (lk j) = 25 - 2 * (j : Int)
  iK' : fint (lk (j + 1)) = 25 - 2 * ((j + 1 : Nat) : Int)
theorem ltabs {j : Nat} (h : j < 13) : LTab j := by
  have := List.all_eq_true.1 lktab_all j (List.mem_range.2 h)
  simp only [lktabB, Bool.and_eq_true, decide_eq_true_eq, Bool.not_eq_true', beq_iff_eq] at this
  obtain ⟨⟨⟨⟨⟨⟨h1, h2⟩, h3⟩, h4⟩, h5⟩, h6⟩, h7⟩ := this
  exact ⟨h1, h2, h3, h4, h5, h6, h7⟩
theorem lk_end : (FloatKind.f64.format.order (lk 13) 4607182418800017408 == some Ordering.gt || FloatKind.f64.format.order (lk 13) 4607182418800017408 == some Ordering.eq) = false := by decide +kernel
theorem lk_start : lk 0 = 4627730092099895296 := by decide +kernel
theorem lk_measure {j : Nat} (h : j < 13) : (fint (bitsOfV (.float .f64 (lk (j + 1))))).toNat < (fint (bitsOfV (.float .f64 (lk j)))).toNat := by
  show (fint (lk (j + 1))).toNat < (fint (lk j)).toNat
  have := ltabs h
  rw [this.iK, this.iK']
  omega
def logP (u : Nat) : Nat → Nat
  | 0 => 0
  | j + 1 => fop .add .f64 (lr j) (fop .mul .f64 u (logP u j))
theorem logP_F2 {u : Nat} (hu : F2 2 u) : ∀ j, j ≤ 13 → F2 (3 * j) (logP u j)
  | 0, _ => ⟨by omega, by show rg D 0 ≤ P2 0; decide +kernel⟩
  | j + 1, h => by
    have ih := logP_F2 hu j (by omega)
    have h1 := hu.mul ih (2 + 3 * j) (Nat.le_refl _) (by omega)
    have h2 : F2 0 (lr j) := ⟨by omega, (ltabs (show j < 13 by omega)).bR⟩
    exact h2.add h1 (3 * (j + 1)) (by omega) (by omega) (by omega)
theorem logP_steps {u : Nat} (hu : F2 2 u) {j : Nat} (h : j < 13) : nan .f64 (fop .mul .f64 u (logP u j)) = false ∧ nan .f64 (logP u (j + 1)) = false :=
  ⟨(hu.mul (logP_F2 hu j (by omega)) (2 + 3 * j) (Nat.le_refl _) (by omega)).nn, (logP_F2 hu (j + 1) (by omega)).nn⟩
/-- the number between 3/4 and 3/2 that is a power of two away, and that power -/
def logX (x : Nat) : Nat := (4604930618986332160 + ((x : Int) - 4604930618986332160) % 4503599627370496).toNat
def logE (x : Nat) : Int := ((x : Int) - 4604930618986332160) / 4503599627370496
def logA (x : Nat) : Nat := fop .sub .f64 x C1
def logB (x : Nat) : Nat := fop .add .f64 x C1
def logS (x : Nat) : Nat := fop .quo .f64 (logA x) (logB x)
def logU (x : Nat) : Nat := fop .mul .f64 (logS x) (logS x)
def logM (s u : Nat) : Nat := fop .mul .f64 s (logP u 13)
def Cln2 : Nat := 4604418534313441775
def logR (e : Int) (s u : Nat) : Nat := fop .add .f64 (fop .mul .f64 C2 (logM s u)) (fop .mul .f64 (eF e) Cln2)
def logF (x : Nat) : Nat := logR (logE x) (logS (logX x)) (logU (logX x))
structure Mid (x : Nat) : Prop where
  lo : 4604930618986332160 ≤ x
  hi : x < 4609434218613702656
theorem logX_mid (x : Nat) : Mid (logX x) := by
  unfold logX
  constructor <;> omega
theorem mid_is {x y : Nat} {e : Int} (hm : Mid y) (h : (y : Int) = x - e * 4503599627370496) : y = logX x ∧ e = logE x := by
  obtain ⟨h1, h2⟩ := hm
  unfold logX logE
  constructor <;> omega
theorem Mid.inf {x : Nat} (h : Mid x) : x < D.infRung := by have := h.hi; rw [inf64]; omega
theorem Mid.f2 {x : Nat} (h : Mid x) : F2 1 x := ⟨by omega, by rw [rg_small h.inf]; have := h.hi; unfold P2; omega⟩
theorem Mid.sv {x : Nat} (h : Mid x) : 0 ≤ sv D x ∧ sv D x ≤ 2 * (pw 1074 : Nat) := by
  rw [sv_word h.inf]
  have h1 : Fl.Mg D x ≤ Fl.Mg D (P2 1) := Mg_mono D (by have := h.hi; unfold P2; omega)
  rw [Mg_P2, show 1074 + 1 = 1074 + 1 from rfl, ← pw_two] at h1
  omega
theorem ge_add {x y c : Nat} (hx : rg D x < D.infRung) (hy : rg D y < D.infRung) (hc : c ≤ D.infRung) (h : Fl.Mg D c ≤ (sv D x + sv D y).natAbs) : c ≤ rg D (fop .add .f64 x y) := by
  obtain ⟨s, m, e, h1, h2, h3, _⟩ := sum_fin D x y hx hy
  have hf : fop .add .f64 x y = (((D.read x).sum (D.read y)).map D.write).getD (qn .f64) := rfl
  rw [hf, h1, Option.map_some, Option.getD_some]
  refine le_write D s m e c hc ?_
  rw [h3, show (D.leastPlace - e).toNat = 0 by omega]
  simpa using h
theorem C1_fin : rg D C1 < D.infRung := by decide +kernel
theorem logA_F2 {x : Nat} (h : Mid x) : F2 0 (logA x) := by
  refine sub_F2 h.f2.lt C1_fin (by omega) ?_
  rw [sv_C1]
  have := h.sv
  rw [Nat.add_zero]
  omega
theorem logB_F2 {x : Nat} (h : Mid x) : F2 2 (logB x) := h.f2.add F2_C1 2 (by omega) (by omega) (by omega)
theorem logB_ge {x : Nat} (h : Mid x) : P2 0 ≤ rg D (logB x) := by
  refine ge_add h.f2.lt C1_fin (Nat.le_of_lt (P2_inf (by omega))) ?_
  rw [sv_C1, Mg_P2]
  have := h.sv
  rw [Nat.add_zero]
  omega
theorem logS_F2 {x : Nat} (h : Mid x) : F2 1 (logS x) := (logA_F2 h).div (logB_F2 h) (logB_ge h) 1 (by omega) (by omega)
theorem logU_F2 {x : Nat} (h : Mid x) : F2 2 (logU x) := (logS_F2 h).mul (logS_F2 h) 2 (by omega) (by omega)
theorem logM_F2 {s u : Nat} (hs : F2 1 s) (hu : F2 2 u) : F2 40 (logM s u) := hs.mul (logP_F2 hu 13 (by omega)) 40 (by omega) (by omega)
theorem F2_C2 : F2 1 C2 := ⟨by omega, by decide +kernel⟩
theorem F2_ln2 : F2 0 Cln2 := ⟨by omega, by decide +kernel⟩
theorem eF_F2 {e : Int} (h : e.natAbs ≤ 200) : F2 8 (eF e) := F2.ofInt (by omega) (by omega)
theorem logR1_F2 {s u : Nat} (hs : F2 1 s) (hu : F2 2 u) : F2 41 (fop .mul .f64 C2 (logM s u)) := F2_C2.mul (logM_F2 hs hu) 41 (by omega) (by omega)
theorem logR2_F2 {e : Int} (h : e.natAbs ≤ 200) : F2 8 (fop .mul .f64 (eF e) Cln2) := (eF_F2 h).mul F2_ln2 8 (by omega) (by omega)
theorem logR_F2 {e : Int} {s u : Nat} (h : e.natAbs ≤ 200) (hs : F2 1 s) (hu : F2 2 u) : F2 42 (logR e s u) := (logR1_F2 hs hu).add (logR2_F2 h) 42 (by omega) (by omega) (by omega)
/-- the numbers whose logarithm is taken: positive, and from a float32 -/
structure LogIn (x : Nat) : Prop where
  lo : 873 * 4503599627370496 ≤ x
  hi : x < 1152 * 4503599627370496
theorem LogIn.inf {x : Nat} (h : LogIn x) : x < D.infRung := by have := h.hi; rw [inf64]; omega
theorem LogIn.e {x : Nat} (h : LogIn x) : (logE x).natAbs ≤ 200 := by
  have := h.lo
  have := h.hi
  unfold logE
  omega
theorem logF_F2 {x : Nat} (h : LogIn x) : F2 42 (logF x) := logR_F2 h.e (logS_F2 (logX_mid x)) (logU_F2 (logX_mid x))
theorem C15_inf : 4609434218613702656 < D.infRung := by decide +kernel
theorem C075_inf : 4604930618986332160 < D.infRung := by decide +kernel
/-- what a round of halving does -/
theorem halve_step {x : Nat} (h : 4609434218613702656 ≤ x) (hx : x < D.infRung) : fop .quo .f64 x C2 = x - 4503599627370496 ∧ nan .f64 (fop .quo .f64 x C2) = false := by
  have e := halve_eq (x := x) (by omega) hx
  refine ⟨e, ?_⟩
  rw [e, nan_eq]
  show decide (D.infRung < rg D (x - 4503599627370496)) = false
  rw [rg_small (by omega)]
  simp
  omega
theorem double_step {x : Nat} (h : x < 4604930618986332160) (hx : 4503599627370496 ≤ x) : fop .mul .f64 x C2 = x + 4503599627370496 ∧ nan .f64 (fop .mul .f64 x C2) = false := by
  have hi : D.infRung = 9218868437227405312 := inf64
  have e := double_eq (x := x) hx (by omega)
  refine ⟨e, ?_⟩
  rw [e, nan_eq]
  show decide (D.infRung < rg D (x + 4503599627370496)) = false
  rw [rg_small (by omega)]
  simp
  omega
theorem gtr_word {x c : Nat} (h : x < D.infRung) (hc : c < D.infRung) : (FloatKind.f64.format.order x c == some Ordering.gt) = decide (c < x) := by
  rw [gtr_sv (f := .f64) (x := x) (c := c) (by show rg D x ≤ D.infRung; rw [rg_small h]; omega) (by show rg D c ≤ D.infRung; rw [rg_small hc]; omega)]
  rw [show sv FloatKind.f64.format x = _ from sv_word h, show sv FloatKind.f64.format c = _ from sv_word hc, Bool.eq_iff_iff]
  simp only [decide_eq_true_eq, Int.ofNat_lt]
  exact Mg_lt_iff D
theorem neq_word {x c : Nat} (h : x < D.infRung) (hc : c < D.infRung) : (FloatKind.f64.format.order x c != some Ordering.eq) = decide (x ≠ c) := by
  rw [neq_sv (f := .f64) (x := x) (c := c) (by show rg D x ≤ D.infRung; rw [rg_small h]; omega) (by show rg D c ≤ D.infRung; rw [rg_small hc]; omega)]
  rw [show sv FloatKind.f64.format x = _ from sv_word h, show sv FloatKind.f64.format c = _ from sv_word hc, Bool.eq_iff_iff]
  simp only [decide_eq_true_eq, ne_eq, Int.ofNat_inj]
  exact ⟨fun hn he => hn (by rw [he]), fun hn he => hn (Mg_inj D he)⟩
theorem eql_word {x c : Nat} (h : x < D.infRung) (hc : c < D.infRung) : (FloatKind.f64.format.order x c == some Ordering.eq) = decide (x = c) := by
  have := neq_word h hc
  unfold bne at this
  cases he : (FloatKind.f64.format.order x c == some Ordering.eq) <;> simp_all
theorem log_s1 {x : Nat} (h : LogIn x) : (FloatKind.f64.format.order x x != some Ordering.eq) = false := by rw [neq_word h.inf h.inf]; simp
theorem zero_inf : 0 < D.infRung := by decide +kernel
theorem max_inf : 9218868437227405311 < D.infRung := by decide +kernel
theorem log_s2 {x : Nat} (h : LogIn x) : (FloatKind.f64.format.order x 0 == some Ordering.lt) = false := by rw [lss_word h.inf zero_inf]; simp
theorem log_s3 {x : Nat} (h : LogIn x) : (FloatKind.f64.format.order x 0 == some Ordering.eq) = false := by
  rw [eql_word h.inf zero_inf]
  have := h.lo
  exact decide_eq_false (by omega)
theorem log_s4 {x : Nat} (h : LogIn x) : (FloatKind.f64.format.order x 9218868437227405311 == some Ordering.gt) = false := by
  rw [gtr_word h.inf max_inf]
  have := h.hi
  exact decide_eq_false (by omega)
theorem w64in {n : Int} (h : -9223372036854775808 ≤ n ∧ n ≤ 9223372036854775807) : wrap64 n = n := by unfold wrap64; omega
theorem bits_float (k : FloatKind) (x : Nat) : bitsOfV (.float k x) = x := rfl
theorem eF_zero : eF 0 = 0 := by decide +kernel
end Go.Proofs.Fl
/-
  Which float32 have a logarithm: the cases of a word, and what the tests say of it. Over no program.
-/
namespace Go.Proofs.Fl
open Go Ieee Go.RowKit

structure Neg32 (x : Nat) : Prop where
  fin : rg Ieee.single x < 2139095040
  pos : 0 < rg Ieee.single x
  sign : sg Ieee.single x = true
structure Pos32 (x : Nat) : Prop where
  fin : rg Ieee.single x < 2139095040
  pos : 0 < rg Ieee.single x
  sign : sg Ieee.single x = false
theorem cases32 {x : Nat} (hx : x < 4294967296) : nan .f32 x = true ∨ x = 0 ∨ x = 2147483648 ∨ x = 2139095040 ∨ x = 4286578688 ∨ Neg32 x ∨ Pos32 x := by
  have hw := word_parts Ieee.single x (by rw [sw32]; omega)
  rw [sw32] at hw
  cases hn : nan .f32 x
  · have hr := rg_le_of hn
    change rg Ieee.single x ≤ Ieee.single.infRung at hr
    rw [inf32] at hr
    rcases Nat.eq_zero_or_pos (rg Ieee.single x) with h0 | h0
    · rw [h0] at hw
      cases hs : sg Ieee.single x <;> rw [hs] at hw <;> simp at hw <;> omega
    · rcases Nat.lt_or_eq_of_le hr with h1 | h1
      · cases hs : sg Ieee.single x
        · exact .inr (.inr (.inr (.inr (.inr (.inr ⟨h1, h0, hs⟩)))))
        · exact .inr (.inr (.inr (.inr (.inr (.inl ⟨h1, h0, hs⟩)))))
      · rw [h1] at hw
        cases hs : sg Ieee.single x <;> rw [hs] at hw <;> simp at hw <;> omega
  · exact .inl rfl
theorem nn_fin {x : Nat} (h : rg Ieee.single x < 2139095040) : nan .f32 x = false := by
  rw [nan_eq]
  change decide (Ieee.single.infRung < rg Ieee.single x) = false
  rw [inf32]
  exact decide_eq_false (by omega)
theorem Mg32_pos {x : Nat} (h : 0 < rg Ieee.single x) : 1 ≤ Fl.Mg Ieee.single (rg Ieee.single x) := by
  have := Mg_smono Ieee.single h
  omega
theorem sv32_zero : sv Ieee.single 0 = 0 := by decide +kernel
theorem sv64_zero : sv D 0 = 0 := by decide +kernel
theorem rg0_32 : rg Ieee.single 0 ≤ Ieee.single.infRung := by decide +kernel
theorem rg0_64 : rg D 0 ≤ D.infRung := by decide +kernel
theorem lt32 (x : Nat) (h : rg Ieee.single x < 2139095040) : (FloatKind.f32.format.order x 0 == some Ordering.lt) = decide (sv Ieee.single x < 0) := by
  rw [lss_sv (f := .f32) (x := x) (c := 0) (by show rg Ieee.single x ≤ Ieee.single.infRung; rw [inf32]; omega) rg0_32]
  rw [show sv FloatKind.f32.format 0 = 0 from sv32_zero]
  rfl
theorem eq32 (x : Nat) (h : rg Ieee.single x < 2139095040) : (FloatKind.f32.format.order x 0 == some Ordering.eq) = decide (sv Ieee.single x = 0) := by
  have := neq_sv (f := .f32) (x := x) (c := 0) (by show rg Ieee.single x ≤ Ieee.single.infRung; rw [inf32]; omega) rg0_32
  rw [show sv FloatKind.f32.format 0 = 0 from sv32_zero] at this
  change _ = decide (sv Ieee.single x ≠ 0) at this
  unfold bne at this
  cases he : (FloatKind.f32.format.order x 0 == some Ordering.eq) <;> simp_all
theorem le32 (x : Nat) (h : rg Ieee.single x < 2139095040) : (FloatKind.f32.format.order x 0 == some Ordering.lt || FloatKind.f32.format.order x 0 == some Ordering.eq) = decide (sv Ieee.single x ≤ 0) := by
  rw [leq_sv (f := .f32) (x := x) (c := 0) (by show rg Ieee.single x ≤ Ieee.single.infRung; rw [inf32]; omega) rg0_32]
  rw [show sv FloatKind.f32.format 0 = 0 from sv32_zero]
  rfl
theorem Neg32.sv {x : Nat} (h : Neg32 x) : sv Ieee.single x < 0 := by
  have := Mg32_pos h.pos
  unfold Fl.sv
  rw [h.sign]
  simp only [if_true]
  omega
theorem Pos32.sv {x : Nat} (h : Pos32 x) : 0 < sv Ieee.single x := by
  have := Mg32_pos h.pos
  unfold Fl.sv
  rw [h.sign]
  simp only [Bool.false_eq_true, if_false]
  omega
theorem Neg32.wide_lt {x : Nat} (h : Neg32 x) : (FloatKind.f64.format.order (fwide x) 0 == some Ordering.lt) = true := by
  have hw := wide_fin x h.fin
  rw [lss_sv (f := .f64) (x := fwide x) (c := 0) (by show rg D (fwide x) ≤ D.infRung; rw [show D.infRung = _ from inf64]; exact Nat.le_of_lt hw.2.2.1) rg0_64]
  rw [show Fl.sv FloatKind.f64.format 0 = 0 from sv64_zero]
  apply decide_eq_true
  show Fl.sv D (fwide x) < 0
  unfold Fl.sv
  rw [hw.2.1, h.sign, if_pos rfl, hw.2.2.2]
  have := Nat.mul_pos (Mg32_pos h.pos) w925_pos
  omega
theorem Mg_874 : Fl.Mg D (873 * 4503599627370496) ≤ w925 := by decide +kernel
theorem Pos32.log {x : Nat} (h : Pos32 x) : LogIn (fwide x) := by
  have hw := wide_fin x h.fin
  have hp := word_parts D (fwide x) (by rw [sw64]; exact fwide_lt)
  rw [hw.2.1, h.sign] at hp
  simp only [Bool.false_eq_true, if_false, Nat.zero_add] at hp
  constructor
  · rw [hp]
    refine (Mg_le_iff D).1 (Nat.le_trans Mg_874 ?_)
    rw [hw.2.2.2]
    exact Nat.le_mul_of_pos_left _ (Mg32_pos h.pos)
  · have := (F2.wide h.fin).2
    rw [← hp] at this
    unfold P2 at this
    omega
theorem finB_fin {x : Nat} (h : rg Ieee.single x < 2139095040) : finB x = true := by rw [finB_told]; exact decide_eq_true h
theorem fw0 : fwide 0 = 0 := by decide +kernel
theorem fw1 : fwide 2147483648 = 9223372036854775808 := by decide +kernel
theorem fw2 : fwide 2139095040 = 9218868437227405312 := by decide +kernel
theorem fw3 : fwide 4286578688 = 18442240474082181120 := by decide +kernel
theorem fn_inf : fnar 9218868437227405312 = 2139095040 := by decide +kernel
theorem fits_qn : Fits (qn .f64) := .inl (nan_qn _)
theorem fits_pinf : Fits 9218868437227405312 := Fits_inf (by decide +kernel)
theorem fits_ninf : Fits 18442240474082181120 := Fits_inf (by decide +kernel)
theorem fin_nan {x : Nat} (h : nan .f32 x = true) : finB x = false := by
  rw [finB_told]
  rw [nan_eq] at h
  have h' : Ieee.single.infRung < rg Ieee.single x := of_decide_eq_true h
  rw [inf32] at h'
  exact decide_eq_false (by omega)
theorem nan_lt {k : FloatKind} {x c : Nat} (h : nan k x = true) : (k.format.order x c == some Ordering.lt) = false := by rw [order_nan_left h]; rfl
theorem nan_eql {k : FloatKind} {x c : Nat} (h : nan k x = true) : (k.format.order x c == some Ordering.eq) = false := by rw [order_nan_left h]; rfl
theorem nan_neq {k : FloatKind} {x c : Nat} (h : nan k x = true) : (k.format.order x c != some Ordering.eq) = true := by rw [order_nan_left h]; rfl
end Go.Proofs.Fl
/-
  Sums, products and quotients of float64 told in few steps, so that the kernel counts them fast. Over no program.
-/
namespace Go.Proofs.Fl
open Go Ieee Go.RowKit
set_option linter.unusedVariables false
/-- a number is counted out ahead of what is made of it -/
def st {α : Type} (n : Nat) (f : Nat → α) : α := Nat.rec (motive := fun _ => α) (f (nat_lit 0)) (fun m _ => f (Nat.succ m)) n
theorem st_eq {α : Type} (n : Nat) (f : Nat → α) : st n f = f n := by cases n <;> rfl
theorem ble_t {a b : Nat} (h : a ≤ b) : Nat.ble a b = true := by rw [Nat.ble_eq]; exact h
theorem ble_f {a b : Nat} (h : ¬ a ≤ b) : Nat.ble a b = false := by rw [← Bool.not_eq_true, Nat.ble_eq]; exact h
theorem cand (a b : Bool) : cond a b false = (a && b) := by cases a <;> rfl
def rndB (m L P : Nat) : Nat :=
  st (Nat.sub (Nat.add P L) (nat_lit 104)) fun q =>
  cond (Nat.ble L (nat_lit 52)) (Nat.add (Nat.mul q (nat_lit 4503599627370496)) (Nat.mul m (Nat.pow (nat_lit 2) (Nat.sub (nat_lit 52) L))))
   (st (Nat.pow (nat_lit 2) (Nat.sub L (nat_lit 52))) fun G => st (Nat.div m G) fun low => st (Nat.mul (nat_lit 2) (Nat.mod m G)) fun r =>
     Nat.add (Nat.mul q (nat_lit 4503599627370496)) (Nat.add low (cond (Nat.ble r G) (cond (Nat.beq r G) (Nat.mod low (nat_lit 2)) (nat_lit 0)) (nat_lit 1))))
theorem rndB_told (m L P : Nat) : rndB m L P = cond (Nat.ble L 52) ((P + L - 104) * 4503599627370496 + m * 2 ^ (52 - L)) ((P + L - 104) * 4503599627370496 + (m / 2 ^ (L - 52) + cond (Nat.ble (2 * (m % 2 ^ (L - 52))) (2 ^ (L - 52))) (cond (Nat.beq (2 * (m % 2 ^ (L - 52))) (2 ^ (L - 52))) (m / 2 ^ (L - 52) % 2) 0) 1)) := by
  unfold rndB
  simp only [st_eq]
  rfl
theorem cut_zero (n : Nat) : Toward.even.cut false n 0 = n := by
  unfold Toward.cut
  simp only [Nat.zero_min, Nat.shiftLeft_zero, Nat.div_one, Nat.mod_one, Nat.mul_zero]
  simp
theorem cut_more (n d : Nat) (h : d ≤ n.log2 + 2) : Toward.even.cut false n d = n / 2 ^ d + cond (Nat.ble (2 * (n % 2 ^ d)) (2 ^ d)) (cond (Nat.beq (2 * (n % 2 ^ d)) (2 ^ d)) (n / 2 ^ d % 2) 0) 1 := by
  unfold Toward.cut
  simp only [Nat.min_eq_left h, Nat.shiftLeft_eq, Nat.one_mul]
  congr 1
  generalize 2 ^ d = G
  generalize n % G = r
  have h2 := Nat.mod_lt (n / G) (show 0 < 2 by omega)
  generalize n / G % 2 = z at *
  rcases Nat.lt_trichotomy (2 * r) G with h | h | h
  · have e1 : Nat.ble (2 * r) G = true := ble_t (by omega)
    have e2 : Nat.beq (2 * r) G = false := by rw [← Bool.not_eq_true, Nat.beq_eq]; omega
    rw [e1, e2]
    have c1 : decide (G < 2 * r) = false := by simp; omega
    have c2 : (G == 2 * r) = false := by simp; omega
    rw [c1, c2]
    rfl
  · have e1 : Nat.ble (2 * r) G = true := ble_t (by omega)
    have e2 : Nat.beq (2 * r) G = true := by rw [Nat.beq_eq]; omega
    rw [e1, e2]
    have c1 : decide (G < 2 * r) = false := by simp; omega
    have c2 : (G == 2 * r) = true := by simp; omega
    rw [c1, c2]
    rcases (show z = 0 ∨ z = 1 by omega) with rfl | rfl <;> rfl
  · have e1 : Nat.ble (2 * r) G = false := ble_f (by omega)
    rw [e1]
    have c1 : decide (G < 2 * r) = true := by simp; omega
    rw [c1]
    rfl
theorem fb52 : Ieee.double.fractionBits = 52 := rfl
theorem bin64 : Ieee.double.binade = 4503599627370496 := by decide +kernel
theorem rndB_eq (m L P : Nat) (hL : m.log2 = L) (h : 104 ≤ P + L) : nearRung D m ((P : Int) - 1126) = rndB m L P := by
  rw [rndB_told]
  unfold nearRung
  rw [show D.leastPlace = -1074 from least64, show D.fractionBits = 52 from fb52, show D.binade = 4503599627370496 from bin64]
  simp only [hL]
  rw [show max ((P : Int) - 1126 + (L : Int) - ((52 : Nat) : Int)) (-1074) = (P : Int) + L - 1178 by omega]
  rw [show ((P : Int) + L - 1178 - -1074).toNat = P + L - 104 by omega, show ((P : Int) - 1126 - ((P : Int) + L - 1178)).toNat = 52 - L by omega, show ((P : Int) + L - 1178 - ((P : Int) - 1126)).toNat = L - 52 by omega]
  by_cases hl : L ≤ 52
  · rw [show Nat.ble L 52 = true from ble_t hl, show L - 52 = 0 by omega, cut_zero, Nat.shiftLeft_eq]
    rfl
  · rw [show Nat.ble L 52 = false from ble_f (by omega), show 52 - L = 0 by omega, Nat.shiftLeft_zero, cut_more _ _ (by omega)]
    rfl
/-- a word of a sign and a rung that is at most infinity's -/
def wordB (s : Bool) (R : Nat) : Nat := st R fun R => st (cond (Nat.ble R (nat_lit 9218868437227405312)) R (nat_lit 9218868437227405312)) fun R => cond s (Nat.add (nat_lit 9223372036854775808) R) R
theorem wordB_eq (s : Bool) (R : Nat) : D.word s (min R D.infRung) = wordB s R := by
  have e0 : wordB s R = cond s (9223372036854775808 + cond (Nat.ble R 9218868437227405312) R 9218868437227405312) (cond (Nat.ble R 9218868437227405312) R 9218868437227405312) := by
    unfold wordB
    simp only [st_eq]
    rfl
  rw [e0, show D.infRung = 9218868437227405312 from inf64]
  have e : cond (Nat.ble R 9218868437227405312) R 9218868437227405312 = min R 9218868437227405312 := by
    by_cases h : R ≤ 9218868437227405312
    · rw [show Nat.ble R 9218868437227405312 = true from ble_t h, Nat.min_eq_left h]; rfl
    · rw [show Nat.ble R 9218868437227405312 = false by rw [← Bool.not_eq_true, Nat.ble_eq]; exact h, Nat.min_eq_right (by omega)]; rfl
  rw [e]
  unfold Format.word
  rw [show D.signWeight = 9223372036854775808 from sw64]
  cases s <;> rfl
theorem near_word (s : Bool) (m L P : Nat) (hm : m ≠ 0) (hL : m.log2 = L) (h : 104 ≤ P + L) : D.nearest s m ((P : Int) - 1126) = wordB s (rndB m L P) := by
  rw [nearest_eq _ _ _ _ hm, rndB_eq m L P hL h, wordB_eq]
/-- the digits of a number of k or k + 1 -/
def lgB (k b : Nat) : Nat := cond (Nat.ble (Nat.pow (nat_lit 2) (Nat.succ k)) b) (Nat.succ k) k
theorem lgB_eq {k b : Nat} (h1 : 2 ^ k ≤ b) (h2 : b < 2 ^ (k + 2)) : b.log2 = lgB k b := by
  unfold lgB
  have hb : b ≠ 0 := by have := Nat.two_pow_pos k; omega
  by_cases h : 2 ^ (k + 1) ≤ b
  · rw [show Nat.ble (Nat.pow 2 (Nat.succ k)) b = true from ble_t h]
    exact (Nat.log2_eq_iff hb).2 ⟨h, h2⟩
  · rw [show Nat.ble (Nat.pow 2 (Nat.succ k)) b = false from ble_f h]
    exact (Nat.log2_eq_iff hb).2 ⟨h1, Nat.lt_of_not_le h⟩
/-- the sign of a word -/
def sgB (x : Nat) : Bool := Nat.beq (Nat.mod (Nat.div x (nat_lit 9223372036854775808)) (nat_lit 2)) (nat_lit 1)
theorem sgB_eq (x : Nat) : sg D x = sgB x := by
  show _ = Nat.beq (x / 9223372036854775808 % 2) 1
  unfold sg
  rw [show D.signWeight = 9223372036854775808 from sw64, Bool.eq_iff_iff, beq_iff_eq, Nat.beq_eq]
theorem rgB_eq (x : Nat) : rg D x = x % 9223372036854775808 := by
  unfold rg
  rw [show D.signWeight = 9223372036854775808 from sw64]
/-- a rung's exponent is one of a number in full -/
def okB (e : Nat) : Bool := cond (Nat.ble (nat_lit 64) e) (Nat.ble e (nat_lit 2046)) false
theorem ok_of {e : Nat} (h : okB e = true) : 64 ≤ e ∧ e ≤ 2046 := by
  unfold okB at h
  rw [cand] at h
  have h' : (Nat.ble 64 e && Nat.ble e 2046) = true := h
  rw [Bool.and_eq_true, Nat.ble_eq, Nat.ble_eq] at h'
  exact h'
def mt (a : Nat) : Nat := Nat.add (nat_lit 4503599627370496) (Nat.mod a (nat_lit 4503599627370496))
theorem mt_told (a : Nat) : mt a = 4503599627370496 + a % 4503599627370496 := rfl
theorem mt_log (a : Nat) : (mt a).log2 = 52 := by
  have := Nat.mod_lt a (show 0 < 4503599627370496 by omega)
  rw [mt_told, Nat.log2_eq_iff (by omega)]
  omega
theorem mt_lo (a : Nat) : 4503599627370496 ≤ mt a := by rw [mt_told]; omega
theorem read_norm (x : Nat) (h1 : 1 ≤ x % 9223372036854775808 / 4503599627370496) (h2 : x % 9223372036854775808 / 4503599627370496 ≤ 2046) :
    D.read x = .number (sgB x) (mt (x % 9223372036854775808)) (((x % 9223372036854775808 / 4503599627370496 : Nat) : Int) - 1075) := by
  unfold Format.read
  rw [show D.binade = 4503599627370496 from bin64, show D.infRung = 9218868437227405312 from inf64, show D.leastPlace = -1074 from least64]
  change (if rg D x < _ then Datum.number (sg D x) (rg D x) _ else if rg D x < _ then Datum.number (sg D x) (4503599627370496 + rg D x % 4503599627370496) (-1074 + (rg D x / 4503599627370496 - 1 : Nat)) else if rg D x = _ then .infinity (sg D x) else .nan (sg D x) (rg D x - _)) = _
  rw [rgB_eq, sgB_eq]
  generalize x % 9223372036854775808 = r at *
  rw [if_neg (by omega), if_pos (by omega)]
  rw [mt_told]
  congr 1
  omega
theorem read_zero : D.read 0 = .number false 0 (-1074) := by decide +kernel
theorem mt_hi (a : Nat) : mt a < 9007199254740992 := by
  rw [mt_told]
  have := Nat.mod_lt a (show 0 < 4503599627370496 by omega)
  omega
def mulB (x y : Nat) : Nat :=
  st (Nat.mod x (nat_lit 9223372036854775808)) fun a => st (Nat.mod y (nat_lit 9223372036854775808)) fun b =>
  st (Nat.div a (nat_lit 4503599627370496)) fun ea => st (Nat.div b (nat_lit 4503599627370496)) fun eb =>
  cond (cond (okB ea) (cond (okB eb) (Nat.ble (nat_lit 1024) (Nat.add ea eb)) false) false)
    (st (Nat.mul (mt a) (mt b)) fun k => wordB (xor (sgB x) (sgB y)) (rndB k (lgB (nat_lit 104) k) (Nat.sub (Nat.add ea eb) (nat_lit 1024))))
    (cond (cond (okB ea) (Nat.beq y (nat_lit 0)) false) (cond (sgB x) (nat_lit 9223372036854775808) (nat_lit 0)) (fop .mul .f64 x y))
theorem mulB_told (x y : Nat) : mulB x y = 
  cond (okB (x % 9223372036854775808 / 4503599627370496) && (okB (y % 9223372036854775808 / 4503599627370496) && Nat.ble 1024 (x % 9223372036854775808 / 4503599627370496 + y % 9223372036854775808 / 4503599627370496)))
    (wordB (xor (sgB x) (sgB y)) (rndB (mt (x % 9223372036854775808) * mt (y % 9223372036854775808)) (lgB 104 (mt (x % 9223372036854775808) * mt (y % 9223372036854775808))) (x % 9223372036854775808 / 4503599627370496 + y % 9223372036854775808 / 4503599627370496 - 1024)))
    (cond (okB (x % 9223372036854775808 / 4503599627370496) && Nat.beq y 0) (cond (sgB x) 9223372036854775808 0) (fop .mul .f64 x y)) := by
  unfold mulB
  simp only [st_eq, cand]
  rfl
theorem fop_mul (x y : Nat) (s t : Bool) (m n : Nat) (i j : Int) (h1 : D.read x = .number s m i) (h2 : D.read y = .number t n j) : fop .mul .f64 x y = D.nearest (s ^^ t) (m * n) (i + j) := by
  unfold fop floatBits
  show (D.mul x y).getD _ = _
  unfold Format.mul
  rw [h1, h2]
  rfl
theorem mulB_eq (x y : Nat) : fop .mul .f64 x y = mulB x y := by
  rw [mulB_told]
  cases hc : (okB (x % 9223372036854775808 / 4503599627370496) && (okB (y % 9223372036854775808 / 4503599627370496) && Nat.ble 1024 (x % 9223372036854775808 / 4503599627370496 + y % 9223372036854775808 / 4503599627370496))) with
  | true =>
    rw [Bool.and_eq_true, Bool.and_eq_true, Nat.ble_eq] at hc
    obtain ⟨ha, hb, hab⟩ := hc
    obtain ⟨ha1, ha2⟩ := ok_of ha
    obtain ⟨hb1, hb2⟩ := ok_of hb
    rw [fop_mul x y _ _ _ _ _ _ (read_norm x (by omega) ha2) (read_norm y (by omega) hb2)]
    have hlo1 := mt_lo (x % 9223372036854775808)
    have hlo2 := mt_lo (y % 9223372036854775808)
    have hi1 := mt_hi (x % 9223372036854775808)
    have hi2 := mt_hi (y % 9223372036854775808)
    generalize mt (x % 9223372036854775808) = m at *
    generalize mt (y % 9223372036854775808) = n at *
    generalize x % 9223372036854775808 / 4503599627370496 = ea at *
    generalize y % 9223372036854775808 / 4503599627370496 = eb at *
    have hmn : 4503599627370496 * 4503599627370496 ≤ m * n := Nat.mul_le_mul hlo1 hlo2
    have hmx : m * n < 2 ^ 106 := Nat.lt_of_le_of_lt (Nat.mul_le_mul (Nat.le_of_lt hi1) (Nat.le_of_lt_succ (Nat.lt_succ_of_lt (show n < 9007199254740991 + 1 from hi2)) |> fun _ => Nat.le_of_lt_succ (show n < 9007199254740991 + 1 from hi2))) (by decide)
    have hl := lgB_eq (k := 104) (b := m * n) hmn hmx
    have hl2 : 104 ≤ (m * n).log2 := by
      rw [Nat.le_log2 (by omega)]
      exact hmn
    rw [hl] at hl2
    rw [show (ea : Int) - 1075 + ((eb : Int) - 1075) = ((ea + eb - 1024 : Nat) : Int) - 1126 by omega, near_word _ _ _ _ (by omega) hl (by omega), cond_true]
  | false =>
    cases hz : (okB (x % 9223372036854775808 / 4503599627370496) && Nat.beq y 0) with
    | true =>
      rw [Bool.and_eq_true, Nat.beq_eq] at hz
      obtain ⟨ha, rfl⟩ := hz
      obtain ⟨ha1, ha2⟩ := ok_of ha
      rw [fop_mul x 0 _ _ _ _ _ _ (read_norm x (by omega) ha2) read_zero]
      unfold Format.nearest
      rw [if_pos (by omega)]
      simp only [cond]
      unfold Format.word
      rw [show D.signWeight = 9223372036854775808 from sw64]
      cases sgB x <;> rfl
    | false => rfl
/-- two numbers of one exponent, added -/
def sumC (s : Bool) (m : Nat) (t : Bool) (n e d : Nat) : Nat :=
  st m fun m => st n fun n =>
  cond (cond s t (not t)) (st (Nat.add m n) fun k => wordB s (rndB k (lgB (Nat.add (nat_lit 52) d) k) (Nat.add e (nat_lit 51))))
    (cond (Nat.ble m n) (cond (Nat.ble n m) (nat_lit 0) (st (Nat.sub n m) fun k => wordB t (rndB k (Nat.log2 k) (Nat.add e (nat_lit 51))))) (st (Nat.sub m n) fun k => wordB s (rndB k (Nat.log2 k) (Nat.add e (nat_lit 51)))))
theorem sumC_told (s : Bool) (m : Nat) (t : Bool) (n e d : Nat) : sumC s m t n e d = 
  cond (cond s t (!t)) (wordB s (rndB (m + n) (lgB (52 + d) (m + n)) (e + 51)))
    (cond (Nat.ble m n) (cond (Nat.ble n m) 0 (wordB t (rndB (n - m) (Nat.log2 (n - m)) (e + 51)))) (wordB s (rndB (m - n) (Nat.log2 (m - n)) (e + 51)))) := by
  unfold sumC
  simp only [st_eq]
  rfl
theorem sumC_eq (s : Bool) (m : Nat) (t : Bool) (n e d : Nat) (hm : 0 < m) (hn : 0 < n) (he : 53 ≤ e) (hd1 : 2 ^ (52 + d) ≤ m + n) (hd2 : m + n < 2 ^ (52 + d + 2)) (total : Int) (ht : total = (if s = true then -(m : Int) else m) + (if t = true then -(n : Int) else n)) :
    D.nearest (if total = 0 then s && t else total < 0) total.natAbs ((e : Int) - 1075) = sumC s m t n e d := by
  subst ht
  rw [sumC_told]
  rw [show (e : Int) - 1075 = ((e + 51 : Nat) : Int) - 1126 by omega]
  have key : ∀ (b : Bool) (k : Nat), 0 < k → D.nearest b k (((e + 51 : Nat) : Int) - 1126) = wordB b (rndB k (Nat.log2 k) (e + 51)) := fun b k hk => near_word b k _ (e + 51) (by omega) rfl (by omega)
  have hlg := lgB_eq hd1 hd2
  cases s <;> cases t <;> simp only [Bool.false_eq_true, ↓reduceIte]
  · rw [if_neg (by omega), show ((m : Int) + (n : Int)).natAbs = m + n by omega, key _ _ (by omega), hlg]
    have : decide ((m : Int) + (n : Int) < 0) = false := by simp; omega
    rw [this]
    rfl
  · rcases Nat.lt_trichotomy m n with h | h | h
    · rw [if_neg (by omega), show ((m : Int) + -(n : Int)).natAbs = n - m by omega, key _ _ (by omega)]
      have : decide ((m : Int) + -(n : Int) < 0) = true := by simp; omega
      rw [this, show Nat.ble m n = true from ble_t (by omega), show Nat.ble n m = false from ble_f (by omega)]
      rfl
    · subst h
      rw [if_pos (by omega), show ((m : Int) + -(m : Int)).natAbs = 0 by omega, show Nat.ble m m = true from ble_t (Nat.le_refl _)]
      unfold Format.nearest
      rw [if_pos rfl]
      rfl
    · rw [if_neg (by omega), show ((m : Int) + -(n : Int)).natAbs = m - n by omega, key _ _ (by omega)]
      have : decide ((m : Int) + -(n : Int) < 0) = false := by simp; omega
      rw [this, show Nat.ble m n = false from ble_f (by omega)]
      rfl
  · rcases Nat.lt_trichotomy m n with h | h | h
    · rw [if_neg (by omega), show (-(m : Int) + (n : Int)).natAbs = n - m by omega, key _ _ (by omega)]
      have : decide (-(m : Int) + (n : Int) < 0) = false := by simp; omega
      rw [this, show Nat.ble m n = true from ble_t (by omega), show Nat.ble n m = false from ble_f (by omega)]
      rfl
    · subst h
      rw [if_pos (by omega), show (-(m : Int) + (m : Int)).natAbs = 0 by omega, show Nat.ble m m = true from ble_t (Nat.le_refl _)]
      unfold Format.nearest
      rw [if_pos rfl]
      rfl
    · rw [if_neg (by omega), show (-(m : Int) + (n : Int)).natAbs = m - n by omega, key _ _ (by omega)]
      have : decide (-(m : Int) + (n : Int) < 0) = true := by simp; omega
      rw [this, show Nat.ble m n = false from ble_f (by omega)]
      rfl
  · rw [if_neg (by omega), show (-(m : Int) + -(n : Int)).natAbs = m + n by omega, key _ _ (by omega), hlg]
    have : decide (-(m : Int) + -(n : Int) < 0) = true := by simp; omega
    rw [this]
    rfl
def sumB (x y : Nat) (t : Bool) (z : Nat) : Nat :=
  st (Nat.mod x (nat_lit 9223372036854775808)) fun a => st (Nat.mod y (nat_lit 9223372036854775808)) fun b =>
  st (Nat.div a (nat_lit 4503599627370496)) fun ea => st (Nat.div b (nat_lit 4503599627370496)) fun eb =>
  cond (cond (okB ea) (okB eb) false)
    (cond (Nat.ble eb ea) (st (Nat.sub ea eb) fun d => sumC (sgB x) (Nat.mul (mt a) (Nat.pow (nat_lit 2) d)) t (mt b) eb d) (st (Nat.sub eb ea) fun d => sumC (sgB x) (mt a) t (Nat.mul (mt b) (Nat.pow (nat_lit 2) d)) ea d)) z
theorem sumB_told (x y : Nat) (t : Bool) (z : Nat) : sumB x y t z =
  cond (okB (x % 9223372036854775808 / 4503599627370496) && okB (y % 9223372036854775808 / 4503599627370496))
    (cond (Nat.ble (y % 9223372036854775808 / 4503599627370496) (x % 9223372036854775808 / 4503599627370496)) 
      (sumC (sgB x) (mt (x % 9223372036854775808) * 2 ^ (x % 9223372036854775808 / 4503599627370496 - y % 9223372036854775808 / 4503599627370496)) t (mt (y % 9223372036854775808)) (y % 9223372036854775808 / 4503599627370496) (x % 9223372036854775808 / 4503599627370496 - y % 9223372036854775808 / 4503599627370496))
      (sumC (sgB x) (mt (x % 9223372036854775808)) t (mt (y % 9223372036854775808) * 2 ^ (y % 9223372036854775808 / 4503599627370496 - x % 9223372036854775808 / 4503599627370496)) (x % 9223372036854775808 / 4503599627370496) (y % 9223372036854775808 / 4503599627370496 - x % 9223372036854775808 / 4503599627370496))) z := by
  unfold sumB
  simp only [st_eq, cand]
  rfl
/-- two numbers, the one moved on by d digits -/
theorem both_in {m n d : Nat} (h1 : 4503599627370496 ≤ m) (h2 : m < 9007199254740992) (h3 : n < 9007199254740992) : 2 ^ (52 + d) ≤ m * 2 ^ d + n ∧ m * 2 ^ d + n < 2 ^ (52 + d + 2) := by
  have hd : 0 < 2 ^ d := Nat.two_pow_pos d
  rw [Nat.pow_add 2 (52 + d) 2, Nat.pow_add 2 52 d, show (2 : Nat) ^ 52 = 4503599627370496 from rfl, show (2 : Nat) ^ 2 = 4 from rfl]
  generalize 2 ^ d = G at *
  have a1 : 4503599627370496 * G ≤ m * G := Nat.mul_le_mul_right _ h1
  have a2 : m * G ≤ 9007199254740991 * G := Nat.mul_le_mul_right _ (by omega)
  constructor
  · omega
  · omega
theorem signed_eq (s : Bool) (m u : Nat) : signed s m u = (if s = true then -((m * 2 ^ u : Nat) : Int) else ((m * 2 ^ u : Nat) : Int)) := by
  unfold signed
  rw [Nat.shiftLeft_eq]
theorem sumB_eq (x y : Nat) (t : Bool) (z : Nat) (hz : ∀ s m i n j, D.read x = .number s m i → D.read y = .number (sgB y) n j → z = D.write ((Datum.sum (.number s m i) (.number t n j)).getD (.infinity false))) : z = sumB x y t z := by
  rw [sumB_told]
  cases hc : (okB (x % 9223372036854775808 / 4503599627370496) && okB (y % 9223372036854775808 / 4503599627370496)) with
  | false => rfl
  | true =>
    rw [Bool.and_eq_true] at hc
    obtain ⟨ha, hb⟩ := hc
    obtain ⟨ha1, ha2⟩ := ok_of ha
    obtain ⟨hb1, hb2⟩ := ok_of hb
    have h := hz _ _ _ _ _ (read_norm x (by omega) ha2) (read_norm y (by omega) hb2)
    have hlo1 := mt_lo (x % 9223372036854775808)
    have hlo2 := mt_lo (y % 9223372036854775808)
    have hi1 := mt_hi (x % 9223372036854775808)
    have hi2 := mt_hi (y % 9223372036854775808)
    rw [h]
    clear h hz
    generalize mt (x % 9223372036854775808) = m at *
    generalize mt (y % 9223372036854775808) = n at *
    generalize x % 9223372036854775808 / 4503599627370496 = ea at *
    generalize y % 9223372036854775808 / 4503599627370496 = eb at *
    show D.nearest _ _ _ = _
    by_cases hle : eb ≤ ea
    · rw [show Nat.ble eb ea = true from ble_t hle, show min ((ea : Int) - 1075) ((eb : Int) - 1075) = (eb : Int) - 1075 by omega]
      rw [show ((ea : Int) - 1075 - ((eb : Int) - 1075)).toNat = ea - eb by omega, show ((eb : Int) - 1075 - ((eb : Int) - 1075)).toNat = 0 by omega]
      refine sumC_eq _ _ _ _ _ _ (Nat.mul_pos (by omega) (Nat.two_pow_pos _)) (by omega) (by omega) (both_in hlo1 hi1 hi2).1 (both_in hlo1 hi1 hi2).2 _ ?_
      rw [signed_eq, signed_eq, Nat.pow_zero, Nat.mul_one]
    · rw [show Nat.ble eb ea = false from ble_f hle, show min ((ea : Int) - 1075) ((eb : Int) - 1075) = (ea : Int) - 1075 by omega]
      rw [show ((ea : Int) - 1075 - ((ea : Int) - 1075)).toNat = 0 by omega, show ((eb : Int) - 1075 - ((ea : Int) - 1075)).toNat = eb - ea by omega]
      refine sumC_eq _ _ _ _ _ _ (by omega) (Nat.mul_pos (by omega) (Nat.two_pow_pos _)) (by omega) (by rw [Nat.add_comm m]; exact (both_in hlo2 hi2 hi1).1) (by rw [Nat.add_comm m]; exact (both_in hlo2 hi2 hi1).2) _ ?_
      rw [signed_eq, signed_eq, Nat.pow_zero, Nat.mul_one]
def addB (x y : Nat) : Nat := sumB x y (sgB y) (fop .add .f64 x y)
def subB64 (x y : Nat) : Nat := sumB x y (!sgB y) (fop .sub .f64 x y)
theorem addB_eq (x y : Nat) : fop .add .f64 x y = addB x y := by
  refine sumB_eq x y _ _ (fun s m i n j h1 h2 => ?_)
  unfold fop floatBits
  show (D.add x y).getD _ = _
  unfold Format.add
  rw [h1, h2]
  rfl
theorem subB_eq (x y : Nat) : fop .sub .f64 x y = subB64 x y := by
  refine sumB_eq x y _ _ (fun s m i n j h1 h2 => ?_)
  unfold fop floatBits
  show (D.sub x y).getD _ = _
  unfold Format.sub
  rw [h1, h2]
  rfl
theorem quot_num (d : Nat) (s t : Bool) (m n : Nat) (i j : Int) (hn : n ≠ 0) (M : Nat) (hM : d + n.log2 - m.log2 = M) (G : Nat) (hG : m <<< M = G) :
    Datum.quotient d (.number s m i) (.number t n j) = some (.number (s ^^ t) (2 * (G / n) + (G % n != 0).toNat) (i - j - (M : Nat) - 1)) := by
  subst hG hM
  show (if n = 0 then _ else _) = _
  rw [if_neg hn]
theorem div_num (f : Format) (x y : Nat) (s t : Bool) (m n : Nat) (i j : Int) (h1 : f.read x = .number s m i) (h2 : f.read y = .number t n j) (hn : n ≠ 0) (M : Nat) (hM : f.fractionBits + 2 + n.log2 - m.log2 = M) (G : Nat) (hG : m <<< M = G) :
    f.div x y = some (f.nearest (s ^^ t) (2 * (G / n) + (G % n != 0).toNat) (i - j - (M : Nat) - 1)) := by
  unfold Format.div
  rw [h1, h2, quot_num _ _ _ _ _ _ _ hn M hM G hG]
  rfl
theorem shl54 (m : Nat) : m <<< 54 = m * 18014398509481984 := Nat.shiftLeft_eq m 54
theorem more54 {a b : Nat} (ha : a = 52) (hb : b = 52) : D.fractionBits + 2 + a - b = 54 := by subst ha hb; rfl
theorem fop_quo (x y : Nat) (s t : Bool) (m n : Nat) (i j : Int) (h1 : D.read x = .number s m i) (h2 : D.read y = .number t n j) (hn : n ≠ 0) (hm : m.log2 = 52) (hn2 : n.log2 = 52) :
    fop .quo .f64 x y = D.nearest (s ^^ t) (2 * (m * 18014398509481984 / n) + (m * 18014398509481984 % n != 0).toNat) (i - j - (54 : Nat) - 1) := by
  have e := div_num D x y s t m n i j h1 h2 hn 54 (more54 hn2 hm) _ (shl54 m)
  have e2 : fop .quo .f64 x y = (D.div x y).getD (qn .f64) := rfl
  rw [e2, e, Option.getD_some]
def quoB (x y : Nat) : Nat :=
  st (Nat.mod x (nat_lit 9223372036854775808)) fun a => st (Nat.mod y (nat_lit 9223372036854775808)) fun b =>
  st (Nat.div a (nat_lit 4503599627370496)) fun ea => st (Nat.div b (nat_lit 4503599627370496)) fun eb =>
  cond (cond (okB ea) (cond (okB eb) (Nat.ble eb (Nat.add ea (nat_lit 1000))) false) false)
    (st (mt b) fun n => st (Nat.mul (mt a) (nat_lit 18014398509481984)) fun d => st (Nat.add (Nat.mul (nat_lit 2) (Nat.div d n)) (cond (Nat.beq (Nat.mod d n) (nat_lit 0)) (nat_lit 0) (nat_lit 1))) fun k =>
      wordB (xor (sgB x) (sgB y)) (rndB k (lgB (nat_lit 54) k) (Nat.sub (Nat.add ea (nat_lit 1071)) eb)))
    (fop .quo .f64 x y)
theorem quoB_told (x y : Nat) : quoB x y =
  cond (okB (x % 9223372036854775808 / 4503599627370496) && (okB (y % 9223372036854775808 / 4503599627370496) && Nat.ble (y % 9223372036854775808 / 4503599627370496) (x % 9223372036854775808 / 4503599627370496 + 1000)))
    (wordB (xor (sgB x) (sgB y)) (rndB (2 * (mt (x % 9223372036854775808) * 18014398509481984 / mt (y % 9223372036854775808)) + cond (Nat.beq (mt (x % 9223372036854775808) * 18014398509481984 % mt (y % 9223372036854775808)) 0) 0 1)
      (lgB 54 (2 * (mt (x % 9223372036854775808) * 18014398509481984 / mt (y % 9223372036854775808)) + cond (Nat.beq (mt (x % 9223372036854775808) * 18014398509481984 % mt (y % 9223372036854775808)) 0) 0 1)) (x % 9223372036854775808 / 4503599627370496 + 1071 - y % 9223372036854775808 / 4503599627370496)))
    (fop .quo .f64 x y) := by
  unfold quoB
  simp only [st_eq, cand]
  rfl
theorem quoB_eq (x y : Nat) : fop .quo .f64 x y = quoB x y := by
  rw [quoB_told]
  cases hc : (okB (x % 9223372036854775808 / 4503599627370496) && (okB (y % 9223372036854775808 / 4503599627370496) && Nat.ble (y % 9223372036854775808 / 4503599627370496) (x % 9223372036854775808 / 4503599627370496 + 1000))) with
  | false => rfl
  | true =>
    rw [Bool.and_eq_true, Bool.and_eq_true, Nat.ble_eq] at hc
    obtain ⟨ha, hb, hab⟩ := hc
    obtain ⟨ha1, ha2⟩ := ok_of ha
    obtain ⟨hb1, hb2⟩ := ok_of hb
    have hlo1 := mt_lo (x % 9223372036854775808)
    have hlo2 := mt_lo (y % 9223372036854775808)
    have hl1 := mt_log (x % 9223372036854775808)
    have hl2 := mt_log (y % 9223372036854775808)
    have hhi1 := mt_hi (x % 9223372036854775808)
    have hhi2 : mt (y % 9223372036854775808) < 9007199254740992 := by
      rw [mt_told]
      have := Nat.mod_lt (y % 9223372036854775808) (show 0 < 4503599627370496 by omega)
      omega
    rw [fop_quo x y _ _ _ _ _ _ (read_norm x (by omega) ha2) (read_norm y (by omega) hb2) (by omega) hl1 hl2]
    generalize fop .quo .f64 x y = z
    generalize mt (x % 9223372036854775808) = m at *
    generalize mt (y % 9223372036854775808) = n at *
    generalize x % 9223372036854775808 / 4503599627370496 = ea at *
    generalize y % 9223372036854775808 / 4503599627370496 = eb at *
    have hq : 9007199254740992 ≤ m * 18014398509481984 / n := by
      rw [Nat.le_div_iff_mul_le (by omega)]
      calc 9007199254740992 * n ≤ 9007199254740992 * 9007199254740992 := Nat.mul_le_mul_left _ (by omega)
        _ = 4503599627370496 * 18014398509481984 := by decide
        _ ≤ m * 18014398509481984 := Nat.mul_le_mul_right _ hlo1
    have eb2 : (m * 18014398509481984 % n != 0).toNat = cond (Nat.beq (m * 18014398509481984 % n) 0) 0 1 := by
      cases h : Nat.beq (m * 18014398509481984 % n) 0 with
      | true => rw [Nat.beq_eq] at h; rw [h]; rfl
      | false => rw [← Bool.not_eq_true, Nat.beq_eq] at h; rw [bne_iff_ne.2 h]; rfl
    rw [eb2]
    have hc1 : cond (Nat.beq (m * 18014398509481984 % n) 0) 0 1 ≤ 1 := by cases Nat.beq (m * 18014398509481984 % n) 0 <;> decide
    have hq2 : m * 18014398509481984 / n < 36028797018963968 := by
      rw [Nat.div_lt_iff_lt_mul (by omega)]
      calc m * 18014398509481984 < 9007199254740992 * 18014398509481984 := Nat.mul_lt_mul_of_pos_right hhi1 (by decide)
        _ = 36028797018963968 * 4503599627370496 := by decide
        _ ≤ 36028797018963968 * n := Nat.mul_le_mul_left _ hlo2
    generalize cond (Nat.beq (m * 18014398509481984 % n) 0) 0 1 = c at *
    generalize m * 18014398509481984 / n = q at *
    have hl := lgB_eq (k := 54) (b := 2 * q + c) (Nat.le_trans (show 2 ^ 54 ≤ 18014398509481984 by decide) (by omega)) (Nat.lt_of_lt_of_le (show 2 * q + c < 72057594037927936 by omega) (by decide))
    have hl2 : 54 ≤ (2 * q + c).log2 := by
      rw [Nat.le_log2 (by omega)]
      exact Nat.le_trans (show 2 ^ 54 ≤ 18014398509481984 by decide) (by omega)
    rw [hl] at hl2
    rw [show (ea : Int) - 1075 - ((eb : Int) - 1075) - ((54 : Nat) : Int) - 1 = ((ea + 1071 - eb : Nat) : Int) - 1126 by omega, near_word _ _ _ _ (by omega) hl (by omega), cond_true]
end Go.Proofs.Fl
/-
  Whole numbers as floats: sums, differences, products and quotients that are whole numbers are exact; narrowed, widened and compared they stay themselves. Over no program.
-/
namespace Go.Proofs.Fl
open Go Ieee Go.RowKit
set_option linter.unusedVariables false
theorem pwd' (k : Nat) : 2 ^ k = pw k := rfl
theorem pw_join' (a b : Nat) : pw a * pw b = pw (a + b) := (pw_add a b).symm
theorem write_rung (f : Format) (s : Bool) (m : Nat) (e : Int) (g : Nat) (hg : g ≤ f.infRung) (h : m * 2 ^ (e - f.leastPlace).toNat = Fl.Mg f g * 2 ^ (f.leastPlace - e).toNat) :
    rg f (f.write (.number s m e)) = g ∧ sg f (f.write (.number s m e)) = s := by
  have hsw := f.infRung_lt
  show rg f (f.nearest s m e) = g ∧ sg f (f.nearest s m e) = s
  by_cases h0 : m = 0
  · subst h0
    have hz : Fl.Mg f g = 0 := by
      rw [Nat.zero_mul] at h
      rcases Nat.mul_eq_zero.1 h.symm with h | h
      · exact h
      · have := Nat.two_pow_pos (f.leastPlace - e).toNat; omega
    have hg0 : g = 0 := Mg_inj f (by rw [hz, Mg_zero])
    subst hg0
    simp only [Format.nearest, if_true]
    exact ⟨rg_word _ _ (signWeight_pos f), sg_word _ _ (signWeight_pos f)⟩
  · rw [nearest_eq f s m e h0, near_exact f m e h0 g h.symm, Nat.min_eq_left hg]
    exact ⟨rg_word _ _ (by omega), sg_word _ _ (by omega)⟩
/-- x is the whole number z -/
def IZ (x : Nat) (z : Int) : Prop := rg D x < D.infRung ∧ sv D x = z * (pw 1074 : Nat)
def IS (x : Nat) (z : Int) : Prop := rg Ieee.single x < Ieee.single.infRung ∧ sv Ieee.single x = z * (pw 149 : Nat)
theorem Mg_inf64' : Fl.Mg D D.infRung = pw 1024 * pw 1074 := by
  have h : Fl.Mg D D.infRung = _ := Mg_inf64
  simp only [pw_is] at h
  rw [h, pw_join']
theorem rung64 {n : Nat} (h : n < 9007199254740992) : ∃ g, g < D.infRung ∧ Fl.Mg D g = n * pw 1074 := by
  obtain ⟨g, hg⟩ := Mg_surj D n 1074 (by rw [show D.binade = 4503599627370496 from binade64]; omega)
  simp only [pw_is] at hg
  refine ⟨g, ?_, hg⟩
  refine (Mg_lt_iff D).1 ?_
  rw [hg, Mg_inf64']
  refine Nat.mul_lt_mul_of_pos_right (Nat.lt_trans h ?_) (pw_pos 1074)
  exact of_decide_eq_true (by decide +kernel)
theorem bin32' : Ieee.single.binade = 8388608 := by decide +kernel
theorem rung32 {n : Nat} (h : n < 16777216) : ∃ g, g < Ieee.single.infRung ∧ Fl.Mg Ieee.single g = n * pw 149 := by
  obtain ⟨g, hg⟩ := Mg_surj Ieee.single n 149 (by rw [bin32']; omega)
  simp only [pw_is] at hg
  refine ⟨g, ?_, hg⟩
  refine (Mg_lt_iff Ieee.single).1 ?_
  rw [hg, Mg_inf32, show (277 : Nat) = 128 + 149 from rfl, ← pw_join']
  refine Nat.mul_lt_mul_of_pos_right (Nat.lt_trans h ?_) (pw_pos 149)
  exact of_decide_eq_true (by decide +kernel)
theorem sv_of {f : Format} {x g : Nat} {s : Bool} {z : Int} {n u : Nat} (hr : rg f x = g) (hs : sg f x = s) (hg : Fl.Mg f g = n * u) (hz : z.natAbs = n) (h1 : z < 0 → s = true) (h2 : 0 < z → s = false) : sv f x = z * (u : Nat) := by
  unfold sv
  rw [hr, hs, hg]
  cases s with
  | true =>
    have : z ≤ 0 := Int.not_lt.1 fun h => by have := h2 h; cases this
    rw [if_pos rfl, Int.natCast_mul, ← hz, show ((z.natAbs : Nat) : Int) = -z by omega, Int.neg_mul, Int.neg_neg]
  | false =>
    have : 0 ≤ z := Int.not_lt.1 fun h => by have := h1 h; cases this
    rw [if_neg (by decide), Int.natCast_mul, ← hz, show ((z.natAbs : Nat) : Int) = z by omega]
theorem pwI_pos (n : Nat) : (0 : Int) < (pw n : Nat) := by have := pw_pos n; omega
theorem mul_pos_iff {z : Int} {u : Nat} (hu : (0 : Int) < (u : Nat)) : (z * (u : Nat) < 0 ↔ z < 0) ∧ (0 < z * (u : Nat) ↔ 0 < z) := by
  constructor
  · constructor
    · intro h
      refine Int.not_le.1 fun h2 => ?_
      have := Int.mul_nonneg h2 (Int.le_of_lt hu)
      omega
    · intro h; exact Int.mul_neg_of_neg_of_pos h hu
  · constructor
    · intro h
      refine Int.not_le.1 fun h2 => ?_
      have := Int.mul_nonneg (show 0 ≤ -z by omega) (Int.le_of_lt hu)
      rw [Int.neg_mul] at this
      omega
    · intro h; exact Int.mul_pos h hu
theorem natAbs_mul_pw (z : Int) (u : Nat) : (z * (u : Nat)).natAbs = z.natAbs * u := by rw [Int.natAbs_mul]; rfl
theorem IZ.add {x y : Nat} {a b : Int} (hx : IZ x a) (hy : IZ y b) (h : (a + b).natAbs < 9007199254740992) : IZ (fop .add .f64 x y) (a + b) := by
  obtain ⟨s, m, e, h1, h2, h3, h4, h5, _⟩ := sum_fin D x y hx.1 hy.1
  have hf : fop .add .f64 x y = D.write (.number s m e) := by
    show ((((D.read x).sum (D.read y)).map D.write).getD (qn .f64)) = _
    rw [h1]
    rfl
  have hs : sv D x + sv D y = (a + b) * (pw 1074 : Nat) := by rw [hx.2, hy.2, Int.add_mul]
  rw [hs] at h3 h4 h5
  obtain ⟨g, hg, hM⟩ := rung64 h
  have hp := mul_pos_iff (z := a + b) (pwI_pos 1074)
  obtain ⟨w1, w2⟩ := write_rung D s m e g (Nat.le_of_lt hg) (by
    rw [h3, natAbs_mul_pw, hM, show (D.leastPlace - e).toNat = 0 by omega, Nat.pow_zero, Nat.mul_one])
  rw [hf]
  exact ⟨by rw [w1]; exact hg, sv_of w1 w2 hM rfl (fun h => h4 (hp.1.2 h)) (fun h => h5 (hp.2.2 h))⟩
theorem IZ.neg {y : Nat} {b : Int} (h : IZ y b) : IZ (fneg .f64 y) (-b) :=
  ⟨by rw [show rg D (fneg .f64 y) = rg D y from rg_fneg .f64 y]; exact h.1, by rw [show sv D (fneg .f64 y) = -sv D y from sv_fneg .f64 y, h.2, Int.neg_mul]⟩
theorem IS.neg {y : Nat} {b : Int} (h : IS y b) : IS (fneg .f32 y) (-b) :=
  ⟨by rw [show rg Ieee.single (fneg .f32 y) = rg Ieee.single y from rg_fneg .f32 y]; exact h.1, by rw [show sv Ieee.single (fneg .f32 y) = -sv Ieee.single y from sv_fneg .f32 y, h.2, Int.neg_mul]⟩
theorem IZ.sub {x y : Nat} {a b : Int} (hx : IZ x a) (hy : IZ y b) (h : (a - b).natAbs < 9007199254740992) : IZ (fop .sub .f64 x y) (a - b) := by
  rw [fop_sub, Int.sub_eq_add_neg]
  exact hx.add hy.neg (by rw [← Int.sub_eq_add_neg]; exact h)
theorem IZ.mg {x : Nat} {a : Int} (h : IZ x a) : Fl.Mg D (rg D x) = a.natAbs * pw 1074 := by
  have := natAbs_sv D x
  rw [h.2, natAbs_mul_pw] at this
  exact this.symm
theorem IZ.sg_neg {x : Nat} {a : Int} (h : IZ x a) (ha : a ≠ 0) : sg D x = decide (a < 0) := by
  have h2 := h.2
  unfold sv at h2
  have hp := mul_pos_iff (z := a) (pwI_pos 1074)
  have hm := h.mg
  have hpos : 0 < Fl.Mg D (rg D x) := by rw [hm]; exact Nat.mul_pos (by omega) (pw_pos 1074)
  cases hs : sg D x with
  | true =>
    rw [hs, if_pos rfl] at h2
    have : a < 0 := hp.1.1 (by omega)
    exact (decide_eq_true this).symm
  | false =>
    rw [hs, if_neg (by decide)] at h2
    have : 0 < a := hp.2.1 (by omega)
    exact (decide_eq_false (by omega)).symm
/-- the sum of two exponents, at the least place -/
theorem two_places (q : Nat) (a b I J : Nat) (A B : Nat) (ha : a * 2 ^ I = A * pw q) (hb : b * 2 ^ J = B * pw q) (i j : Int) (hi : i = (I : Int) - q) (hj : j = (J : Int) - q) :
    a * b * 2 ^ (i + j - -(q : Int)).toNat = A * B * pw q * 2 ^ (-(q : Int) - (i + j)).toNat := by
  subst hi hj
  have g : a * b * pw (I + J) = A * B * pw q * pw q := by
    rw [pw_add, show a * b * (pw I * pw J) = (a * 2 ^ I) * (b * 2 ^ J) by rw [pwd', pwd']; ac_rfl, ha, hb]
    ac_rfl
  by_cases hc : q ≤ I + J
  · rw [show ((I : Int) - q + ((J : Int) - q) - -(q : Int)).toNat = I + J - q by omega, show (-(q : Int) - ((I : Int) - q + ((J : Int) - q))).toNat = 0 by omega, Nat.pow_zero, Nat.mul_one, pwd']
    refine Nat.eq_of_mul_eq_mul_right (pw_pos q) ?_
    rw [Nat.mul_assoc, pw_join', show I + J - q + q = I + J by omega, g]
  · rw [show ((I : Int) - q + ((J : Int) - q) - -(q : Int)).toNat = 0 by omega, show (-(q : Int) - ((I : Int) - q + ((J : Int) - q))).toNat = q - (I + J) by omega, Nat.pow_zero, Nat.mul_one, pwd']
    refine Nat.eq_of_mul_eq_mul_right (pw_pos (I + J)) ?_
    rw [Nat.mul_assoc (A * B * pw q), pw_join', show q - (I + J) + (I + J) = q by omega, g]
theorem IZ.mul {x y : Nat} {a b : Int} (hx : IZ x a) (hy : IZ y b) (h : (a * b).natAbs < 9007199254740992) : IZ (fop .mul .f64 x y) (a * b) := by
  obtain ⟨m, i, e1, hi, hm, _⟩ := read_fin D x hx.1
  obtain ⟨n, j, e2, hj, hn, _⟩ := read_fin D y hy.1
  have hf : fop .mul .f64 x y = D.write (.number (sg D x ^^ sg D y) (m * n) (i + j)) := by
    show ((((D.read x).product (D.read y)).map D.write).getD (qn .f64)) = _
    rw [e1, e2]
    rfl
  rw [hx.mg] at hm
  rw [hy.mg] at hn
  rw [least64] at hi hj hm hn
  obtain ⟨g, hg, hM⟩ := rung64 h
  rw [Int.natAbs_mul] at hM
  obtain ⟨w1, w2⟩ := write_rung D (sg D x ^^ sg D y) (m * n) (i + j) g (Nat.le_of_lt hg) (by
    rw [show D.leastPlace = -1074 from least64, hM]
    exact two_places 1074 m n (i - -1074).toNat (j - -1074).toNat _ _ hm hn i j (by omega) (by omega))
  rw [hf]
  refine ⟨by rw [w1]; exact hg, sv_of w1 w2 hM (Int.natAbs_mul a b) ?_ ?_⟩
  · intro hneg
    have ha : a ≠ 0 := by intro h0; subst h0; rw [Int.zero_mul] at hneg; omega
    have hb : b ≠ 0 := by intro h0; subst h0; rw [Int.mul_zero] at hneg; omega
    rw [hx.sg_neg ha, hy.sg_neg hb]
    by_cases h1 : a < 0
    · have h2 : ¬ b < 0 := fun h2 => by have := Int.mul_pos_of_neg_of_neg h1 h2; omega
      rw [decide_eq_true h1, decide_eq_false h2]; rfl
    · have h2 : b < 0 := Int.not_le.1 fun h2 => by have := Int.mul_nonneg (show 0 ≤ a by omega) h2; omega
      rw [decide_eq_false h1, decide_eq_true h2]; rfl
  · intro hpos
    have ha : a ≠ 0 := by intro h0; subst h0; rw [Int.zero_mul] at hpos; omega
    have hb : b ≠ 0 := by intro h0; subst h0; rw [Int.mul_zero] at hpos; omega
    rw [hx.sg_neg ha, hy.sg_neg hb]
    by_cases h1 : a < 0
    · have h2 : b < 0 := Int.not_le.1 fun h2 => by
        have := Int.mul_nonneg (show 0 ≤ -a by omega) h2
        rw [Int.neg_mul] at this
        omega
      rw [decide_eq_true h1, decide_eq_true h2]; rfl
    · have h2 : ¬ b < 0 := fun h2 => by
        have := Int.mul_neg_of_pos_of_neg (show 0 < a by omega) h2
        omega
      rw [decide_eq_false h1, decide_eq_false h2]; rfl
theorem IZ.nn {x : Nat} {a : Int} (h : IZ x a) : nan .f64 x = false := by
  rw [nan_eq]
  exact decide_eq_false (Nat.not_lt.2 (Nat.le_of_lt h.1))
theorem IS.nn {x : Nat} {a : Int} (h : IS x a) : nan .f32 x = false := by
  rw [nan_eq]
  exact decide_eq_false (Nat.not_lt.2 (Nat.le_of_lt h.1))
/-- equal, but for the sign of a zero -/
theorem IS.eq {x y : Nat} {a b : Int} (hx : IS x a) (hy : IS y b) : (FloatKind.f32.format.order x y == some Ordering.eq) = decide (a = b) := by
  rw [order_sv FloatKind.f32.format (exp_pos .f32) x y (Nat.le_of_lt hx.1) (Nat.le_of_lt hy.1), Bool.eq_iff_iff]
  simp only [beq_iff_eq, Option.some.injEq, Int.compare_eq_eq, decide_eq_true_eq]
  show sv Ieee.single x = sv Ieee.single y ↔ _
  rw [hx.2, hy.2]
  constructor
  · intro h; exact Int.eq_of_mul_eq_mul_right (by have := pwI_pos 149; omega) h
  · intro h; rw [h]
theorem IS.wide {x : Nat} {a : Int} (h : IS x a) : IZ (fwide x) a := by
  have hi : rg Ieee.single x < 2139095040 := by have := h.1; rwa [inf32] at this
  obtain ⟨_, hs, hr, hm⟩ := wide_fin x hi
  refine ⟨by rw [show D.infRung = _ from inf64]; exact hr, ?_⟩
  have h2 := h.2
  unfold sv at h2 ⊢
  rw [show sg D (fwide x) = _ from hs, show Fl.Mg D (rg D (fwide x)) = _ from hm]
  have e : (pw 1074 : Nat) = pw 149 * w925 := by unfold w925; rw [pw_join']
  rw [e, Int.natCast_mul, Int.natCast_mul, ← Int.mul_assoc, ← h2]
  cases sg Ieee.single x
  · rw [if_neg (by decide), if_neg (by decide)]
  · rw [if_pos rfl, if_pos rfl, Int.neg_mul]
theorem ofInt32 {z : Int} (h : z.natAbs < 16777216) : IS (floatOfInt .f32 z) z := by
  obtain ⟨g, hg, hM⟩ := rung32 h
  obtain ⟨w1, w2⟩ := write_rung Ieee.single (decide (z < 0)) z.natAbs 0 g (Nat.le_of_lt hg) (by
    rw [show Ieee.single.leastPlace = -149 from least32, hM, show ((0 : Int) - -149).toNat = 149 from rfl, show ((-149 : Int) - 0).toNat = 0 from rfl, Nat.pow_zero, Nat.mul_one, pwd'])
  exact ⟨Nat.lt_of_le_of_lt (Nat.le_of_eq w1) hg, sv_of w1 w2 hM rfl (fun h => decide_eq_true h) (fun h => decide_eq_false (by omega))⟩
theorem ofInt32_lt {z : Int} : floatOfInt .f32 z < 4294967296 := wf32 (floatOfInt_wf .f32 z)
/-- a word that is a whole number other than 0 is the only one -/
theorem IZ.word {x y : Nat} {a : Int} (hx : IZ x a) (hy : IZ y a) (h0 : a ≠ 0) (lx : x < 18446744073709551616) (ly : y < 18446744073709551616) : x = y := by
  refine word_ext (f := D) (by rw [show D.signWeight = _ from sw64]; omega) (by rw [show D.signWeight = _ from sw64]; omega) ?_ ?_
  · rw [hx.sg_neg h0, hy.sg_neg h0]
  · exact Mg_inj D (by rw [hx.mg, hy.mg])
theorem IZ.zero {x : Nat} (hx : IZ x 0) (lx : x < 18446744073709551616) : x = 0 ∨ x = 9223372036854775808 := by
  have h := hx.mg
  rw [show (0 : Int).natAbs = 0 from rfl, Nat.zero_mul] at h
  have h2 : rg D x = 0 := Mg_inj D (by rw [h, Mg_zero])
  have hw := word_parts D x (by rw [show D.signWeight = _ from sw64]; omega)
  rw [h2, show D.signWeight = _ from sw64] at hw
  cases hs : sg D x <;> rw [hs] at hw <;> simp at hw
  · exact .inl hw
  · exact .inr hw
theorem narrow_zero : floatToFloatBits .f64 0 .f32 = some 0 ∧ floatToFloatBits .f64 9223372036854775808 .f32 = some 2147483648 := ⟨by decide +kernel, by decide +kernel⟩
theorem IS_zero : IS 0 0 ∧ IS 2147483648 0 := ⟨⟨by decide +kernel, by rw [Int.zero_mul]; decide +kernel⟩, ⟨by decide +kernel, by rw [Int.zero_mul]; decide +kernel⟩⟩
/-- a whole number narrowed -/
theorem IZ.narrow {x : Nat} {a : Int} (hx : IZ x a) (lx : x < 18446744073709551616) (h : a.natAbs < 16777216) : ∃ r, floatToFloatBits .f64 x .f32 = some r ∧ IS r a := by
  by_cases h0 : a = 0
  · subst h0
    rcases hx.zero lx with rfl | rfl
    · exact ⟨_, narrow_zero.1, IS_zero.1⟩
    · exact ⟨_, narrow_zero.2, IS_zero.2⟩
  · have hs := ofInt32 h
    have e := hx.word hs.wide h0 lx fwide_lt
    subst e
    exact ⟨_, Go.Proofs.YtkbfhooiloaokaaGreatDoor.Num.narrow_any ofInt32_lt hs.nn, hs⟩
theorem fop_lt64 (op : BinOp) (a b : Nat) : fop op .f64 a b < 18446744073709551616 := by
  unfold fop
  cases h : floatBits op .f64 a b with
  | none => decide +kernel
  | some r => exact wf64 (floatBits_wf h)
theorem quo_places (q A T : Nat) : A * 2 ^ (T + 1) * 2 ^ (-((T + 1 : Nat) : Int) - -(q : Int)).toNat = A * pw q * 2 ^ (-(q : Int) - -((T + 1 : Nat) : Int)).toNat := by
  by_cases hc : T + 1 ≤ q
  · rw [show (-((T + 1 : Nat) : Int) - -(q : Int)).toNat = q - (T + 1) by omega, show (-(q : Int) - -((T + 1 : Nat) : Int)).toNat = 0 by omega, Nat.pow_zero, Nat.mul_one, Nat.mul_assoc, ← Nat.pow_add, show T + 1 + (q - (T + 1)) = q by omega, pwd']
  · rw [show (-((T + 1 : Nat) : Int) - -(q : Int)).toNat = 0 by omega, show (-(q : Int) - -((T + 1 : Nat) : Int)).toNat = T + 1 - q by omega, Nat.pow_zero, Nat.mul_one, pwd', pwd', Nat.mul_assoc, pw_join', show q + (T + 1 - q) = T + 1 by omega]
theorem quo_enough {m n I J A M : Nat} (h : m * 2 ^ I = A * n * 2 ^ J) (hA : A < 1048576) (hm : m ≠ 0) (hn : n ≠ 0) (hM : 54 + n.log2 - m.log2 = M) : I ≤ M + J := by
  by_cases hIJ : I ≤ J
  · omega
  · have e : m * 2 ^ (I - J) = A * n := by
      refine Nat.eq_of_mul_eq_mul_right (Nat.two_pow_pos J) ?_
      rw [← h, Nat.mul_assoc, ← Nat.pow_add, show I - J + J = I by omega]
    have h1 : 2 ^ (m.log2 + (I - J)) ≤ A * n := by
      rw [← e, Nat.pow_add]
      exact Nat.mul_le_mul_right _ (Nat.log2_self_le hm)
    have h2 : A * n < 2 ^ (20 + (n.log2 + 1)) := by
      rw [Nat.pow_add]
      exact Nat.mul_lt_mul'' (by exact hA) Nat.lt_log2_self
    have h3 := (Nat.pow_lt_pow_iff_right (a := 2) (by omega)).1 (Nat.lt_of_le_of_lt h1 h2)
    omega
/-- a quotient that is a whole number -/
theorem IZ.quo {x y : Nat} {z p : Int} (hx : IZ x (z * p)) (hy : IZ y p) (hp : p ≠ 0) (hz : z.natAbs < 1048576) : IZ (fop .quo .f64 x y) z := by
  obtain ⟨m, i, e1, hi, hm, _⟩ := read_fin D x hx.1
  obtain ⟨n, j, e2, hj, hn, _⟩ := read_fin D y hy.1
  rw [hx.mg, Int.natAbs_mul] at hm
  rw [hy.mg] at hn
  rw [least64] at hi hj hm hn
  obtain ⟨I, hI⟩ : ∃ I : Nat, i = (I : Int) - 1074 := ⟨(i + 1074).toNat, by omega⟩
  obtain ⟨J, hJ⟩ : ∃ J : Nat, j = (J : Int) - 1074 := ⟨(j + 1074).toNat, by omega⟩
  rw [show (i - -1074).toNat = I by omega] at hm
  rw [show (j - -1074).toNat = J by omega] at hn
  have hpn : 0 < p.natAbs := by omega
  have hn0 : n ≠ 0 := by
    intro h
    subst h
    rw [Nat.zero_mul] at hn
    have := Nat.mul_pos hpn (pw_pos 1074)
    omega
  have hmn : m * 2 ^ I = z.natAbs * n * 2 ^ J := by rw [hm, Nat.mul_assoc, Nat.mul_assoc, hn]
  obtain ⟨M, hM⟩ : ∃ M, D.fractionBits + 2 + n.log2 - m.log2 = M := ⟨_, rfl⟩
  have e := div_num D x y _ _ m n i j e1 e2 hn0 M hM _ (Nat.shiftLeft_eq m M)
  have hf : fop .quo .f64 x y = D.write (.number (sg D x ^^ sg D y) (2 * (m * 2 ^ M / n) + (m * 2 ^ M % n != 0).toNat) (i - j - (M : Nat) - 1)) := by
    have e2 : fop .quo .f64 x y = (D.div x y).getD (qn .f64) := rfl
    rw [e2, e, Option.getD_some]
    exact (show ∀ (s : Bool) (m : Nat) (e : Int), D.nearest s m e = D.write (.number s m e) from fun _ _ _ => rfl) _ _ _
  obtain ⟨g, hg, hMg⟩ := rung64 (n := z.natAbs) (by omega)
  by_cases hz0 : z = 0
  · subst hz0
    have hm0 : m = 0 := by
      rw [show (0 : Int).natAbs = 0 from rfl, Nat.zero_mul, Nat.zero_mul] at hmn
      rcases Nat.mul_eq_zero.1 hmn with h | h
      · exact h
      · have := Nat.two_pow_pos I; omega
    subst hm0
    have hg0 : g = 0 := Mg_inj D (by rw [hMg, show (0 : Int).natAbs = 0 from rfl, Nat.zero_mul, Mg_zero])
    subst hg0
    have hmag : 2 * (0 * 2 ^ M / n) + (0 * 2 ^ M % n != 0).toNat = 0 := by rw [Nat.zero_mul, Nat.zero_div, Nat.zero_mod]; rfl
    rw [hmag] at hf
    obtain ⟨w1, w2⟩ := write_rung D (sg D x ^^ sg D y) 0 (i - j - (M : Nat) - 1) 0 (Nat.zero_le _) (by rw [Mg_zero, Nat.zero_mul, Nat.zero_mul])
    rw [hf]
    exact ⟨by rw [w1]; exact hg, sv_of w1 w2 hMg rfl (fun h => absurd h (by omega)) (fun h => absurd h (by omega))⟩
  · have hm0 : m ≠ 0 := by
      intro h
      subst h
      rw [Nat.zero_mul] at hmn
      have := Nat.mul_pos (Nat.mul_pos (show 0 < z.natAbs by omega) (show 0 < n by omega)) (Nat.two_pow_pos J)
      omega
    have hle := quo_enough hmn hz hm0 hn0 hM
    obtain ⟨T, hT⟩ : ∃ T, M + J = T + I := ⟨M + J - I, by omega⟩
    have hG : m * 2 ^ M = z.natAbs * 2 ^ T * n := by
      refine Nat.eq_of_mul_eq_mul_right (Nat.two_pow_pos I) ?_
      rw [show m * 2 ^ M * 2 ^ I = (m * 2 ^ I) * 2 ^ M by ac_rfl, hmn, show z.natAbs * 2 ^ T * n * 2 ^ I = z.natAbs * n * (2 ^ T * 2 ^ I) by ac_rfl, ← Nat.pow_add, ← hT, Nat.pow_add]
      ac_rfl
    have hmag : 2 * (m * 2 ^ M / n) + (m * 2 ^ M % n != 0).toNat = z.natAbs * 2 ^ (T + 1) := by
      rw [hG, Nat.mul_div_cancel _ (by omega), Nat.mul_mod_left, Nat.pow_succ]
      show 2 * (z.natAbs * 2 ^ T) + 0 = _
      rw [Nat.add_zero, Nat.mul_comm 2, Nat.mul_assoc]
    rw [hmag, show i - j - (M : Nat) - 1 = -((T + 1 : Nat) : Int) by omega] at hf
    obtain ⟨w1, w2⟩ := write_rung D (sg D x ^^ sg D y) (z.natAbs * 2 ^ (T + 1)) (-((T + 1 : Nat) : Int)) g (Nat.le_of_lt hg) (by
      rw [show D.leastPlace = -1074 from least64, hMg]
      exact quo_places 1074 _ T)
    have hzp : z * p ≠ 0 := Int.mul_ne_zero hz0 hp
    rw [hf]
    rw [hx.sg_neg hzp, hy.sg_neg hp] at w1 w2 ⊢
    refine ⟨by rw [w1]; exact hg, sv_of w1 w2 hMg rfl ?_ ?_⟩
    · intro hneg
      by_cases h1 : p < 0
      · have h2 := Int.mul_pos_of_neg_of_neg hneg h1
        rw [decide_eq_false (show ¬ z * p < 0 by omega), decide_eq_true h1]; rfl
      · have h2 := Int.mul_neg_of_neg_of_pos hneg (show 0 < p by omega)
        rw [decide_eq_true h2, decide_eq_false h1]; rfl
    · intro hpos
      by_cases h1 : p < 0
      · have h2 := Int.mul_neg_of_pos_of_neg hpos h1
        rw [decide_eq_true h2, decide_eq_true h1]; rfl
      · have h2 := Int.mul_pos hpos (show 0 < p by omega)
        rw [decide_eq_false (show ¬ z * p < 0 by omega), decide_eq_false h1]; rfl
end Go.Proofs.Fl
/-
  The sine of turns, by the program: the fraction, the two foldings, eight rounds of the polynomial.
-/
namespace Go.Proofs.YtkbfhooiloaokaaGreatDoor.Num
open Go.RowKit Go.Proofs.Fl
set_option linter.unusedVariables false

theorem run_fint (x : Nat) (h : F2 52 x) (w : World) : (convert 46 2 (.float .f64 x)).run Tryz.prog w = .ok (.int .i64 (fint x)) w :=
  run_convert_float_int w _ _ .f64 .i64 x _ (by kernel_rfl) Tryz.underlying2 (fint_some h.b (by omega) h.nn).1
@[go_sem] theorem neg_float (k : FloatKind) (x : Nat) : Op.unary .neg (.float k x) = pure (.float k (fneg k x)) := rfl

theorem fraction_calls (x : Nat) (h : F2 52 x) (w : World) : Calls Tryz.prog 83 #[.float .f64 x] w (Ret (.float .f64 (fracF x)) w) := by
  have hcv := run_fint x h
  have hf := less_F2 h
  have e1 := fun w => run_fop_det (P := Tryz.prog) hf.nn 46 w
  have Hd := hid (show fracF x = if (D.order (fop .sub .f64 x (floatOfInt .f64 (fint x))) 0 == some Ordering.lt) = true then fop .add .f64 (fop .sub .f64 x (floatOfInt .f64 (fint x))) C1 else fop .sub .f64 x (floatOfInt .f64 (fint x)) from rfl)
  have hn := nn_add hf.lt (show rg D C1 < D.infRung by decide +kernel)
  have e2 := fun w => run_fop_det (P := Tryz.prog) hn 46 w
  clear hf hn
  generalize fop .sub .f64 x (floatOfInt .f64 (fint x)) = f at *
  generalize hg : fop .add .f64 f C1 = g at *
  clear hg
  unfold C1 at e2
  cases ho : (FloatKind.f64.format.order f 0 == some Ordering.lt)
  all_goals
    have Ho := hid (show (D.order f 0 == some Ordering.lt) = _ from ho)
    go_enter Tryz.func83, Tryz.ntmps83
    go_wp2
    go_ret
    exact ⟨ret_float (by rw [Hd.out, Ho.out]; rfl), 0, rfl⟩

set_option maxHeartbeats 1600000 in
theorem sine_core (x f f1 f2 z u : Nat) (T G : Bool) (hx : F2 52 x) (hf : fracF x = f) (hu : F2 10 u) (hr : nan .f64 (fop .mul .f64 z (sineP u 8)) = false)
    (hT : (FloatKind.f64.format.order f 4602678819172646912 == some Ordering.gt || FloatKind.f64.format.order f 4602678819172646912 == some Ordering.eq) = T)
    (h1 : if T = true then ∀ w, (binOp .sub 46 (.float .f64 f) (.float .f64 4602678819172646912)).run Tryz.prog w = .ok (.float .f64 f1) w else f1 = f)
    (hG : (FloatKind.f64.format.order f1 4598175219545276416 == some Ordering.gt) = G)
    (h2 : if G = true then ∀ w, (binOp .sub 46 (.float .f64 4602678819172646912) (.float .f64 f1)).run Tryz.prog w = .ok (.float .f64 f2) w else f2 = f1)
    (hz : ∀ w, (binOp .mul 46 (.float .f64 f2) (.float .f64 4618760256179416344)).run Tryz.prog w = .ok (.float .f64 z) w)
    (hzz : ∀ w, (binOp .mul 46 (.float .f64 z) (.float .f64 z)).run Tryz.prog w = .ok (.float .f64 u) w) (w : World) :
    Calls Tryz.prog 67 #[.float .f64 x] w (Ret (.float .f64 (if T = true then fneg .f64 (fop .mul .f64 z (sineP u 8)) else fop .mul .f64 z (sineP u 8))) w) := by
  have HF := hid hf
  have HX := hid hx
  have hend := fun w => run_fop_det (P := Tryz.prog) hr 46 w
  have HU := hid hu
  have hke := kf_end
  have HKS := hid kf_start
  clear hf hx hr hu
  generalize hres : fop .mul .f64 z (sineP u 8) = res at *
  clear hres
  cases T <;> cases G
  all_goals
    simp only [if_true, Bool.false_eq_true, if_false] at h1 h2 ⊢
    first | subst h1 | skip
    first | subst h2 | skip
    go_enter Tryz.func67, Tryz.ntmps67
    go_wp2_with (go_at_call 83; refine (fraction_calls _ HX.out _).mono ?_; rw [HF.out]; rintro e w' ⟨rfl, n0, rfl⟩)
    go_loop [7, 8] (fun p k => ∃ j : Nat, j ≤ 8 ∧ k = .float .f64 (kf j) ∧ p = .float .f64 (sineP u j)) (fun p k => (fint (bitsOfV k)).toNat)
    case atStart => exact ⟨0, by omega, by rw [HKS.out], rfl⟩
    case round =>
      obtain ⟨j, hj, rfl, rfl⟩ := hrel
      by_cases hlt : j < 8
      · have ht := ktabs hlt
        have hst := sineP_steps HU.out hlt
        have c1 := ht.test
        have c2 := fun w => run_fop_det (P := Tryz.prog) (show nan .f64 (fop .mul .f64 C2 (kf j)) = false from ht.nA) 46 w
        have c3 := fun w => run_fop_det (P := Tryz.prog) (show nan .f64 (fop .add .f64 (kA j) C1) = false from ht.nB) 46 w
        have c4 := fun w => run_fop_det (P := Tryz.prog) (show nan .f64 (fop .mul .f64 (kA j) (kB j)) = false by rw [ht.eD]; exact ht.nD) 46 w
        have c5 := fun w => run_fop_det (P := Tryz.prog) hst.1 46 w
        have c6 := fun w => run_fop_det (P := Tryz.prog) hst.2.1 46 w
        have c7 := fun w => run_fop_det (P := Tryz.prog) (show nan .f64 (fop .sub .f64 C1 (fop .quo .f64 (fop .mul .f64 u (sineP u j)) (kD j))) = false from hst.2.2) 46 w
        have c8 := fun w => run_fop_det (P := Tryz.prog) (show nan .f64 (fop .sub .f64 (kf j) C1) = false by rw [ht.eK]; exact ht.nK) 46 w
        rw [show fop .mul .f64 C2 (kf j) = kA j from rfl] at c2
        rw [show fop .add .f64 (kA j) C1 = kB j from rfl] at c3
        rw [ht.eD] at c4
        rw [show fop .sub .f64 C1 (fop .quo .f64 (fop .mul .f64 u (sineP u j)) (kD j)) = sineP u (j + 1) from rfl] at c7
        rw [ht.eK] at c8
        have HM := hid (kf_measure hlt)
        clear ht hst
        unfold C1 at c3 c7 c8
        unfold C2 at c2
        generalize fop .quo .f64 (fop .mul .f64 u (sineP u j)) (kD j) = q at *
        generalize fop .mul .f64 u (sineP u j) = m at *
        go_wp2
        go_round
        case rel => exact ⟨j + 1, hlt, rfl, rfl⟩
        case measure => exact HM.out
      · obtain rfl : j = 8 := by omega
        go_wp2
        go_ret
        exact ⟨rfl, _, rfl⟩
theorem sine_calls (x : Nat) (h : F2 52 x) (w : World) : Calls Tryz.prog 67 #[.float .f64 x] w (Ret (.float .f64 (sineF (fracF x))) w) := by
  obtain ⟨f1, f2, z, u, T, G, hp⟩ := sine_parts (frac_F2 h)
  rw [hp.res]
  refine sine_core x (fracF x) f1 f2 z u T G h rfl hp.fu hp.nr hp.hT ?_ hp.hG ?_ ?_ ?_ w
  · have e := hp.h1
    cases T
    · simpa using e
    · simp only [if_true] at e ⊢
      intro w
      rw [e]
      exact run_fop_det hp.n1 _ w
  · have e := hp.h2
    cases G
    · simpa using e
    · simp only [if_true] at e ⊢
      intro w
      rw [e]
      exact run_fop_det hp.n2 _ w
  · intro w
    rw [hp.hz]
    exact run_fop_det hp.nz _ w
  · intro w
    rw [hp.hu]
    exact run_fop_det hp.nu _ w
end Go.Proofs.YtkbfhooiloaokaaGreatDoor.Num
/-
  math.Sqrt: the root, rounded once.
-/
namespace Go.Proofs.YtkbfhooiloaokaaGreatDoor.Num
open Go.RowKit Go.Proofs.Fl
theorem Sqrt_calls (x : Nat) (w : World) : Calls Tryz.prog 44 #[.float .f64 x] w (RetF .f64 (froot x) w) := by
  go_enter Tryz.func44, Tryz.ntmps44
  go_wp2_with (refine wpList_sqrt Tryz.func70 (by kernel_rfl) (by kernel_rfl) (by kernel_rfl) (by kernel_rfl) rfl rfl ?_; intro v n hv)
  go_ret
  exact ⟨v, _, rfl, hv, rfl⟩
end Go.Proofs.YtkbfhooiloaokaaGreatDoor.Num
/-
  The laws' sameFloat: true of two float64 that are the same, up to which NaN.
-/
namespace Go.Proofs.YtkbfhooiloaokaaGreatDoor.Num
open Go.RowKit Go.Proofs.Fl
set_option linter.unusedVariables false

theorem gt_same {v v' c : Nat} (h : FEq .f64 v c) (h' : FEq .f64 v' c) : ((FloatKind.f64.format.order v 0 == some Ordering.gt) == (FloatKind.f64.format.order v' 0 == some Ordering.gt)) = true := by
  rw [order_congr h (FEq.refl _ _), order_congr h' (FEq.refl _ _)]
  simp
end Go.Proofs.YtkbfhooiloaokaaGreatDoor.Num
/-
  The law on RootNumber: both texts take the root of the number, made a float64, and narrow it; the root is never too great for that.
-/
namespace Go.Proofs.YtkbfhooiloaokaaGreatDoor.Num
open Go.RowKit Go.Proofs.Fl
set_option linter.unusedVariables false
/-- the reference's narrowing -/
theorem l01Narrow_calls (x : Nat) (hx : Fits x) (w : World) : Calls Tryz.prog 71 #[.float .f64 x] w (RetF .f32 (fnar x) w) := by
  go_enter Tryz.func71, Tryz.ntmps71
  go_wp2_with (refine wpList_narrow rfl rfl (by kernel_rfl) Tryz.underlying28 hx ?_; intro v n hv)
  go_ret
  exact ⟨v, _, rfl, hv, rfl⟩
end Go.Proofs.YtkbfhooiloaokaaGreatDoor.Num
namespace Go.Proofs.YtkbfhooiloaokaaGreatDoor.fnExactRootNumber
open Go.RowKit Go.Proofs.Fl Go.Proofs.YtkbfhooiloaokaaGreatDoor.Num
set_option linter.unusedVariables false
theorem l01Sqrt_calls (x : Nat) (w : World) : Calls Tryz.prog 45 #[.float .f32 x] w (RetF .f32 (fnar (froot (fwide x))) w) := by
  have HF := hid (root_fits x)
  go_enter Tryz.func45, Tryz.ntmps45
  go_wp2_with (refine wpList_wide rfl rfl (by kernel_rfl) Tryz.underlying46 ?_; intro v n hv)
  refine (Sqrt_calls _ _).mono ?_
  rintro e w' ⟨v2, n2, rfl, hv2, rfl⟩
  have HV := hid (show FEq .f64 v2 (froot (fwide x)) by rw [← froot_congr ‹FEq .f64 _ (fwide x)›]; exact hv2)
  clear hv2
  go_wp2_with (go_at_call 71; refine (l01Narrow_calls _ (HF.out.congr HV.out) _).mono ?_; rintro e w' ⟨v3, n3, rfl, hv3, rfl⟩)
  go_ret
  exact ⟨v3, _, rfl, by rw [← fnar_congr HV.out]; exact hv3, rfl⟩
theorem root_spec_calls (x : Nat) (w : World) : Calls Tryz.prog 12 #[.float .f32 x] w (RetF .f32 (fnar (froot (fwide x))) w) := by
  go_enter Tryz.func12, Tryz.ntmps12
  go_wp2_with (go_at_call 45; refine (l01Sqrt_calls _ _).mono ?_; rintro e w' ⟨v3, n3, rfl, hv3, rfl⟩)
  go_ret
  exact ⟨v3, _, rfl, hv3, rfl⟩
end Go.Proofs.YtkbfhooiloaokaaGreatDoor.fnExactRootNumber
/-
  The program's products, powers, quotients and lengths of complex numbers whose parts are whole numbers.
-/
namespace Go.Proofs.YtkbfhooiloaokaaGreatDoor.Num
open Go.RowKit Go.Proofs.Fl
set_option linter.unusedVariables false
theorem conv_wide {x : Nat} (h : nan .f32 x = false) (w : World) : (convert 28 46 (.float .f32 x)).run Tryz.prog w = .ok (.float .f64 (fwide x)) w :=
  run_convert_float_float w 28 46 .f32 .f64 x _ (by kernel_rfl) Tryz.underlying46 (wide_some h)
theorem conv_narrow {x y : Nat} (h : floatToFloatBits .f64 x .f32 = some y) (w : World) : (convert 46 28 (.float .f64 x)).run Tryz.prog w = .ok (.float .f32 y) w :=
  run_convert_float_float w 46 28 .f64 .f32 x _ (by kernel_rfl) Tryz.underlying28 h
/-- the parts of a product -/
def muS (a b c d : Nat) : Nat := fop .sub .f64 (fop .mul .f64 a c) (fop .mul .f64 b d)
def muT (a b c d : Nat) : Nat := fop .add .f64 (fop .mul .f64 a d) (fop .mul .f64 b c)
structure MulAt (a b c d : Nat) : Prop where
  n1 : nan .f64 (fop .mul .f64 a c) = false
  n2 : nan .f64 (fop .mul .f64 b d) = false
  n3 : nan .f64 (muS a b c d) = false
  n4 : nan .f64 (fop .mul .f64 a d) = false
  n5 : nan .f64 (fop .mul .f64 b c) = false
  n6 : nan .f64 (muT a b c d) = false
def pwS (a b : Nat) : Nat := fop .add .f64 (fop .mul .f64 (fwide a) (fwide a)) (fop .mul .f64 (fwide b) (fwide b))
theorem parts_calls (a b : Nat) (ha : nan .f32 a = false) (hb : nan .f32 b = false) (w : World) : Calls Tryz.prog 40 #[.complex .f32 a b] w (Ret (.tuple #[.float .f64 (fwide a), .float .f64 (fwide b)]) w) := by
  have c1 := fun w => conv_wide ha w
  have c2 := fun w => conv_wide hb w
  clear ha hb
  generalize fwide a = x at *
  generalize fwide b = y at *
  go_enter Tryz.func40, Tryz.ntmps40
  go_wp2
  go_ret2
  exact ⟨rfl, 0, rfl⟩
theorem times_calls (a b c d : Nat) (h : MulAt a b c d) (w : World) : Calls Tryz.prog 41 #[.float .f64 a, .float .f64 b, .float .f64 c, .float .f64 d] w (Ret (.tuple #[.float .f64 (muS a b c d), .float .f64 (muT a b c d)]) w) := by
  have s1 := fun w => run_fop_det (P := Tryz.prog) h.n1 46 w
  have s2 := fun w => run_fop_det (P := Tryz.prog) h.n2 46 w
  have s3 := fun w => run_fop_det (P := Tryz.prog) (show nan .f64 (fop .sub .f64 (fop .mul .f64 a c) (fop .mul .f64 b d)) = false from h.n3) 46 w
  have s4 := fun w => run_fop_det (P := Tryz.prog) h.n4 46 w
  have s5 := fun w => run_fop_det (P := Tryz.prog) h.n5 46 w
  have s6 := fun w => run_fop_det (P := Tryz.prog) (show nan .f64 (fop .add .f64 (fop .mul .f64 a d) (fop .mul .f64 b c)) = false from h.n6) 46 w
  unfold muS muT
  clear h
  generalize fop .sub .f64 (fop .mul .f64 a c) (fop .mul .f64 b d) = u at *
  generalize fop .add .f64 (fop .mul .f64 a d) (fop .mul .f64 b c) = v at *
  generalize fop .mul .f64 a c = p1 at *
  generalize fop .mul .f64 b d = p2 at *
  generalize fop .mul .f64 a d = p3 at *
  generalize fop .mul .f64 b c = p4 at *
  go_enter Tryz.func41, Tryz.ntmps41
  go_wp2
  go_ret2
  exact ⟨rfl, 0, rfl⟩
theorem mul_calls (a b c d r s : Nat) (na : nan .f32 a = false) (nb : nan .f32 b = false) (nc : nan .f32 c = false) (nd : nan .f32 d = false) (h : MulAt (fwide a) (fwide b) (fwide c) (fwide d)) (hr : floatToFloatBits .f64 (muS (fwide a) (fwide b) (fwide c) (fwide d)) .f32 = some r) (hs : floatToFloatBits .f64 (muT (fwide a) (fwide b) (fwide c) (fwide d)) .f32 = some s) (w : World) :
    Calls Tryz.prog 7 #[.complex .f32 a b, .complex .f32 c d] w (Ret (.complex .f32 r s) w) := by
  have P1 := hid (fun w => parts_calls a b na nb w)
  have P2 := hid (fun w => parts_calls c d nc nd w)
  have TT := hid (fun w => times_calls _ _ _ _ h w)
  have c1 := fun w => conv_narrow hr w
  have c2 := fun w => conv_narrow hs w
  clear na nb nc nd h hr hs
  generalize muS (fwide a) (fwide b) (fwide c) (fwide d) = u at *
  generalize muT (fwide a) (fwide b) (fwide c) (fwide d) = v at *
  generalize fwide a = x1 at *
  generalize fwide b = x2 at *
  generalize fwide c = x3 at *
  generalize fwide d = x4 at *
  go_enter Tryz.func7, Tryz.ntmps7
  go_wp2_with fail
  refine (P1.out _).mono ?_
  rintro e w' ⟨rfl, n1, rfl⟩
  go_wp2_with fail
  refine (P2.out _).mono ?_
  rintro e w' ⟨rfl, n2, rfl⟩
  go_wp2_with fail
  refine (TT.out _).mono ?_
  rintro e w' ⟨rfl, n3, rfl⟩
  go_wp2
  go_ret
  exact ⟨rfl, _, rfl⟩
theorem power_calls (a b : Nat) (na : nan .f32 a = false) (nb : nan .f32 b = false) (n1 : nan .f64 (fop .mul .f64 (fwide a) (fwide a)) = false) (n2 : nan .f64 (fop .mul .f64 (fwide b) (fwide b)) = false) (n3 : nan .f64 (pwS a b) = false) (w : World) : Calls Tryz.prog 42 #[.complex .f32 a b] w (Ret (.float .f64 (pwS a b)) w) := by
  have P1 := hid (fun w => parts_calls a b na nb w)
  have s1 := fun w => run_fop_det (P := Tryz.prog) n1 46 w
  have s2 := fun w => run_fop_det (P := Tryz.prog) n2 46 w
  have s3 := fun w => run_fop_det (P := Tryz.prog) (show nan .f64 (fop .add .f64 (fop .mul .f64 (fwide a) (fwide a)) (fop .mul .f64 (fwide b) (fwide b))) = false from n3) 46 w
  unfold pwS
  clear n1 n2 n3 na nb
  generalize fop .add .f64 (fop .mul .f64 (fwide a) (fwide a)) (fop .mul .f64 (fwide b) (fwide b)) = u at *
  generalize fop .mul .f64 (fwide a) (fwide a) = p1 at *
  generalize fop .mul .f64 (fwide b) (fwide b) = p2 at *
  generalize fwide a = x1 at *
  generalize fwide b = x2 at *
  go_enter Tryz.func42, Tryz.ntmps42
  go_wp2_with fail
  refine (P1.out _).mono ?_
  rintro e w' ⟨rfl, n1, rfl⟩
  go_wp2
  go_ret
  exact ⟨rfl, _, rfl⟩
theorem PowerOf_calls (a b p : Nat) (H : Hid (∀ w, Calls Tryz.prog 42 #[.complex .f32 a b] w (Ret (.float .f64 (pwS a b)) w))) (h : floatToFloatBits .f64 (pwS a b) .f32 = some p) (w : World) : Calls Tryz.prog 8 #[.complex .f32 a b] w (Ret (.float .f32 p) w) := by
  have c1 := fun w => conv_narrow h w
  clear h
  generalize pwS a b = u at *
  go_enter Tryz.func8, Tryz.ntmps8
  go_wp2_with fail
  refine (H.out _).mono ?_
  rintro e w' ⟨rfl, n1, rfl⟩
  go_wp2
  go_ret
  exact ⟨rfl, _, rfl⟩
theorem LongOf_calls (a b x : Nat) (H : Hid (∀ w, Calls Tryz.prog 42 #[.complex .f32 a b] w (Ret (.float .f64 (pwS a b)) w))) (h : pwS a b = fwide x) (w : World) : Calls Tryz.prog 11 #[.complex .f32 a b] w (RetF .f32 (fnar (froot (fwide x))) w) := by
  have HF := hid (root_fits x)
  rw [h] at H
  clear h
  go_enter Tryz.func11, Tryz.ntmps11
  go_wp2_with fail
  refine (H.out _).mono ?_
  rintro e w' ⟨rfl, n1, rfl⟩
  go_wp2_with fail
  refine (Sqrt_calls _ _).mono ?_
  rintro e w' ⟨v2, n2, rfl, hv2, rfl⟩
  have HV := hid hv2
  clear hv2
  go_wp2_with (refine wpList_narrow rfl rfl (by kernel_rfl) Tryz.underlying28 (HF.out.congr HV.out) ?_; intro v3 n3 hv3)
  go_ret
  exact ⟨v3, _, rfl, by rw [← fnar_congr HV.out]; exact hv3, rfl⟩
theorem ConjugateOf_calls (a b : Nat) (w : World) : Calls Tryz.prog 9 #[.complex .f32 a b] w (Ret (.complex .f32 a (fneg .f32 b)) w) := by
  go_enter Tryz.func9, Tryz.ntmps9
  go_wp2
  go_ret
  exact ⟨rfl, 0, rfl⟩
theorem QuotientOf_calls (a b c d q r : Nat) (na : nan .f32 a = false) (nb : nan .f32 b = false) (nc : nan .f32 c = false) (nd : nan .f32 d = false) (h : MulAt (fwide a) (fwide b) (fwide c) (fneg .f64 (fwide d)))
    (H : Hid (∀ w, Calls Tryz.prog 42 #[.complex .f32 c d] w (Ret (.float .f64 (pwS c d)) w)))
    (n1 : nan .f64 (fop .quo .f64 (muS (fwide a) (fwide b) (fwide c) (fneg .f64 (fwide d))) (pwS c d)) = false) (n2 : nan .f64 (fop .quo .f64 (muT (fwide a) (fwide b) (fwide c) (fneg .f64 (fwide d))) (pwS c d)) = false)
    (hr : floatToFloatBits .f64 (fop .quo .f64 (muS (fwide a) (fwide b) (fwide c) (fneg .f64 (fwide d))) (pwS c d)) .f32 = some q) (hs : floatToFloatBits .f64 (fop .quo .f64 (muT (fwide a) (fwide b) (fwide c) (fneg .f64 (fwide d))) (pwS c d)) .f32 = some r) (w : World) :
    Calls Tryz.prog 13 #[.complex .f32 a b, .complex .f32 c d] w (Ret (.complex .f32 q r) w) := by
  have P1 := hid (fun w => parts_calls a b na nb w)
  have P2 := hid (fun w => parts_calls c d nc nd w)
  have TT := hid (fun w => times_calls _ _ _ _ h w)
  have s1 := fun w => run_fop_det (P := Tryz.prog) n1 46 w
  have s2 := fun w => run_fop_det (P := Tryz.prog) n2 46 w
  have c1 := fun w => conv_narrow hr w
  have c2 := fun w => conv_narrow hs w
  clear na nb nc nd h hr hs n1 n2
  generalize fop .quo .f64 (muS (fwide a) (fwide b) (fwide c) (fneg .f64 (fwide d))) (pwS c d) = u2 at *
  generalize fop .quo .f64 (muT (fwide a) (fwide b) (fwide c) (fneg .f64 (fwide d))) (pwS c d) = v2 at *
  generalize muS (fwide a) (fwide b) (fwide c) (fneg .f64 (fwide d)) = u at *
  generalize muT (fwide a) (fwide b) (fwide c) (fneg .f64 (fwide d)) = v at *
  generalize pwS c d = p at *
  generalize fwide a = x1 at *
  generalize fwide b = x2 at *
  generalize fwide c = x3 at *
  generalize fwide d = x4 at *
  go_enter Tryz.func13, Tryz.ntmps13
  go_wp2_with fail
  refine (P1.out _).mono ?_
  rintro e w' ⟨rfl, n1, rfl⟩
  go_wp2_with fail
  refine (P2.out _).mono ?_
  rintro e w' ⟨rfl, n2, rfl⟩
  go_wp2_with fail
  refine (TT.out _).mono ?_
  rintro e w' ⟨rfl, n3, rfl⟩
  go_wp2_with fail
  refine (H.out _).mono ?_
  rintro e w' ⟨rfl, n4, rfl⟩
  go_wp2
  go_ret
  exact ⟨rfl, _, rfl⟩
theorem ScaleComplex_calls (a b c r s : Nat) (h1 : nan .f32 (fop .mul .f32 a c) = false) (h2 : nan .f32 (fop .mul .f32 b c) = false) (w : World) : Calls Tryz.prog 14 #[.complex .f32 a b, .float .f32 c] w (Ret (.complex .f32 (fop .mul .f32 a c) (fop .mul .f32 b c)) w) := by
  have s1 := fun w => run_fop_det (P := Tryz.prog) h1 28 w
  have s2 := fun w => run_fop_det (P := Tryz.prog) h2 28 w
  clear h1 h2
  generalize fop .mul .f32 a c = u at *
  generalize fop .mul .f32 b c = v at *
  go_enter Tryz.func14, Tryz.ntmps14
  go_wp2
  go_ret
  exact ⟨rfl, 0, rfl⟩
/-! complex numbers, compared and added -/
theorem run_cneq (a b c d : Nat) (w : World) : (binOp .neq 24 (.complex .f32 a b) (.complex .f32 c d)).run Tryz.prog w = .ok (.bool (!((FloatKind.f32.format.order a c == some Ordering.eq) && (FloatKind.f32.format.order b d == some Ordering.eq)))) w := by
  simp [binOp, Op.complexOp, Op.Complex.cmp, Op.floatCmp, asBool]
theorem run_cadd (a b c d : Nat) (h1 : nan .f32 (fop .add .f32 a c) = false) (h2 : nan .f32 (fop .add .f32 b d) = false) (w : World) : (binOp .add 24 (.complex .f32 a b) (.complex .f32 c d)).run Tryz.prog w = .ok (.complex .f32 (fop .add .f32 a c) (fop .add .f32 b d)) w := by
  have e1 := run_fop_det (P := Tryz.prog) h1 28 w
  have e2 := run_fop_det (P := Tryz.prog) h2 28 w
  simp only [binOp, ne_eq, not_true_eq_false, if_false] at e1 e2
  simp [binOp, Op.complexOp, Op.Complex.arith, e1, e2]
/-! at whole numbers -/
theorem sq_nonneg (a : Int) : 0 ≤ a * a := by
  rcases Int.le_total 0 a with h | h
  · exact Int.mul_nonneg h h
  · have := Int.mul_nonneg (show 0 ≤ -a by omega) (show 0 ≤ -a by omega)
    rw [Int.neg_mul_neg] at this
    exact this
def small (a : Int) : Prop := a.natAbs ≤ 100000
theorem small_mul {a b : Int} (ha : small a) (hb : small b) : (a * b).natAbs ≤ 10000000000 := by
  unfold small at *
  rw [Int.natAbs_mul]
  exact Nat.mul_le_mul ha hb
theorem muls {x1 x2 y1 y2 : Nat} {a b c d : Int} (h1 : IZ x1 a) (h2 : IZ x2 b) (h3 : IZ y1 c) (h4 : IZ y2 d) (ha : small a) (hb : small b) (hc : small c) (hd : small d) :
    MulAt x1 x2 y1 y2 ∧ IZ (muS x1 x2 y1 y2) (a * c - b * d) ∧ IZ (muT x1 x2 y1 y2) (a * d + b * c) := by
  have m1 := small_mul ha hc
  have m2 := small_mul hb hd
  have m3 := small_mul ha hd
  have m4 := small_mul hb hc
  have p1 := h1.mul h3 (by omega)
  have p2 := h2.mul h4 (by omega)
  have p3 := h1.mul h4 (by omega)
  have p4 := h2.mul h3 (by omega)
  have q1 := p1.sub p2 (by omega)
  have q2 := p3.add p4 (by omega)
  exact ⟨⟨p1.nn, p2.nn, q1.nn, p3.nn, p4.nn, q2.nn⟩, q1, q2⟩
/-- a product of complex numbers whose parts are whole numbers -/
theorem mul_is {x1 x2 y1 y2 : Nat} {a b c d : Int} (h1 : IS x1 a) (h2 : IS x2 b) (h3 : IS y1 c) (h4 : IS y2 d) (ha : small a) (hb : small b) (hc : small c) (hd : small d) (hu : (a * c - b * d).natAbs < 16777216) (hv : (a * d + b * c).natAbs < 16777216) :
    ∃ r s, IS r (a * c - b * d) ∧ IS s (a * d + b * c) ∧ ∀ w, Calls Tryz.prog 7 #[.complex .f32 x1 x2, .complex .f32 y1 y2] w (Ret (.complex .f32 r s) w) := by
  obtain ⟨hm, hS, hT⟩ := muls h1.wide h2.wide h3.wide h4.wide ha hb hc hd
  obtain ⟨r, er, hr⟩ := hS.narrow (fop_lt64 _ _ _) hu
  obtain ⟨s, es, hs⟩ := hT.narrow (fop_lt64 _ _ _) hv
  exact ⟨r, s, hr, hs, fun w => mul_calls _ _ _ _ _ _ h1.nn h2.nn h3.nn h4.nn hm er es w⟩
theorem pow_is {x1 x2 : Nat} {a b : Int} (h1 : IS x1 a) (h2 : IS x2 b) (ha : small a) (hb : small b) :
    IZ (pwS x1 x2) (a * a + b * b) ∧ Hid (∀ w, Calls Tryz.prog 42 #[.complex .f32 x1 x2] w (Ret (.float .f64 (pwS x1 x2)) w)) := by
  have m1 := small_mul ha ha
  have m2 := small_mul hb hb
  have p1 := h1.wide.mul h1.wide (by omega)
  have p2 := h2.wide.mul h2.wide (by omega)
  have q := p1.add p2 (by omega)
  exact ⟨q, hid (fun w => power_calls x1 x2 h1.nn h2.nn p1.nn p2.nn q.nn w)⟩
theorem PowerOf_is {x1 x2 : Nat} {a b : Int} (h1 : IS x1 a) (h2 : IS x2 b) (ha : small a) (hb : small b) (hp : (a * a + b * b).natAbs < 16777216) :
    ∃ p, IS p (a * a + b * b) ∧ ∀ w, Calls Tryz.prog 8 #[.complex .f32 x1 x2] w (Ret (.float .f32 p) w) := by
  obtain ⟨q, H⟩ := pow_is h1 h2 ha hb
  obtain ⟨p, ep, hp⟩ := q.narrow (fop_lt64 _ _ _) hp
  exact ⟨p, hp, fun w => PowerOf_calls _ _ _ H ep w⟩
theorem pw_zero : pwS 0 0 = 0 ∧ fwide 0 = 0 ∧ floatOfInt .f32 0 = 0 := ⟨by decide +kernel, by decide +kernel, by decide +kernel⟩
theorem LongOf_is {a b : Int} (ha : a.natAbs ≤ 1000) (hb : b.natAbs ≤ 1000) (w : World) :
    Calls Tryz.prog 11 #[.complex .f32 (floatOfInt .f32 a) (floatOfInt .f32 b)] w (RetF .f32 (fnar (froot (fwide (floatOfInt .f32 (a * a + b * b))))) w) := by
  have h1 := ofInt32 (z := a) (by omega)
  have h2 := ofInt32 (z := b) (by omega)
  have sa : small a := by unfold small; omega
  have sb : small b := by unfold small; omega
  obtain ⟨q, H⟩ := pow_is h1 h2 sa sb
  have b1 : (a * a).natAbs ≤ 1000000 := by rw [Int.natAbs_mul]; exact Nat.mul_le_mul ha ha
  have b2 : (b * b).natAbs ≤ 1000000 := by rw [Int.natAbs_mul]; exact Nat.mul_le_mul hb hb
  have a1 := sq_nonneg a
  have a2 := sq_nonneg b
  refine LongOf_calls _ _ _ H ?_ w
  by_cases h0 : a * a + b * b = 0
  · have ea : a = 0 := by
      have : a * a = 0 := by omega
      rcases Int.mul_eq_zero.1 this with h | h <;> exact h
    have eb : b = 0 := by
      have : b * b = 0 := by omega
      rcases Int.mul_eq_zero.1 this with h | h <;> exact h
    subst ea eb
    rw [show (0 : Int) * 0 + 0 * 0 = 0 from rfl, pw_zero.2.2, pw_zero.1, pw_zero.2.1]
  · exact q.word (ofInt32 (by omega)).wide h0 (fop_lt64 _ _ _) fwide_lt
theorem Quotient_is {r s y1 y2 : Nat} {a b c d : Int} (h1 : IS r (a * c - b * d)) (h2 : IS s (a * d + b * c)) (h3 : IS y1 c) (h4 : IS y2 d) (ha : a.natAbs ≤ 200) (hb : b.natAbs ≤ 200) (hc : c.natAbs ≤ 200) (hd : d.natAbs ≤ 200) (h0 : c ≠ 0 ∨ d ≠ 0) :
    ∃ q t, IS q a ∧ IS t b ∧ ∀ w, Calls Tryz.prog 13 #[.complex .f32 r s, .complex .f32 y1 y2] w (Ret (.complex .f32 q t) w) := by
  have k1 : (a * c).natAbs ≤ 40000 := by rw [Int.natAbs_mul]; exact Nat.mul_le_mul ha hc
  have k2 : (b * d).natAbs ≤ 40000 := by rw [Int.natAbs_mul]; exact Nat.mul_le_mul hb hd
  have k3 : (a * d).natAbs ≤ 40000 := by rw [Int.natAbs_mul]; exact Nat.mul_le_mul ha hd
  have k4 : (b * c).natAbs ≤ 40000 := by rw [Int.natAbs_mul]; exact Nat.mul_le_mul hb hc
  have s1 : Num.small (a * c - b * d) := by unfold Num.small; omega
  have s2 : Num.small (a * d + b * c) := by unfold Num.small; omega
  have s3 : Num.small c := by unfold Num.small; omega
  have s4 : Num.small d := by unfold Num.small; omega
  have s5 : Num.small (-d) := by unfold Num.small; omega
  obtain ⟨hm, hS, hT⟩ := muls h1.wide h2.wide h3.wide h4.wide.neg s1 s2 s3 s5
  obtain ⟨hP, H⟩ := pow_is h3 h4 s3 s4
  have e1 : (a * c - b * d) * c - (a * d + b * c) * -d = a * (c * c + d * d) := by
    simp only [Int.sub_mul, Int.add_mul, Int.mul_neg, Int.mul_add, Int.mul_assoc, Int.mul_comm d c]
    omega
  have e2 : (a * c - b * d) * -d + (a * d + b * c) * c = b * (c * c + d * d) := by
    simp only [Int.sub_mul, Int.add_mul, Int.mul_neg, Int.mul_add, Int.mul_assoc, Int.mul_comm d c]
    omega
  rw [e1] at hS
  rw [e2] at hT
  have hp : c * c + d * d ≠ 0 := by
    have a1 := sq_nonneg c
    have a2 := sq_nonneg d
    intro h
    rcases h0 with h0 | h0
    · have : c * c = 0 := by omega
      rcases Int.mul_eq_zero.1 this with h | h <;> exact h0 h
    · have : d * d = 0 := by omega
      rcases Int.mul_eq_zero.1 this with h | h <;> exact h0 h
  have q1 := hS.quo hP hp (by omega)
  have q2 := hT.quo hP hp (by omega)
  obtain ⟨q, eq, hq⟩ := q1.narrow (fop_lt64 _ _ _) (by omega)
  obtain ⟨t, et, ht⟩ := q2.narrow (fop_lt64 _ _ _) (by omega)
  exact ⟨q, t, hq, ht, fun w => QuotientOf_calls _ _ _ _ _ _ h1.nn h2.nn h3.nn h4.nn hm H q1.nn q2.nn eq et w⟩
/-! one whole number from -200 to 200 -/
def oneB (i : Nat) : Bool :=
  (floatToIntVal .f32 (floatOfInt .f32 ((i : Int) - 200)) .i64 == some ((i : Int) - 200)) && !nan .f32 (fop .mul .f32 (floatOfInt .f32 ((i : Int) - 200)) 1073741824) && !nan .f32 (fop .add .f32 (floatOfInt .f32 ((i : Int) - 200)) (floatOfInt .f32 ((i : Int) - 200))) &&
  (FloatKind.f32.format.order (fop .mul .f32 (floatOfInt .f32 ((i : Int) - 200)) 1073741824) (fop .add .f32 (floatOfInt .f32 ((i : Int) - 200)) (floatOfInt .f32 ((i : Int) - 200))) == some Ordering.eq)
theorem one_all : (List.range 401).all oneB = true := by decide +kernel
structure OneAt (z : Int) : Prop where
  toI : floatToIntVal .f32 (floatOfInt .f32 z) .i64 = some z
  nm : nan .f32 (fop .mul .f32 (floatOfInt .f32 z) 1073741824) = false
  na : nan .f32 (fop .add .f32 (floatOfInt .f32 z) (floatOfInt .f32 z)) = false
  same : (FloatKind.f32.format.order (fop .mul .f32 (floatOfInt .f32 z) 1073741824) (fop .add .f32 (floatOfInt .f32 z) (floatOfInt .f32 z)) == some Ordering.eq) = true
theorem oneAt {z : Int} (h : z.natAbs ≤ 200) : OneAt z := by
  obtain ⟨i, rfl⟩ : ∃ i : Nat, z = (i : Int) - 200 := ⟨(z + 200).toNat, by omega⟩
  have := List.all_eq_true.1 one_all i (List.mem_range.2 (by omega))
  unfold oneB at this
  rw [Bool.and_eq_true, Bool.and_eq_true, Bool.and_eq_true] at this
  obtain ⟨⟨⟨h1, h2⟩, h3⟩, h4⟩ := this
  exact ⟨eq_of_beq h1, by simpa only [Bool.not_eq_true'] using h2, by simpa only [Bool.not_eq_true'] using h3, h4⟩
end Go.Proofs.YtkbfhooiloaokaaGreatDoor.Num
/-
  The reference's source of choices: a struct of three cells that is read and moved on.
-/
namespace Go.Proofs.YtkbfhooiloaokaaGreatDoor.Num
open Go.RowKit Go.Proofs.Fl
set_option linter.unusedVariables false
/-- block g is a source over the bytes xs, a steps on -/
structure SrcIs (w : World) (g : Nat) (A : Option Addr) (n c : Nat) (xs : List Int) (a : Nat) : Prop where
  lt : g < w.heap.size
  len : xs.length = n
  byte : ∀ z ∈ xs, 0 ≤ z ∧ z ≤ 255
  bytes : Rd w g A (xs.map (Value.int .u8))
  own : ∃ s : Nat, s < 18446744073709551616 ∧ w.ownsRow g 87 3 (.slice (some ⟨g, 0, none⟩) 1 1) 1 [.slice A n c, .int .i64 (a : Int), .int .u64 (s : Int)]
/-- what a choice leaves: the source at most k steps on, all else as it was -/
structure SrcTo (w : World) (g : Nat) (A : Option Addr) (n c : Nat) (xs : List Int) (a k : Nat) (w' : World) : Prop where
  src : ∃ a', a' ≤ a + k ∧ SrcIs w' g A n c xs a'
  kept : Kept w w' [some g]
theorem SrcTo.trans {w w1 w2 : World} {g : Nat} {A : Option Addr} {n c : Nat} {xs : List Int} {a a1 k l : Nat} (h : SrcTo w g A n c xs a k w1) (hk : Kept w1 w2 [some g]) (h2 : ∃ a', a' ≤ a + l ∧ SrcIs w2 g A n c xs a') : SrcTo w g A n c xs a l w2 :=
  ⟨h2, h.kept.trans hk⟩
/-- returned a number below N -/
def RetPick (N g : Nat) (A : Option Addr) (n c : Nat) (xs : List Int) (a k : Nat) (w : World) (e : Ending) (w' : World) : Prop := (∃ i : Nat, i < N ∧ e = .returned (.int .i64 (i : Int))) ∧ SrcTo w g A n c xs a k w'
theorem shr_and (z : Nat) (h : z < 18446744073709551616) : ∃ b : Nat, b < 256 ∧ bits .and .u64 ((z : Int) / 1099511627776) 255 = (b : Int) := by
  have e : ((z : Int) / 1099511627776) = ((z / 1099511627776 : Nat) : Int) := by
    have := Int.natCast_ediv z 1099511627776
    rw [this]
    rfl
  have hle : z / 1099511627776 ≤ z := Nat.div_le_self _ _
  refine ⟨z / 1099511627776 &&& 255, ?_, ?_⟩
  · exact Nat.lt_of_le_of_lt Nat.and_le_right (by decide)
  · rw [e]
    exact bits_and_u64_nat (z / 1099511627776) 255 (by omega) (by omega)
theorem src_kept {w : World} {g : Nat} {A : Option Addr} {n c : Nat} {xs : List Int} {a a' s : Nat} (h : SrcIs w g A n c xs a) (hs : s < 18446744073709551616) :
    SrcIs ((w.setCell ⟨g, 1, none⟩ (.int .i64 (a' : Int))).setCell ⟨g, 2, none⟩ (.int .u64 (s : Int))) g A n c xs a' ∧ Kept w ((w.setCell ⟨g, 1, none⟩ (.int .i64 (a' : Int))).setCell ⟨g, 2, none⟩ (.int .u64 (s : Int))) [some g] := by
  have hk := ((Kept.refl w [some g]).set (p := ⟨g, 1, none⟩) (by simp) (.int .i64 (a' : Int))).set (p := ⟨g, 2, none⟩) (by simp) (.int .u64 (s : Int))
  obtain ⟨s0, _, ho⟩ := h.own
  have h1 := (World.ownsRow.stored ho 1 (.int .i64 (a' : Int))).1
  have h2 := (World.ownsRow.stored h1 2 (.int .u64 (s : Int))).1
  refine ⟨⟨Nat.lt_of_lt_of_le h.lt hk.size, h.len, h.byte, ?_, s, hs, h2⟩, hk⟩
  rcases h.bytes with h0 | ⟨b, o, rfl, hb, hc⟩
  · exact .inl h0
  · exact .inr ⟨b, o, rfl, hb, fun j u hj => by
      rw [hk.cell (Nat.lt_trans hb h.lt) (by
        intro r hr e
        simp only [List.mem_cons, List.not_mem_nil, or_false] at hr
        rw [hr] at e
        cases e
        omega) (o + j)]
      exact hc j u hj⟩
theorem SrcIs.drewN {w : World} {g : Nat} {A : Option Addr} {n c : Nat} {xs : List Int} {a : Nat} (h : SrcIs w g A n c xs a) (m : Nat) : SrcIs (w.drewN m) g A n c xs a := ⟨h.lt, h.len, h.byte, h.bytes, h.own⟩
theorem Kept.drewN {w w' : World} {R : List (Option Nat)} (h : Kept w w' R) (m : Nat) : Kept w (w'.drewN m) R := ⟨h.os, h.tape, h.output, h.size, h.block⟩
theorem u64w (z : Int) : ∃ m : Nat, m < 18446744073709551616 ∧ IntKind.u64.wrap z = (m : Int) := by
  refine ⟨(IntKind.u64.wrap z).toNat, ?_, ?_⟩
  · rw [IntKind.wrap_u64]; omega
  · rw [IntKind.wrap_u64]; omega
theorem u64and (z : Int) : ∃ i : Nat, i < 256 ∧ wrap64 (bits .and .u64 (IntKind.u64.wrap z / 1099511627776) 255) = (i : Int) := by
  obtain ⟨m, hm, em⟩ := u64w z
  obtain ⟨i, hi, ei⟩ := shr_and m hm
  refine ⟨i, hi, ?_⟩
  rw [em, ei]
  unfold wrap64
  omega
theorem src_done {w : World} {g : Nat} {A : Option Addr} {n c : Nat} {xs : List Int} {a N m1 m2 : Nat} {z : Int} {e : Ending} (h : SrcIs w g A n c xs a) (hi : ∃ i : Nat, i < N ∧ e = .returned (.int .i64 (i : Int))) :
    RetPick N g A n c xs a 1 w e ((((w.drewN m1).setCell ⟨g, 1, none⟩ (.int .i64 ((a : Int) + 1))).setCell ⟨g, 2, none⟩ (.int .u64 (IntKind.u64.wrap z))).drewN m2) := by
  obtain ⟨s, hs, es⟩ := u64w z
  rw [es]
  obtain ⟨h1, h2⟩ := src_kept (a' := a + 1) (h.drewN m1) hs
  exact ⟨hi, ⟨a + 1, Nat.le_refl _, h1.drewN m2⟩, ((Kept.refl w _).drewN m1).trans (h2.drewN m2)⟩
set_option maxRecDepth 100000 in
set_option maxHeartbeats 1600000 in
theorem next_calls (g : Nat) (A : Option Addr) (n c : Nat) (xs : List Int) (a : Nat) (ha : a < 1000000000) (hn : n ≤ maxLen) (w : World) (h : SrcIs w g A n c xs a) :
    Calls Tryz.prog 68 #[.pointer (some ⟨g, 0, none⟩)] w (RetPick 256 g A n c xs a 1 w) := by
  have H := hid h
  have hlt := h.lt
  obtain ⟨s, hs, ho⟩ := h.own
  have c0 := World.ownsRow.cellAt ho 0 (by decide)
  have c1 := World.ownsRow.cellAt ho 1 (by decide)
  have c2 := World.ownsRow.cellAt ho 2 (by decide)
  have f1 := World.ownsRow.frozenAt ho 1
  have f2 := World.ownsRow.frozenAt ho 2
  simp only [List.getElem?_cons_zero, List.getElem?_cons_succ] at c0 c1 c2
  unfold maxLen at hn
  clear ho
  by_cases hin : a < n
  · have hkx : a < xs.length := by have := h.len; omega
    have h8 := h.byte _ (List.getElem_mem hkx)
    rcases h.bytes with h0 | ⟨b, o, rfl, hb, hc⟩
    · have : (xs.map (Value.int .u8)).length = 0 := by rw [h0]; rfl
      rw [List.length_map] at this
      omega
    · have hc1 := hc a (.int .u8 xs[a]) (by rw [List.getElem?_map, List.getElem?_eq_getElem hkx]; rfl)
      generalize xs[a] = z at *
      obtain ⟨u, rfl⟩ : ∃ u : Nat, z = (u : Int) := ⟨z.toNat, by omega⟩
      clear hc h hkx
      have hin' : (a : Int) < (n : Int) := by omega
      go_enter Tryz.func68, Tryz.ntmps68
      go_wp2
      go_quiet (fail)
      go_wp2
      go_quiet (fail)
      go_wp2
      go_quiet (fail)
      go_wp2
      go_ret
      exact src_done H.out ⟨u, by omega, rfl⟩
  · clear h
    have hin' : ((a : Int) < (n : Int)) = False := by simp; omega
    go_enter Tryz.func68, Tryz.ntmps68
    go_wp2
    go_quiet (fail)
    go_wp2
    go_quiet (fail)
    go_wp2
    go_ret
    obtain ⟨i, hi, ei⟩ := u64and (IntKind.u64.wrap (IntKind.u64.wrap ((s : Int) * 6364136223846793005)) + 1442695040888963407)
    refine src_done H.out ⟨i, hi, ?_⟩
    rw [← ei]
    rfl
theorem tmod_nat (x N : Nat) : ((x : Int)).tmod (N : Int) = ((x % N : Nat) : Int) := rfl
set_option maxRecDepth 100000 in
set_option maxHeartbeats 1600000 in
theorem pick_calls (N g : Nat) (A : Option Addr) (n c : Nat) (xs : List Int) (a : Nat) (ha : a < 900000000) (hn : n ≤ maxLen) (h1 : 1 < N) (hN : N ≤ 65536) (w : World) (h : SrcIs w g A n c xs a) :
    Calls Tryz.prog 39 #[.pointer (some ⟨g, 0, none⟩), .int .i64 (N : Int)] w (RetPick N g A n c xs a 2 w) := by
  have HC := hid (next_calls g A n c xs a (by omega) hn w h)
  have HM := hid (fun x : Nat => Nat.mod_lt x (show 0 < N by omega))
  have HN := hid hn
  clear h hn
  by_cases h200 : N ≤ 200
  · go_enter Tryz.func39, Tryz.ntmps39
    go_wp2_with fail
    refine HC.out.mono ?_
    rintro e w1 ⟨⟨i, hi, rfl⟩, ⟨a1, ha1, hs1⟩, hk1⟩
    have HS := hid hs1
    have HK := hid hk1
    clear hs1 hk1 HC
    go_wp2
    go_ret
    exact ⟨⟨i % N, HM.out i, rfl⟩, ⟨a1, by omega, HS.out⟩, HK.out⟩
  · go_enter Tryz.func39, Tryz.ntmps39
    go_wp2_with fail
    refine HC.out.mono ?_
    rintro e w1 ⟨⟨i, hi, rfl⟩, ⟨a1, ha1, hs1⟩, hk1⟩
    have HC2 := hid (next_calls g A n c xs a1 (by omega) HN.out w1 hs1)
    have HK := hid hk1
    clear hs1 hk1 HC
    go_wp2_with fail
    refine HC2.out.mono ?_
    rintro e w2 ⟨⟨j, hj, rfl⟩, ⟨a2, ha2, hs2⟩, hk2⟩
    have HS := hid hs2
    have HK2 := hid (HK.out.trans hk2)
    clear hs2 hk2 HC2 HK
    go_wp2
    go_ret
    exact ⟨⟨(i * 256 + j) % N, HM.out _, rfl⟩, ⟨a2, by omega, HS.out⟩, HK2.out⟩
/-- returned a truth -/
def RetOne (g : Nat) (A : Option Addr) (n c : Nat) (xs : List Int) (a k : Nat) (w : World) (e : Ending) (w' : World) : Prop := (∃ b : Bool, e = .returned (.bool b)) ∧ SrcTo w g A n c xs a k w'
theorem one_calls (N g : Nat) (A : Option Addr) (n c : Nat) (xs : List Int) (a : Nat) (ha : a < 900000000) (hn : n ≤ maxLen) (h1 : 1 < N) (hN : N ≤ 65536) (w : World) (h : SrcIs w g A n c xs a) :
    Calls Tryz.prog 51 #[.pointer (some ⟨g, 0, none⟩), .int .i64 (N : Int)] w (RetOne g A n c xs a 2 w) := by
  have HC := hid (pick_calls N g A n c xs a ha hn h1 hN w h)
  clear h hn
  go_enter Tryz.func51, Tryz.ntmps51
  go_wp2_with fail
  refine HC.out.mono ?_
  rintro e w1 ⟨⟨i, hi, rfl⟩, ⟨a1, ha1, hs1⟩, hk1⟩
  have HS := hid hs1
  have HK := hid hk1
  clear hs1 hk1 HC
  go_wp2
  go_ret
  exact ⟨⟨_, rfl⟩, ⟨a1, by omega, HS.out⟩, HK.out⟩
/-- a new source over bytes -/
def RetSrc (A : Option Addr) (n c : Nat) (xs : List Int) (w : World) (e : Ending) (w' : World) : Prop := ∃ g, w.heap.size ≤ g ∧ e = .returned (.pointer (some ⟨g, 0, none⟩)) ∧ SrcIs w' g A n c xs 0 ∧ Below w.heap.size w w'
theorem l00From_calls (A : Option Addr) (n c : Nat) (xs : List Int) (hx : xs.length = n) (h8 : ∀ z ∈ xs, 0 ≤ z ∧ z ≤ 255) (w : World) (ha : Rd w w.heap.size A (xs.map (Value.int .u8))) :
    Calls Tryz.prog 38 #[.slice A n c] w (RetSrc A n c xs w) := by
  have HX := hid hx
  have H8 := hid h8
  have HA := hid ha
  clear hx h8 ha
  go_enter Tryz.func38, Tryz.ntmps38
  go_wp2
  go_ret
  refine ⟨w.heap.size, Nat.le_refl _, rfl, ⟨by simp, HX.out, H8.out, ?_, 0, by decide, ?_⟩, (Below.refl _ _).alloc (Nat.le_refl _) _⟩
  · exact HA.out.below ((Below.refl _ _).alloc (Nat.le_refl _) _)
  · exact ⟨by simp, .inr ⟨w.heap.size, 1, _, rfl, Nat.le_refl _, heap_alloc_new w _, Nat.le_refl _, by simp [maxLen], by simp, by simp⟩⟩
end Go.Proofs.YtkbfhooiloaokaaGreatDoor.Num
/-
  The reference's draws of float32: l01DrawPlain, l01DrawFloat.
-/
namespace Go.Proofs.YtkbfhooiloaokaaGreatDoor.Num
open Go.RowKit Go.Proofs.Fl
set_option linter.unusedVariables false
theorem lFrom_calls (n : Nat) (hn : n < 4294967296) (w : World) : Calls Tryz.prog 52 #[.int .i64 (n : Int)] w (fun e w' => e = .returned (.float .f32 n) ∧ w' = w) := by
  have hw : IntKind.u32.wrap (n : Int) = (n : Int) := by rw [IntKind.wrap_u32]; omega
  go_enter Tryz.func52, Tryz.ntmps52
  go_wp2
  go_ret
  exact ⟨rfl, rfl⟩
theorem SrcIs.step {w w' : World} {g : Nat} {A : Option Addr} {n c : Nat} {xs : List Int} {a : Nat} (h : SrcIs w g A n c xs a) (hb : Below w.heap.size w w') : SrcIs w' g A n c xs a := by
  obtain ⟨s, hs, ho⟩ := h.own
  exact ⟨Nat.lt_of_lt_of_le h.lt hb.size, h.len, h.byte, by
    rcases h.bytes with h0 | ⟨b, o, rfl, hbb, hc⟩
    · exact .inl h0
    · exact .inr ⟨b, o, rfl, hbb, fun j u hj => by
        rw [World.cell?_of_block (w := w) (hb.block b (Nat.lt_trans hbb h.lt))]
        exact hc j u hj⟩, s, hs, own_keep ho (hb.block g h.lt)⟩
theorem Kept.alloc {w w' : World} {R : List (Option Nat)} (h : Kept w w' R) (o : Obj) : Kept w (w'.alloc o) R :=
  h.trans (Kept.of_below ((Below.refl _ _).alloc (Nat.le_refl _) o) R)
/-- returned one of the list -/
def RetAmong (zs : List Nat) (g : Nat) (A : Option Addr) (n c : Nat) (xs : List Int) (a k : Nat) (w : World) (e : Ending) (w' : World) : Prop := (∃ z, z ∈ zs ∧ e = .returned (.int .i64 (z : Int))) ∧ SrcTo w g A n c xs a k w'
theorem among_calls (m d b : Nat) (zs : List Nat) (hz : zs.length = m) (g : Nat) (A : Option Addr) (n c : Nat) (xs : List Int) (a : Nat) (ha : a < 900000000) (hn : n ≤ maxLen) (h1 : 1 < m) (hN : m ≤ 65536) (w : World) (h : SrcIs w g A n c xs a)
    (hb : b < w.heap.size) (hg : b ≠ g) (hc : ∀ (j z : Nat), zs[j]? = some z → w.cell? ⟨b, j, none⟩ = some (.int .i64 (z : Int))) :
    Calls Tryz.prog 78 #[.pointer (some ⟨g, 0, none⟩), .slice (some ⟨b, 0, none⟩) m d] w (RetAmong zs g A n c xs a 2 w) := by
  have HC := hid (pick_calls m g A n c xs a ha hn h1 hN w h)
  have HZ := hid hz
  have HB := hid hc
  clear h hn hc hz
  go_enter Tryz.func78, Tryz.ntmps78
  go_wp2_with fail
  refine HC.out.mono ?_
  rintro e w1 ⟨⟨i, hi, rfl⟩, ⟨a1, ha1, hs1⟩, hk1⟩
  have hkx : i < zs.length := by have := HZ.out; omega
  have hc1 := HB.out i zs[i] (List.getElem?_eq_getElem hkx)
  rw [← hk1.cell hb (by
    intro r hr e
    simp only [List.mem_cons, List.not_mem_nil, or_false] at hr
    rw [hr] at e
    cases e
    exact hg rfl) i] at hc1
  have HM := hid (List.getElem_mem hkx)
  have HS := hid hs1
  have HK := hid hk1
  clear hs1 hk1 HC
  generalize zs[i] = z at *
  go_wp2
  go_ret
  exact ⟨⟨z, HM.out, rfl⟩, ⟨a1, by omega, HS.out⟩, HK.out⟩
/-! the plain draws, told -/
def plC (b : Bool) : Nat := if b then 1088421888 else 1098907648
def plT (i : Nat) (b : Bool) : Nat := fop .quo .f32 (floatOfInt .f32 ((i : Int) - 64)) (plC b)
def plB (i : Nat) (b : Bool) : Bool := !nan .f32 (plT i b) && decide (plT i b < 4294967296) && [8388608, 2130706432, 1610612736, 536870912].all fun m => !nan .f32 (fop .mul .f32 (plT i b) m) && decide (fop .mul .f32 (plT i b) m < 4294967296)
theorem pl_all : (List.range 129).all (fun i => plB i true && plB i false) = true := by decide +kernel
theorem pl_at {i : Nat} (h : i < 129) (b : Bool) : nan .f32 (plT i b) = false ∧ plT i b < 4294967296 ∧ ∀ m ∈ [8388608, 2130706432, 1610612736, 536870912], nan .f32 (fop .mul .f32 (plT i b) m) = false ∧ fop .mul .f32 (plT i b) m < 4294967296 := by
  have h0 := List.all_eq_true.1 pl_all i (List.mem_range.2 h)
  rw [Bool.and_eq_true] at h0
  have h1 : plB i b = true := by cases b; exact h0.2; exact h0.1
  unfold plB at h1
  simp only [Bool.and_eq_true, Bool.not_eq_true', decide_eq_true_eq, List.all_eq_true] at h1
  exact ⟨h1.1.1, h1.1.2, h1.2⟩
def RetPlain (g : Nat) (A : Option Addr) (n c : Nat) (xs : List Int) (a k : Nat) (w : World) (e : Ending) (w' : World) : Prop := (∃ i b, i < 129 ∧ e = .returned (.float .f32 (plT i b))) ∧ SrcTo w g A n c xs a k w'
set_option maxHeartbeats 800000 in
theorem plain_calls (g : Nat) (A : Option Addr) (n c : Nat) (xs : List Int) (a : Nat) (ha : a < 800000000) (hn : n ≤ maxLen) (w : World) (h : SrcIs w g A n c xs a) :
    Calls Tryz.prog 77 #[.pointer (some ⟨g, 0, none⟩)] w (RetPlain g A n c xs a 4 w) := by
  have HC := hid (pick_calls 129 g A n c xs a (by omega) hn (by decide) (by decide) w h)
  have HN := hid hn
  clear h hn
  go_enter Tryz.func77, Tryz.ntmps77
  go_wp2_with fail
  refine HC.out.mono ?_
  rintro e w1 ⟨⟨i, hi, rfl⟩, ⟨a1, ha1, hs1⟩, hk1⟩
  have HC2 := hid (one_calls 4 g A n c xs a1 (by omega) HN.out (by decide) (by decide) w1 hs1)
  have HK := hid hk1
  clear hs1 hk1 HC
  go_wp2_with fail
  refine HC2.out.mono ?_
  rintro e w2 ⟨⟨b, rfl⟩, ⟨a2, ha2, hs2⟩, hk2⟩
  have HS := hid hs2
  have HK2 := hid (HK.out.trans hk2)
  clear hs2 hk2 HC2 HK
  have q := fun w => run_fop_det (P := Tryz.prog) (show nan .f32 (fop .quo .f32 (floatOfInt .f32 ((i : Int) - 64)) (plC b)) = false from (pl_at hi b).1) 28 w
  rw [show fop .quo .f32 (floatOfInt .f32 ((i : Int) - 64)) (plC b) = plT i b from rfl] at q
  have HT : Hid (∃ b', plT i b = plT i b') := hid ⟨b, rfl⟩
  cases b
  · unfold plC at q
    simp only [Bool.false_eq_true, if_false] at q
    generalize plT i false = x at *
    go_wp2
    go_ret
    obtain ⟨b', e⟩ := HT.out
    exact ⟨⟨i, b', hi, by rw [← e]; rfl⟩, ⟨a2, by omega, HS.out⟩, HK2.out⟩
  · unfold plC at q
    simp only [if_true] at q
    generalize plT i true = x at *
    go_wp2
    go_ret
    obtain ⟨b', e⟩ := HT.out
    exact ⟨⟨i, b', hi, by rw [← e]; rfl⟩, ⟨a2, by omega, HS.out⟩, HK2.out⟩
/-- returned a float32 -/
def RetDraw (g : Nat) (A : Option Addr) (n c : Nat) (xs : List Int) (a k : Nat) (w : World) (e : Ending) (w' : World) : Prop := (∃ x : Nat, x < 4294967296 ∧ e = .returned (.float .f32 x)) ∧ SrcTo w g A n c xs a k w'
theorem i64_cells (zs : List Nat) (w : World) (T : Nat) : ∀ (j z : Nat), zs[j]? = some z → (w.alloc (.cells (zs.map fun (z : Nat) => Value.int .i64 (z : Int)).toArray T)).cell? ⟨w.heap.size, j, none⟩ = some (.int .i64 (z : Int)) := by
  intro j z h
  rw [cell_of_row _ w.heap.size j _ _ _ (heap_alloc_new w _)]
  simp [h]
def amA : List Nat := [0, 2147483648, 2139095040, 4286578688, 2143289344, 1, 2139095039, 8388608, 8388607, 2147483649]
def amB : List Nat := [8388608, 2130706432, 1610612736, 536870912]
theorem amA_lt : ∀ z ∈ amA, z < 4294967296 := by decide
theorem amB_lt : ∀ z ∈ amB, z < 4294967296 := by decide
set_option maxRecDepth 100000 in
set_option maxHeartbeats 3200000 in
theorem float_calls (g : Nat) (A : Option Addr) (n c : Nat) (xs : List Int) (a : Nat) (ha : a < 700000000) (hn : n ≤ maxLen) (w : World) (h : SrcIs w g A n c xs a) :
    Calls Tryz.prog 53 #[.pointer (some ⟨g, 0, none⟩)] w (RetDraw g A n c xs a 12 w) := by
  have HC := hid (one_calls 12 g A n c xs a (by omega) hn (by decide) (by decide) w h)
  have HN := hid hn
  clear h hn
  go_enter Tryz.func53, Tryz.ntmps53
  go_wp2_with fail
  refine HC.out.mono ?_
  rintro e w1 ⟨⟨b, rfl⟩, ⟨a1, ha1, hs1⟩, hk1⟩
  have HS1 := hid hs1
  have HK := hid hk1
  clear hs1 hk1 HC
  cases b
  · have HC := hid (plain_calls g A n c xs a1 (by omega) HN.out w1 HS1.out)
    go_wp2_with fail
    refine HC.out.mono ?_
    rintro e w2 ⟨⟨i, b, hi, rfl⟩, ⟨a2, ha2, hs2⟩, hk2⟩
    have HS := hid hs2
    have HK2 := hid (HK.out.trans hk2)
    have HX := hid (pl_at hi b).2.1
    clear hs2 hk2 HC HK
    generalize plT i b = x at *
    go_wp2
    go_ret
    exact ⟨⟨x, HX.out, rfl⟩, ⟨a2, by omega, HS.out⟩, HK2.out⟩
  · have HC := hid (pick_calls 4 g A n c xs a1 (by omega) HN.out (by decide) (by decide) w1 HS1.out)
    go_wp2_with fail
    refine HC.out.mono ?_
    rintro e w2 ⟨⟨q, hq, rfl⟩, ⟨a2, ha2, hs2⟩, hk2⟩
    have HS := hid hs2
    have HK2 := hid (HK.out.trans hk2)
    clear hs2 hk2 HC HK HS1
    rcases (show q = 0 ∨ q = 1 ∨ q = 2 ∨ q = 3 by omega) with rfl | rfl | rfl | rfl
    · go_wp2_with fail
      refine (among_calls 10 10 w2.heap.size amA rfl g A n c xs a2 (by omega) HN.out (by decide) (by decide) _ (HS.out.step ((Below.refl _ _).alloc (Nat.le_refl _) _)) (by simp) (by have := HS.out.lt; omega) (fun j z hj => i64_cells amA w2 2 j z hj)).mono ?_
      rintro e w3 ⟨⟨z, hz, rfl⟩, ⟨a3, ha3, hs3⟩, hk3⟩
      have HS3 := hid hs3
      have HK3 := hid ((HK2.out.alloc _).trans hk3)
      have HF := hid (lFrom_calls z (amA_lt z hz))
      have HX := hid (amA_lt z hz)
      clear hs3 hk3 hz
      go_wp2_with fail
      refine (HF.out _).mono ?_
      rintro e w' ⟨rfl, rfl⟩
      go_wp2
      go_ret
      exact ⟨⟨z, HX.out, rfl⟩, ⟨a3, by omega, HS3.out⟩, HK3.out⟩
    · have HC := hid (pick_calls 65536 g A n c xs a2 (by omega) HN.out (by decide) (by decide) w2 HS.out)
      go_wp2_with fail
      refine HC.out.mono ?_
      rintro e w3 ⟨⟨i, hi, rfl⟩, ⟨a3, ha3, hs3⟩, hk3⟩
      have HC2 := hid (pick_calls 65536 g A n c xs a3 (by omega) HN.out (by decide) (by decide) w3 hs3)
      have HK3 := hid (HK2.out.trans hk3)
      clear hs3 hk3 HC HK2 HS
      go_wp2_with fail
      refine HC2.out.mono ?_
      rintro e w4 ⟨⟨j, hj, rfl⟩, ⟨a4, ha4, hs4⟩, hk4⟩
      have HS := hid hs4
      have HK4 := hid (HK3.out.trans hk4)
      clear hs4 hk4 HC2 HK3
      have HF := hid (lFrom_calls (i * 65536 + j) (by omega))
      go_wp2_with fail
      have HX := hid (show i * 65536 + j < 4294967296 by omega)
      refine (show Calls Tryz.prog 52 #[.int .i64 ((i : Int) * 65536 + (j : Int))] w4 _ from HF.out _).mono ?_
      rintro e w' ⟨rfl, rfl⟩
      go_wp2
      go_ret
      exact ⟨⟨_, HX.out, rfl⟩, ⟨a4, by omega, HS.out⟩, HK4.out⟩
    · have HC := hid (pick_calls 65536 g A n c xs a2 (by omega) HN.out (by decide) (by decide) w2 HS.out)
      go_wp2_with fail
      refine HC.out.mono ?_
      rintro e w3 ⟨⟨i, hi, rfl⟩, ⟨a3, ha3, hs3⟩, hk3⟩
      have HS3 := hid hs3
      have HK3 := hid (HK2.out.trans hk3)
      clear hs3 hk3 HC HK2 HS
      have HF := hid (lFrom_calls (i * 65536) (by omega))
      go_wp2_with fail
      have HX := hid (show i * 65536 < 4294967296 by omega)
      refine (show Calls Tryz.prog 52 #[.int .i64 ((i : Int) * 65536)] w3 _ from HF.out _).mono ?_
      rintro e w' ⟨rfl, rfl⟩
      go_wp2
      go_ret
      exact ⟨⟨_, HX.out, rfl⟩, ⟨a3, by omega, HS3.out⟩, HK3.out⟩
    · have HC := hid (plain_calls g A n c xs a2 (by omega) HN.out w2 HS.out)
      go_wp2_with fail
      refine HC.out.mono ?_
      rintro e w3 ⟨⟨i, b, hi, rfl⟩, ⟨a3, ha3, hs3⟩, hk3⟩
      have HS3 := hid hs3
      have HK3 := hid (HK2.out.trans hk3)
      have HX := hid (pl_at hi b).2.2
      clear hs3 hk3 HC HK2 HS
      generalize plT i b = x at *
      go_wp2_with fail
      refine (among_calls 4 4 w3.heap.size amB rfl g A n c xs a3 (by omega) HN.out (by decide) (by decide) _ (HS3.out.step ((Below.refl _ _).alloc (Nat.le_refl _) _)) (by simp) (by have := HS3.out.lt; omega) (fun j z hj => i64_cells amB w3 2 j z hj)).mono ?_
      rintro e w4 ⟨⟨z, hz, rfl⟩, ⟨a4, ha4, hs4⟩, hk4⟩
      have HS4 := hid hs4
      have HK4 := hid ((HK3.out.alloc _).trans hk4)
      have HF := hid (lFrom_calls z (amB_lt z hz))
      have HX2 := hid (HX.out z hz).2
      have q := fun w => run_fop_det (P := Tryz.prog) (HX.out z hz).1 28 w
      clear hs4 hk4 hz HX
      generalize fop .mul .f32 x z = y at *
      go_wp2_with fail
      refine (HF.out _).mono ?_
      rintro e w' ⟨rfl, rfl⟩
      go_wp2
      go_ret
      exact ⟨⟨y, HX2.out, rfl⟩, ⟨a4, by omega, HS4.out⟩, HK4.out⟩
end Go.Proofs.YtkbfhooiloaokaaGreatDoor.Num
/-
  The reference's draws of lists of float32: l01DrawFloats, B10Number, B10Numbers.
-/
namespace Go.Proofs.YtkbfhooiloaokaaGreatDoor.Num
open Go.RowKit Go.Proofs.Fl
set_option linter.unusedVariables false
theorem own_kept {w w' : World} {B e k c g : Nat} {A : Option Addr} {xs : List Value} (h : w.ownsRow B e 1 (.slice A k c) k xs) (hk : Kept w w' [some g]) (hg : g < B) : w'.ownsRow B e 1 (.slice A k c) k xs := by
  refine ⟨h.1, ?_⟩
  rcases h.2 with h0 | ⟨g', cap, cur, hv, hb, hh, rest⟩
  · exact .inl h0
  · have hlt : g' < w.heap.size := by
      rcases Nat.lt_or_ge g' w.heap.size with h | h
      · exact h
      · rw [Array.getElem?_eq_none h] at hh; cases hh
    refine .inr ⟨g', cap, cur, hv, hb, ?_, rest⟩
    rw [hk.block g' hlt (by
      intro r hr e
      simp only [List.mem_cons, List.not_mem_nil, or_false] at hr
      rw [hr] at e
      cases e
      omega)]
    exact hh
theorem SrcIs.stepB {w w' : World} {B g : Nat} {A : Option Addr} {n c : Nat} {xs : List Int} {a : Nat} (h : SrcIs w g A n c xs a) (hb : Below B w w') (hg : g < B) : SrcIs w' g A n c xs a := by
  obtain ⟨s, hs, ho⟩ := h.own
  exact ⟨Nat.lt_of_lt_of_le h.lt hb.size, h.len, h.byte, by
    rcases h.bytes with h0 | ⟨b, o, rfl, hbb, hc⟩
    · exact .inl h0
    · exact .inr ⟨b, o, rfl, hbb, fun j u hj => by
        rw [World.cell?_of_block (w := w) (hb.block b (Nat.lt_trans hbb hg))]
        exact hc j u hj⟩, s, hs, own_keep ho (hb.block g hg)⟩
theorem Kept.below_after {w w1 w2 : World} {R : List (Option Nat)} (h : Kept w w1 R) (hb : Below w.heap.size w1 w2) : Kept w w2 R :=
  ⟨hb.os.trans h.os, hb.tape.trans h.tape, hb.output.trans h.output, Nat.le_trans h.size hb.size, fun b hlt hr => (hb.block b hlt).trans (h.block b hlt hr)⟩
theorem grown_belowB {wr w' : World} {B : Nat} {o : Obj} {A : Option Addr} {k c : Nat} {xs : List Value} {e : Nat} (hB : B ≤ wr.heap.size) (ho : wr.ownsRow B e 1 (.slice A k c) k xs) (hg : (wr.alloc o).grownBy w' (Value.slice A k c).ownBlock) : Below B wr w' :=
  ((Below.refl B wr).alloc hB o).grown hg (by simp; omega) fun k hk => (World.ownsRow.lt ho k hk).1
/-- returned a new list of n float32 -/
def RetDraws (g : Nat) (A : Option Addr) (n c : Nat) (xs : List Int) (m : Nat) (w : World) (e : Ending) (w' : World) : Prop :=
  ∃ A1 c1 ys, ys.length = m ∧ (∀ y ∈ ys, y < 4294967296) ∧ e = .returned (.slice A1 m c1) ∧ w'.ownsRow w.heap.size 28 1 (.slice A1 m c1) m (f32s ys) ∧ Kept w w' [some g]
set_option maxRecDepth 100000 in
set_option maxHeartbeats 3200000 in
theorem floats_calls (m g : Nat) (A : Option Addr) (n c : Nat) (xs : List Int) (hn : n ≤ maxLen) (hm : m ≤ 1000) (w : World) (h : SrcIs w g A n c xs 0) :
    Calls Tryz.prog 64 #[.pointer (some ⟨g, 0, none⟩), .int .i64 (m : Int)] w (RetDraws g A n c xs m w) := by
  obtain ⟨i0, hi0, hz0, hz1, hz2⟩ := info_parts1 f32_info
  have hgB := h.lt
  have HN := hid hn
  have HS0 := hid (h.step ((Below.refl w.heap.size w).alloc (Nat.le_refl _) (.cells #[] 28)))
  have HC := hid (one_calls 4 g A n c xs 0 (by omega) hn (by decide) (by decide) (w.alloc (.cells #[] 28)) HS0.out)
  have HO0 := hid (own_none (w := w) (base := w.heap.size) (e := 28) (Nat.le_refl _))
  have HK0 := hid ((Kept.refl w [some g]).alloc (.cells #[] 28))
  clear h hn
  go_enter Tryz.func64, Tryz.ntmps64
  go_wp2_with fail
  refine HC.out.mono ?_
  rintro e w1 ⟨⟨b, rfl⟩, ⟨a1, ha1, hs1⟩, hk1⟩
  have HS1 := hid hs1
  have HK1 := hid (HK0.out.trans hk1)
  have HO1 := hid (own_kept HO0.out hk1 hgB)
  clear hs1 hk1 HC HK0 HO0 HS0
  go_wp2_with fail
  go_loopw [1, 5] (fun q o wr => ∃ (k c3 a3 : Nat) (A3 : Option Addr) (ys : List Nat), k ≤ m ∧ a3 ≤ 2 + 12 * k ∧ q = .int .i64 ((m : Int) - (k : Int)) ∧ o = .slice A3 k c3 ∧ Hid (∀ y ∈ ys, y < 4294967296) ∧ Hid (wr.ownsRow w.heap.size 28 1 (.slice A3 k c3) k (f32s ys)) ∧ Hid (SrcIs wr g A n c xs a3) ∧ Hid (Kept w wr [some g])) (fun q _ _ => (intOf q).toNat)
  case atStart => exact ⟨0, 0, a1, _, [], Nat.zero_le _, by omega, by simp, rfl, hid (by simp), HO1, HS1, HK1⟩
  case round =>
    obtain ⟨k, c3, a3, A3, ys, hk, ha3, rfl, rfl, hys, hown, hsrc, hkept⟩ := hrel
    clear HS1 HK1 HO1
    by_cases hlt : k < m
    · have hc0 : (0 : Int) < (m : Int) - (k : Int) := by omega
      cases b
      · have HC := hid (plain_calls g A n c xs a3 (by omega) HN.out wr hsrc.out)
        go_wp2_with fail
        refine HC.out.mono ?_
        rintro e w2 ⟨⟨i, b, hi, rfl⟩, ⟨a2, ha2, hs2⟩, hk2⟩
        have HX := hid (pl_at hi b).2.1
        generalize plT i b = x at *
        have HS2 := hid hs2
        have HO2 := hid (own_kept hown.out hk2 hgB)
        have HK2 := hid (hkept.out.trans hk2)
        have hsz := HK2.out.size
        clear hs2 hk2 HC hown hsrc hkept
        go_wp2_with (at_builtin; refine wpList_append_lies _ rfl _ _ 52 rfl w.heap.size 28 i0 (Value.float .f32 0) 1 4 Tryz.underlying52 hi0 hz0 hz1 hz2 rfl (by decide) (.slice A3 k c3) k (f32s ys) rfl (HO2.out.alloc _) ⟨_, 0, none⟩ 1 1 [.float .f32 x] rfl rfl (any_new _ _ _) (f32s_oneCell [x]) (by decide) (by unfold maxLen; omega) (by omega) (by simp; omega) _ rfl ?_; intro g2 c4 w5 hown3 hgrow hat hlt2; rw [f32s_snoc] at hown3; have OW2 := hid hown3; have BL2 := hid (grown_belowB hsz HO2.out hgrow); clear hown3 hgrow hat hlt2)
        go_roundw
        case rel =>
          refine ⟨k + 1, c4, a2, _, ys ++ [x], hlt, by omega, by go_num, rfl, ?_, OW2, hid (HS2.out.stepB BL2.out hgB), hid (HK2.out.below_after BL2.out)⟩
          exact hid (by
            intro y hy
            rcases List.mem_append.1 hy with h | h
            · exact hys.out y h
            · rw [List.mem_singleton.1 h]; exact HX.out)
        case measure => simp [intOf]; omega
      · have HC := hid (float_calls g A n c xs a3 (by omega) HN.out wr hsrc.out)
        go_wp2_with fail
        refine HC.out.mono ?_
        rintro e w2 ⟨⟨x, hx, rfl⟩, ⟨a2, ha2, hs2⟩, hk2⟩
        have HX := hid hx
        have HS2 := hid hs2
        have HO2 := hid (own_kept hown.out hk2 hgB)
        have HK2 := hid (hkept.out.trans hk2)
        have hsz := HK2.out.size
        clear hs2 hk2 HC hown hsrc hkept hx
        go_wp2_with (at_builtin; refine wpList_append_lies _ rfl _ _ 52 rfl w.heap.size 28 i0 (Value.float .f32 0) 1 4 Tryz.underlying52 hi0 hz0 hz1 hz2 rfl (by decide) (.slice A3 k c3) k (f32s ys) rfl (HO2.out.alloc _) ⟨_, 0, none⟩ 1 1 [.float .f32 x] rfl rfl (any_new _ _ _) (f32s_oneCell [x]) (by decide) (by unfold maxLen; omega) (by omega) (by simp; omega) _ rfl ?_; intro g2 c4 w5 hown3 hgrow hat hlt2; rw [f32s_snoc] at hown3; have OW2 := hid hown3; have BL2 := hid (grown_belowB hsz HO2.out hgrow); clear hown3 hgrow hat hlt2)
        go_roundw
        case rel =>
          refine ⟨k + 1, c4, a2, _, ys ++ [x], hlt, by omega, by go_num, rfl, ?_, OW2, hid (HS2.out.stepB BL2.out hgB), hid (HK2.out.below_after BL2.out)⟩
          exact hid (by
            intro y hy
            rcases List.mem_append.1 hy with h | h
            · exact hys.out y h
            · rw [List.mem_singleton.1 h]; exact HX.out)
        case measure => simp [intOf]; omega
    · obtain rfl : k = m := by omega
      have hyl : ys.length = k := by have := hown.out.1; rwa [f32s_length, Nat.mul_one] at this
      go_wp2
      go_ret
      exact ⟨A3, c3, ys, hyl, hys.out, rfl, hown.out, hkept.out⟩
/-- returned a float32; what was there is as it was -/
def RetNum (w : World) (e : Ending) (w' : World) : Prop := (∃ x : Nat, x < 4294967296 ∧ e = .returned (.float .f32 x)) ∧ Below w.heap.size w w'
theorem src_below {w w1 w2 : World} {g : Nat} (hb : Below w.heap.size w w1) (hg : w.heap.size ≤ g) (hk : Kept w1 w2 [some g]) : Below w.heap.size w w2 :=
  hb.trans (hk.below hb.size (fun r hr g' e => by
    simp only [List.mem_cons, List.not_mem_nil, or_false] at hr
    rw [hr] at e
    cases e
    exact hg))
set_option maxHeartbeats 800000 in
theorem B10Number_calls (A : Option Addr) (n c : Nat) (xs : List Int) (hx : xs.length = n) (h8 : ∀ z ∈ xs, 0 ≤ z ∧ z ≤ 255) (hn : n ≤ maxLen) (w : World) (ha : Rd w w.heap.size A (xs.map (Value.int .u8))) :
    Calls Tryz.prog 19 #[.slice A n c] w (RetNum w) := by
  have HC := hid (l00From_calls A n c xs hx h8 w ha)
  have HN := hid hn
  clear hx h8 ha hn
  go_enter Tryz.func19, Tryz.ntmps19
  go_wp2_with fail
  refine HC.out.mono ?_
  rintro e w1 ⟨g, hg, rfl, hs1, hb1⟩
  have HO := hid (one_calls 2 g A n c xs 0 (by omega) HN.out (by decide) (by decide) w1 hs1)
  have HB := hid hb1
  clear hs1 hb1 HC
  go_wp2_with fail
  refine HO.out.mono ?_
  rintro e w2 ⟨⟨b, rfl⟩, ⟨a2, ha2, hs2⟩, hk2⟩
  have HS2 := hid hs2
  have HK2 := hid hk2
  clear hs2 hk2 HO
  cases b
  · have HC := hid (float_calls g A n c xs a2 (by omega) HN.out w2 HS2.out)
    go_wp2_with fail
    refine HC.out.mono ?_
    rintro e w3 ⟨⟨x, hx, rfl⟩, ⟨a3, ha3, hs3⟩, hk3⟩
    have HX := hid hx
    have HK3 := hid (HK2.out.trans hk3)
    clear hs3 hk3 HC hx
    go_wp2
    go_ret
    exact ⟨⟨x, HX.out, rfl⟩, src_below HB.out hg HK3.out⟩
  · have HC := hid (pick_calls 65536 g A n c xs a2 (by omega) HN.out (by decide) (by decide) w2 HS2.out)
    go_wp2_with fail
    refine HC.out.mono ?_
    rintro e w3 ⟨⟨i, hi, rfl⟩, ⟨a3, ha3, hs3⟩, hk3⟩
    have HC2 := hid (pick_calls 65536 g A n c xs a3 (by omega) HN.out (by decide) (by decide) w3 hs3)
    have HK3 := hid (HK2.out.trans hk3)
    clear hs3 hk3 HC HK2
    go_wp2_with fail
    refine HC2.out.mono ?_
    rintro e w4 ⟨⟨j, hj, rfl⟩, ⟨a4, ha4, hs4⟩, hk4⟩
    have HK4 := hid (HK3.out.trans hk4)
    clear hs4 hk4 HC2 HK3
    have HF := hid (lFrom_calls (i * 65536 + j) (by omega))
    have HX := hid (show i * 65536 + j < 4294967296 by omega)
    go_wp2_with fail
    refine (show Calls Tryz.prog 52 #[.int .i64 ((i : Int) * 65536 + (j : Int))] w4 _ from HF.out _).mono ?_
    rintro e w' ⟨rfl, rfl⟩
    go_wp2
    go_ret
    exact ⟨⟨_, HX.out, rfl⟩, src_below HB.out hg HK4.out⟩
/-- returned a new list of m float32; what was there is as it was -/
def RetNums (m : Nat) (w : World) (e : Ending) (w' : World) : Prop := ∃ A1 c1 ys, ys.length = m ∧ (∀ y ∈ ys, y < 4294967296) ∧ e = .returned (.slice A1 m c1) ∧ OwnV w' 28 A1 m c1 (f32s ys) ∧ Below w.heap.size w w'
theorem B10Numbers_calls (m : Nat) (hm : m ≤ 1000) (A : Option Addr) (n c : Nat) (xs : List Int) (hx : xs.length = n) (h8 : ∀ z ∈ xs, 0 ≤ z ∧ z ≤ 255) (hn : n ≤ maxLen) (w : World) (ha : Rd w w.heap.size A (xs.map (Value.int .u8))) :
    Calls Tryz.prog 29 #[.slice A n c, .int .i64 (m : Int)] w (RetNums m w) := by
  have HC := hid (l00From_calls A n c xs hx h8 w ha)
  have HN := hid hn
  clear hx h8 ha hn
  go_enter Tryz.func29, Tryz.ntmps29
  go_wp2_with fail
  refine HC.out.mono ?_
  rintro e w1 ⟨g, hg, rfl, hs1, hb1⟩
  have HF := hid (floats_calls m g A n c xs HN.out hm w1 hs1)
  have HB := hid hb1
  clear hs1 hb1 HC
  go_wp2_with fail
  refine HF.out.mono ?_
  rintro e w2 ⟨A1, c1, ys, hl, hy, rfl, ho, hk⟩
  have HL := hid hl
  have HY := hid hy
  have HO := hid (ownV_any ho).1
  have HK := hid hk
  clear hl hy ho hk
  go_wp2
  go_ret
  exact ⟨A1, c1, ys, HL.out, HY.out, rfl, HO.out, src_below HB.out hg HK.out⟩
end Go.Proofs.YtkbfhooiloaokaaGreatDoor.Num
/-
  The library's ParseUint at base 16 and 32 bits, of texts of 8 bytes, walked: there is no contract at that base.
-/
namespace Go.Proofs.YtkbfhooiloaokaaGreatDoor.Num
open Go.RowKit Go.Proofs.Fl Go.Proofs.Hx
set_option linter.unusedVariables false
set_option linter.unusedSimpArgs false
def lowOk (c : Fin 256) : Bool :=
  match digU (UInt8.ofNat c.val) with
  | some d => decide ((48 ≤ c.val ∧ c.val ≤ 57 ∧ d = c.val - 48) ∨ (¬ (48 ≤ c.val ∧ c.val ≤ 57) ∧ 97 ≤ c.val ||| 32 ∧ c.val ||| 32 ≤ 102 ∧ d = (c.val ||| 32) - 87))
  | none => decide (¬ (48 ≤ c.val ∧ c.val ≤ 57) ∧ (c.val ||| 32 < 97 ∨ 102 < c.val ||| 32))
theorem lowTab : ∀ c : Fin 256, lowOk c = true := by decide +kernel
theorem low_some {c : UInt8} {d : Nat} (h : digU c = some d) : (48 ≤ c.toNat ∧ c.toNat ≤ 57 ∧ d = c.toNat - 48) ∨ (¬ (48 ≤ c.toNat ∧ c.toNat ≤ 57) ∧ 97 ≤ c.toNat ||| 32 ∧ c.toNat ||| 32 ≤ 102 ∧ d = (c.toNat ||| 32) - 87) := by
  have := lowTab ⟨c.toNat, c.toNat_lt⟩
  unfold lowOk at this
  rw [show UInt8.ofNat c.toNat = c by simp, h] at this
  exact of_decide_eq_true this
theorem low_none {c : UInt8} (h : digU c = none) : ¬ (48 ≤ c.toNat ∧ c.toNat ≤ 57) ∧ (c.toNat ||| 32 < 97 ∨ 102 < c.toNat ||| 32) := by
  have := lowTab ⟨c.toNat, c.toNat_lt⟩
  unfold lowOk at this
  rw [show UInt8.ofNat c.toNat = c by simp, h] at this
  exact of_decide_eq_true this
theorem or32 (c : UInt8) : bits .or .u8 (c.toNat : Int) 32 = ((c.toNat ||| 32 : Nat) : Int) ∧ c.toNat ||| 32 < 256 := by
  have : ∀ c : Fin 256, bits .or .u8 ((c.val : Nat) : Int) 32 = ((c.val ||| 32 : Nat) : Int) ∧ c.val ||| 32 < 256 := by decide +kernel
  exact this ⟨c.toNat, c.toNat_lt⟩
theorem lower_is (c : Int) (w : World) : Calls Tryz.prog 106 #[.int .u8 c] w (fun e w' => e = .returned (.int .u8 (bits .or .u8 c 32)) ∧ w' = w) := by
  go_enter Tryz.func106, Tryz.ntmps106
  go_wp2
  go_ret
  exact ⟨rfl, rfl⟩
/-- how the parse ends: the number, or the form's error -/
def puEnd (o : Option Nat) : Value :=
  match o with
  | some u => .tuple #[.int .u64 (u : Int), .nilIface]
  | none => .tuple #[.int .u64 0, .iface 129 (.int .i64 2)]
set_option maxHeartbeats 32000000 in
set_option maxRecDepth 100000 in
theorem iParseUint_16 (t : ByteArray) (h8 : t.size = 8) (w : World) :
    Calls Tryz.prog 92 #[.string t, .int .i64 16, .int .i64 32] w fun e w' => e = .returned (puEnd (rdU t.data.toList)) ∧ w' = Lib.bytesWorld w 5 t := by
  have hemp : (t.toList.isEmpty) = false := by
    rw [ByteArray.toList_eq]
    have : t.data.toList.length = 8 := by simpa using h8
    cases h : t.data.toList with
    | nil => rw [h] at this; cases this
    | cons => rfl
  have hcv := Lib.run_convert_string_bytes (P := Tryz.prog) w 9 22 5 t (u := .string) Tryz.underlying9 Tryz.underlying22 Tryz.underlying5
  have hB : ∀ j, j < t.size → (Lib.bytesWorld w 5 t).cell? ⟨w.heap.size, j, none⟩ = some (.int .u8 (t.data.toList.getD j 0).toNat) := fun j hj => Lib.bytesWorld_cell w 5 t j hj
  obtain ⟨W1, hW1⟩ : ∃ W1, W1 = Lib.bytesWorld w 5 t := ⟨_, rfl⟩
  rw [← hW1] at hcv hB ⊢
  clear hW1
  obtain ⟨bs, hL⟩ : ∃ bs, bs = t.data.toList := ⟨_, rfl⟩
  have hLn : bs.length = 8 := by rw [hL]; simpa using h8
  rw [← hL] at hB ⊢
  clear hL
  rw [h8] at hcv hB
  have HB := hid hB
  clear hB
  have hmv : IntKind.u64.wrap (IntKind.u64.wrap 4294967296 - 1) = 4294967295 := by
    rw [IntKind.wrap_u64, IntKind.wrap_u64]
    decide
  unfold rdU
  go_enter Tryz.func92, Tryz.ntmps92
  go_wp2_with fail
  go_loop [12, 13, 101] (fun vu vn vi => ∃ (k acc : Nat) (a : Int), vu = .bool false ∧ vn = .int .u64 a ∧ vi = .int .i64 k ∧ k ≤ 8 ∧ Hid (a = (acc : Int) ∧ acc < 16 ^ k ∧ numBy digU 0 bs = numBy digU acc (bs.drop k)))
    (fun _ _ vi => 8 - (intOf vi).toNat)
  case atStart => exact ⟨0, 0, 0, rfl, rfl, rfl, by omega, rfl, by simp, rfl⟩
  case round =>
    obtain ⟨k, acc, a, rfl, rfl, rfl, hk, hh⟩ := hrel
    obtain ⟨ha, hacc, hdec⟩ := hh.out
    clear hh
    have a0 : 0 ≤ a := by omega
    by_cases hkn : k < 8
    · have hc := HB.out k hkn
      have hdrop : bs.drop k = bs[k]'(by omega) :: bs.drop (k + 1) := List.drop_eq_getElem_cons (by omega)
      have hget : bs.getD k 0 = bs[k]'(by omega) := by simp [List.getD, List.getElem?_eq_getElem (show k < bs.length by omega)]
      rw [hdrop] at hdec
      rw [hget] at hc
      generalize bs[k]'(by omega) = c at hc hdec
      have hc256 : c.toNat < 256 := c.toNat_lt
      obtain ⟨ho, ho256⟩ := or32 c
      simp only [numBy] at hdec
      cases hd : digU c with
      | some d =>
        rw [hd] at hdec
        have hs := low_some hd
        have h95 : 97 ≤ c.toNat ||| 32 → c.toNat ||| 32 ≤ 102 → ¬ (c.toNat : Int) = 95 := by
          intro _ h2 e
          have e2 : c.toNat = 95 := by omega
          rw [e2] at h2
          exact absurd h2 (by decide)
        have hnx : 16 * acc + d < 16 ^ (k + 1) := by
          have := digU_lt hd
          rw [Nat.pow_succ]
          omega
        have hp8 : 16 ^ (k + 1) ≤ 4294967296 := Nat.le_trans (Nat.pow_le_pow_right (by decide) (show k + 1 ≤ 8 by omega)) (by decide)
        have HN := hid (And.intro (show a * 16 + (d : Int) = ((16 * acc + d : Nat) : Int) by omega) (And.intro hnx hdec))
        have hb1 : 16 * acc + d ≤ 4294967295 := by omega
        have ha1 : a ≤ 268435455 := by omega
        have iov : a * 16 + (d : Int) ≤ 4294967295 := by omega
        clear hd hdrop hget hdec hnx hp8 hacc hb1
        generalize c.toNat ||| 32 = v at *
        rcases hs with ⟨h48, h57, hdd⟩ | ⟨hno, h97, h102, hdd⟩
        · clear h95
          have hdi : (d : Int) = (c.toNat : Int) - 48 := by omega
          rw [hdi] at iov HN
          have Hd := hid hdd
          clear hdd hdi ha ho ho256
          go_wp2_with fail
          refine ⟨⟨k + 1, 16 * acc + d, _, rfl, rfl, by go_num, by omega, HN.out⟩, by simp [intOf]; omega⟩
        · have hdi : (d : Int) = (v : Int) - 97 + 10 := by omega
          rw [hdi] at iov HN
          clear hdd hdi ha
          have h95' := h95 h97 h102
          clear h95
          by_cases h48 : 48 ≤ c.toNat
          · have h57 : ¬ c.toNat ≤ 57 := fun h => hno ⟨h48, h⟩
            clear hno
            go_wp2_with (go_at_call 106; refine (lower_is _ _).mono ?_; rintro e w' ⟨rfl, rfl⟩)
            refine ⟨⟨k + 1, 16 * acc + d, _, rfl, rfl, by go_num, by omega, HN.out⟩, by simp [intOf]; omega⟩
          · clear hno
            go_wp2_with (go_at_call 106; refine (lower_is _ _).mono ?_; rintro e w' ⟨rfl, rfl⟩)
            refine ⟨⟨k + 1, 16 * acc + d, _, rfl, rfl, by go_num, by omega, HN.out⟩, by simp [intOf]; omega⟩
      | none =>
        rw [hd] at hdec
        obtain ⟨hno, hlow⟩ := low_none hd
        have HD := hid hdec
        clear hd hdrop hget ha hacc hdec
        generalize c.toNat ||| 32 = v at *
        go_wp2_with (go_at_call 106; refine (lower_is _ _).mono ?_; rintro e w' ⟨rfl, rfl⟩)
        all_goals first | (exfalso; omega) | skip
        all_goals go_ret2
        all_goals exact ⟨by rw [HD.out]; rfl, rfl⟩
    · obtain rfl : k = 8 := by omega
      rw [List.drop_eq_nil_of_le (by omega)] at hdec
      simp only [numBy] at hdec
      have HD := hid hdec
      clear hdec hacc
      go_wp2_with fail
      go_ret2
      exact ⟨by rw [HD.out]; rfl, rfl⟩
end Go.Proofs.YtkbfhooiloaokaaGreatDoor.Num
/-
  DERIVED: THE SHELF's CONTRACTS AT THIS DUMP, IN PLAIN WORDS (tools/lay-plain.mjs out of 'TryzShelfOf.lean', which tools/lay-shelf.mjs wrote): THE SAME DECLARATIONS UNDER THE SAME NAMES: 'import', 'namespace', 'open', 'def', 'theorem' AND NOTHING ELSE: no command of the shelf's: FOR A HAND-IN. Each laying: the table of numbers ('.._ren') and one theorem, a field a fact of the dump's own or the kernel's comparison; each contract: ONE APPLICATION.
-/
namespace Go.Proofs
open Go.Shelf
def Tryz.laysC245_ren : Go.Shelf.Ren := ⟨fun | 245 => 93 | 279 => 108 | 280 => 109 | 281 => 110 | 282 => 111 | 316 => 123 | 171 => 125 | 205 => 124 | 243 => 133 | 246 => 84 | 283 => 94 | 284 => 95 | 285 => 96 | 286 => 97 | 129 => 113 | 317 => 112 | 318 => 114 | 319 => 115 | 320 => 116 | 337 => 126 | 338 => 127 | n => n, fun | 9 => 9 | 3 => 3 | 75 => 94 | 167 => 129 | 4 => 4 | 168 => 132 | 210 => 150 | 37 => 22 | 0 => 0 | 127 => 126 | 145 => 155 | 143 => 153 | 2 => 2 | 171 => 117 | 53 => 85 | 5 => 5 | 173 => 120 | 212 => 137 | 51 => 79 | 20 => 20 | 213 => 138 | 46 => 102 | 232 => 156 | 233 => 157 | 80 => 113 | n => n, fun | 15 => 2 | 16 => 3 | 17 => 1 | 18 => 5 | 19 => 6 | n => n⟩
theorem Tryz.laysC245 : Go.Proofs.LaysC.n245 Tryz.prog Tryz.laysC245_ren := {
  mixed := by kernel_rfl
  f129 := Tryz.func113.trans (congrArg some (by kernel_rfl))
  f171 := Tryz.func125.trans (congrArg some (by kernel_rfl))
  f205 := Tryz.func124.trans (congrArg some (by kernel_rfl))
  f243 := Tryz.func133.trans (congrArg some (by kernel_rfl))
  f245 := Tryz.func93.trans (congrArg some (by kernel_rfl))
  f246 := Tryz.func84.trans (congrArg some (by kernel_rfl))
  f279 := Tryz.func108.trans (congrArg some (by kernel_rfl))
  f280 := Tryz.func109.trans (congrArg some (by kernel_rfl))
  f281 := Tryz.func110.trans (congrArg some (by kernel_rfl))
  f282 := Tryz.func111.trans (congrArg some (by kernel_rfl))
  f283 := Tryz.func94.trans (congrArg some (by kernel_rfl))
  f284 := Tryz.func95.trans (congrArg some (by kernel_rfl))
  f285 := Tryz.func96.trans (congrArg some (by kernel_rfl))
  f286 := Tryz.func97.trans (congrArg some (by kernel_rfl))
  f316 := Tryz.func123.trans (congrArg some (by kernel_rfl))
  f317 := Tryz.func112.trans (congrArg some (by kernel_rfl))
  f318 := Tryz.func114.trans (congrArg some (by kernel_rfl))
  f319 := Tryz.func115.trans (congrArg some (by kernel_rfl))
  f320 := Tryz.func116.trans (congrArg some (by kernel_rfl))
  f337 := Tryz.func126.trans (congrArg some (by kernel_rfl))
  f338 := Tryz.func127.trans (congrArg some (by kernel_rfl))
  t0 := Tryz.underlying0
  a0 := Tryz.isAgg0
  z0 := Tryz.sizeOf0
  v0 := Tryz.zeroValue0
  t2 := Tryz.underlying2
  a2 := Tryz.isAgg2
  z2 := Tryz.sizeOf2
  v2 := Tryz.zeroValue2
  t3 := Tryz.underlying3
  a3 := Tryz.isAgg3
  z3 := Tryz.sizeOf3
  v3 := Tryz.zeroValue3
  t4 := Tryz.underlying4
  a4 := Tryz.isAgg4
  z4 := Tryz.sizeOf4
  v4 := Tryz.zeroValue4
  t5 := Tryz.underlying5
  a5 := Tryz.isAgg5
  z5 := Tryz.sizeOf5
  v5 := Tryz.zeroValue5
  t9 := Tryz.underlying9
  a9 := Tryz.isAgg9
  z9 := Tryz.sizeOf9
  v9 := Tryz.zeroValue9
  t20 := Tryz.underlying20
  a20 := Tryz.isAgg20
  z20 := Tryz.sizeOf20
  v20 := Tryz.zeroValue20
  t37 := Tryz.underlying22
  a37 := Tryz.isAgg22
  z37 := Tryz.sizeOf22
  v37 := Tryz.zeroValue22
  t46 := Tryz.underlying102
  a46 := Tryz.isAgg102
  z46 := Tryz.sizeOf102
  v46 := Tryz.zeroValue102
  t51 := Tryz.underlying79
  a51 := Tryz.isAgg79
  z51 := Tryz.sizeOf79
  v51 := Tryz.zeroValue79
  t53 := Tryz.underlying85
  a53 := Tryz.isAgg85
  z53 := Tryz.sizeOf85
  v53 := Tryz.zeroValue85
  t75 := Tryz.underlying94
  a75 := Tryz.isAgg94
  z75 := Tryz.sizeOf94
  v75 := Tryz.zeroValue94
  t127 := Tryz.underlying126
  a127 := Tryz.isAgg126
  z127 := Tryz.sizeOf126
  v127 := Tryz.zeroValue126
  t143 := Tryz.underlying153
  a143 := Tryz.isAgg153
  z143 := Tryz.sizeOf153
  v143 := Tryz.zeroValue153
  t145 := Tryz.underlying155
  a145 := Tryz.isAgg155
  z145 := Tryz.sizeOf155
  v145 := Tryz.zeroValue155
  t167 := Tryz.underlying129
  a167 := Tryz.isAgg129
  z167 := Tryz.sizeOf129
  v167 := Tryz.zeroValue129
  t168 := Tryz.underlying132
  a168 := Tryz.isAgg132
  z168 := Tryz.sizeOf132
  v168 := Tryz.zeroValue132
  t171 := Tryz.underlying117
  a171 := Tryz.isAgg117
  z171 := Tryz.sizeOf117
  v171 := Tryz.zeroValue117
  t173 := Tryz.underlying120
  a173 := Tryz.isAgg120
  z173 := Tryz.sizeOf120
  v173 := Tryz.zeroValue120
  t210 := Tryz.underlying150
  a210 := Tryz.isAgg150
  z210 := Tryz.sizeOf150
  v210 := Tryz.zeroValue150
  t212 := Tryz.underlying137
  a212 := Tryz.isAgg137
  z212 := Tryz.sizeOf137
  v212 := Tryz.zeroValue137
  t213 := Tryz.underlying138
  a213 := Tryz.isAgg138
  z213 := Tryz.sizeOf138
  t232 := Tryz.underlying156
  a232 := Tryz.isAgg156
  z232 := Tryz.sizeOf156
  v232 := Tryz.zeroValue156
  t233 := Tryz.underlying157
  a233 := Tryz.isAgg157
  z233 := Tryz.sizeOf157
  v233 := Tryz.zeroValue157
  g15 := by kernel_rfl
  g16 := by kernel_rfl
  g17 := by kernel_rfl
  g18 := by kernel_rfl
  g19 := by kernel_rfl
  t80 := Tryz.underlying113
  a80 := Tryz.isAgg113
  z80 := Tryz.sizeOf113
  v80 := Tryz.zeroValue113
  i0 := by kernel_rfl
  i2 := by kernel_rfl
  i3 := by kernel_rfl
  i4 := by kernel_rfl
  i5 := by kernel_rfl
  i9 := by kernel_rfl
  i20 := by kernel_rfl
  i37 := by kernel_rfl
  i46 := by kernel_rfl
  i51 := by kernel_rfl
  i53 := by kernel_rfl
  i75 := by kernel_rfl
  i80 := by kernel_rfl
  i127 := by kernel_rfl
  i143 := by kernel_rfl
  i145 := by kernel_rfl
  i167 := by kernel_rfl
  i168 := by kernel_rfl
  i171 := by kernel_rfl
  i173 := by kernel_rfl
  i210 := by kernel_rfl
  i212 := by kernel_rfl
  i232 := by kernel_rfl
  i233 := by kernel_rfl
  m15 := by kernel_rfl
  m16 := by kernel_rfl
  m17 := by kernel_rfl
  m18 := by kernel_rfl
  m19 := by kernel_rfl
  c0 := by kernel_rfl
  c2 := by kernel_rfl
  c3 := by kernel_rfl
  c4 := by kernel_rfl
  c5 := by kernel_rfl
  c9 := by kernel_rfl
  c20 := by kernel_rfl
  c37 := by kernel_rfl
  c46 := by kernel_rfl
  c51 := by kernel_rfl
  c53 := by kernel_rfl
  c75 := by kernel_rfl
  c80 := by kernel_rfl
  c127 := by kernel_rfl
  c143 := by kernel_rfl
  c145 := by kernel_rfl
  c167 := by kernel_rfl
  c168 := by kernel_rfl
  c171 := by kernel_rfl
  c173 := by kernel_rfl
  c210 := by kernel_rfl
  c212 := by kernel_rfl
  c213 := by kernel_rfl
  c232 := by kernel_rfl
  c233 := by kernel_rfl }
open Go.RowKit in
/-- strconv.toError, at the inner package's ErrSyntax: 'syntaxError(fn, s)' as an error: A *NumError IN A NEW BLOCK. (LAID: no walk: one application.) -/
theorem Tryz.strconv_toError_syntax (fn s : ByteArray) (base bits : Int) (ev : Value) (w : World) (hlim : s.size ≤ 281474976710656) (hv : w.cell? ⟨2, 0, none⟩ = some ev) (hev : ev = .nilIface ∨ ∃ te pe, ev = .iface te pe) :
    Calls Tryz.prog 93 #[.string fn, .string s, .int .i64 base, .int .i64 bits, .iface 129 (.int .i64 2)] w fun e w' => ∃ N, e = .returned (.iface 132 (.pointer (some ⟨N, 0, none⟩))) ∧ w.heap.size ≤ N ∧ w'.heap[N]? = some (.cells #[.string fn, .string s, ev] 150 (0, 0)) ∧ Below w.heap.size w w' := Any.strconv_toError_syntax Tryz.laysC245 fn s base bits ev w hlim hv hev
end Go.Proofs
/-
  A float32 from its 8 hexadecimal digits (the program's readHex).
-/
namespace Go.Proofs.YtkbfhooiloaokaaGreatDoor.Num
open Go.RowKit Go.Proofs.Fl Go.Proofs.Hx
set_option linter.unusedVariables false
set_option linter.unusedSimpArgs false
theorem gErrSyn : Tryz.prog.globalNamed "strconv.ErrSyntax" = some 2 := by kernel_rfl
theorem Errs.cell {B : Nat} {w : World} (h : Errs B w) : ∃ a : Addr, ∀ w', Below B w w' → w'.cell? ⟨2, 0, none⟩ = some (.iface 153 (.pointer (some a))) :=
  h.synt.imp fun a ha w' hb => by simpa using World.var?_cell gErrSyn (ha w' hb) 0
theorem ParseUint_16 (t : ByteArray) (h8 : t.size = 8) (w : World) {B : Nat} (hB : B ≤ w.heap.size) (hE : Errs B w) :
    Calls Tryz.prog 76 #[.string t, .int .i64 16, .int .i64 32] w fun e w' => (∃ v, e = .returned (.tuple #[.int .u64 (((rdU t.data.toList).getD 0 : Nat) : Int), v])) ∧ Below w.heap.size w w' := by
  have HC := hid (iParseUint_16 t h8 w)
  have HW := hid (Lib.bytesWorld_below w 5 t)
  obtain ⟨a, ha⟩ := hE.cell
  have HE := hid (Tryz.strconv_toError_syntax ⟨#[80, 97, 114, 115, 101, 85, 105, 110, 116]⟩ t 16 32 _ (Lib.bytesWorld w 5 t) (by omega) (ha _ (HW.out.mono hB)) (.inr ⟨_, _, rfl⟩))
  clear hE ha
  generalize Lib.bytesWorld w 5 t = W1 at *
  cases hr : rdU t.data.toList with
  | some u =>
    rw [hr] at HC
    have HC2 := hid (show Calls Tryz.prog 92 #[.string t, .int .i64 16, .int .i64 32] w fun e w' => e = .returned (.tuple #[.int .u64 (u : Int), .nilIface]) ∧ w' = W1 from HC.out)
    clear hr HC HE
    go_enter Tryz.func76, Tryz.ntmps76
    go_wp2_with (go_at_call 92; refine HC2.out.mono ?_; rintro e w1 ⟨rfl, rfl⟩)
    go_ret2
    exact ⟨⟨_, rfl⟩, HW.out⟩
  | none =>
    rw [hr] at HC
    have HC2 := hid (show Calls Tryz.prog 92 #[.string t, .int .i64 16, .int .i64 32] w fun e w' => e = .returned (.tuple #[.int .u64 0, .iface 129 (.int .i64 2)]) ∧ w' = W1 from HC.out)
    clear hr HC
    go_enter Tryz.func76, Tryz.ntmps76
    go_wp2_with (first | (go_at_call 92; refine HC2.out.mono ?_; rintro e w1 ⟨rfl, rfl⟩) | (go_at_call 93; refine HE.out.mono ?_; rintro e w2 ⟨N, rfl, h1, h2, h3⟩; have H3 := hid h3; clear h1 h2 h3))
    go_ret2
    exact ⟨⟨_, rfl⟩, HW.out.trans (H3.out.mono HW.out.size)⟩
theorem readHex_calls (t : ByteArray) (h8 : t.size = 8) (w : World) {B : Nat} (hB : B ≤ w.heap.size) (hE : Errs B w) :
    Calls Tryz.prog 50 #[.string t] w fun e w' => e = .returned (.float .f32 ((rdU t.data.toList).getD 0)) ∧ Below w.heap.size w w' := by
  have HC := hid (ParseUint_16 t h8 w hB hE)
  have hu : (rdU t.data.toList).getD 0 < 4294967296 := by
    cases hr : rdU t.data.toList with
    | some u => exact rdU_lt (by simpa using h8) hr
    | none => exact Nat.zero_lt_of_lt (by decide : 0 < 4294967296)
  clear hE
  generalize (rdU t.data.toList).getD 0 = u at *
  go_enter Tryz.func50, Tryz.ntmps50
  go_wp2_with (go_at_call 76; refine HC.out.mono ?_; rintro e w1 ⟨⟨v, rfl⟩, hb⟩; have HB := hid hb; clear hb)
  go_ret
  exact ⟨rfl, HB.out⟩
end Go.Proofs.YtkbfhooiloaokaaGreatDoor.Num
/-
  The text of a list of float32: the program (NumbersText).
-/
namespace Go.Proofs.YtkbfhooiloaokaaGreatDoor.Num
open Go.RowKit Go.Proofs.Fl Go.Proofs.Hx Go.Proofs.Tx
open Go.Lib (join)
set_option linter.unusedVariables false
set_option linter.unusedSimpArgs false
set_option maxRecDepth 100000 in
set_option maxHeartbeats 1600000 in
theorem NumbersText_calls (A : Option Addr) (n c : Nat) (xs : List Nat) (hz : xs.length = n) (hn : n ≤ 1048576) (hok : ∀ x ∈ xs, x < 4294967296) (w : World) {B : Nat} (hB : B ≤ w.heap.size) (ha : Rd w w.heap.size A (f32s xs)) (hD : Deb B w) :
    Calls Tryz.prog 31 #[.slice A n c] w (RetText (numText xs) w) := by
  by_cases h256 : n ≤ 256
  · obtain ⟨i0, hi0, hz0, hz1, hz2⟩ := info_parts1 str_info
    have HNT := hid (show numText xs = some (textJ (xs.map hexT)) by unfold numText; rw [if_pos (by omega)])
    have HZ := hid hz
    have HR := hid ha
    have HM := hid hok
    have HL := hid (join_le 8 (xs.map hexT) (hexT_le xs))
    have HDB := hid (fun w' (h : Below w.heap.size w w') => hD.on (h.mono hB))
    have HBs := hid hB
    clear hz ha hok hD hB
    go_enter Tryz.func31, Tryz.ntmps31
    go_wp2_with fail
    go_loopw [4, 6, 13] (fun o q i wr => ∃ (k : Nat) (A2 : Option Addr) (c2 : Nat), k ≤ n ∧ i = .int .i64 k ∧ o = .slice A2 k c2 ∧ Hid (OwnT wr w.heap.size (.slice A2 k c2) k ((xs.map hexT).take k)) ∧ Hid (Below w.heap.size w wr)) (fun _ _ i _ => n - (intOf i).toNat)
    case atStart => exact ⟨0, _, 0, Nat.zero_le _, rfl, rfl, own_none (Nat.le_refl _), (Below.refl _ _).alloc (Nat.le_refl _) _⟩
    case round =>
      obtain ⟨k, A2, c2, hk, rfl, rfl, hown, hbel⟩ := hrel
      by_cases hlt : k < n
      · have hkx : k < xs.length := by have := HZ.out; omega
        have hm := HM.out _ (List.getElem_mem hkx)
        obtain ⟨b1, o1, rfl, hb1, hc1⟩ := f32s_at (HR.out.below hbel.out) hkx
        have hsn : (xs.map hexT).take (k + 1) = (xs.map hexT).take k ++ [hexT xs[k]] := by
          rw [List.take_succ_eq_append_getElem (by simpa using hkx)]
          simp
        have HSN := hid hsn
        clear hsn
        generalize xs[k] = z at *
        have hBw := Nat.le_trans HBs.out hbel.out.size
        have HD := hid (hexOf_calls z hm wr (B := B) hBw (HDB.out wr hbel.out))
        rw [show hex8 (cn .f32 z) = hexT z from rfl] at HD
        clear hm hBw
        generalize hexT z = li at *
        go_wp2_with (first
          | (go_at_call 47; refine HD.out.mono ?_; rintro e w2 ⟨rfl, hb⟩; have HB2 := hid hb; clear hb)
          | (at_builtin; refine wpList_append_lies _ rfl _ _ 69 rfl w.heap.size 9 i0 (Value.string ByteArray.empty) 1 16 Tryz.underlying69 hi0 hz0 hz1 hz2 rfl (by decide) (.slice A2 k c2) k (strs ((xs.map hexT).take k)) rfl ((own_step hown.out HB2.out).alloc _) ⟨_, 0, none⟩ 1 1 [.string ⟨li.toArray⟩] rfl rfl (str_new _ w.heap.size _) (strs_oneCell [li]) (by decide) (by unfold maxLen; omega) (by omega) (by simp; have := hbel.out.size; have := HB2.out.size; omega) _ rfl ?_; intro g2 c3 w5 hown2 hgrow hat hlt2; rw [strs_snoc, ← HSN.out] at hown2; have OW2 := hid hown2; have BL2 := hid (grown_below (hbel.out.trans (HB2.out.mono hbel.out.size)) (own_step hown.out HB2.out) hgrow); clear hown2 hgrow hat hlt2))
        go_roundw
        case rel => exact ⟨k + 1, _, c3, hlt, by go_num, rfl, OW2, BL2⟩
        case measure => simp [intOf]; omega
      · obtain rfl : k = n := by omega
        have hj := HL.out
        rw [List.length_map, HZ.out] at hj
        have ho := hown.out
        rw [List.take_of_length_le (by rw [List.length_map, HZ.out]; omega)] at ho
        clear hlt hk
        have HJ := hid (joined_calls A2 c2 (xs.map hexT) k w.heap.size wr ho (by omega) (by omega))
        clear ho hj
        go_wp2_with (go_at_call 48; refine HJ.out.mono ?_; rintro e w2 ⟨rfl, hb⟩; have HB2 := hid hb; clear hb)
        go_ret2
        exact ⟨by rw [HNT.out]; rfl, hbel.out.trans (HB2.out.mono hbel.out.size)⟩
  · have HNT := hid (show numText xs = none by unfold numText; rw [if_neg (by omega)])
    clear ha hok hD hB hz
    go_enter Tryz.func31, Tryz.ntmps31
    go_wp2
    go_ret2
    exact ⟨by rw [HNT.out]; rfl, Below.refl _ _⟩
end Go.Proofs.YtkbfhooiloaokaaGreatDoor.Num
/-
  The list with a text, by the reference (l01Numbers).
-/
namespace Go.Proofs.YtkbfhooiloaokaaGreatDoor.Num
open Go.RowKit Go.Proofs.Fl Go.Proofs.Tx Go.Proofs.Dc
set_option linter.unusedVariables false
set_option linter.unusedSimpArgs false
theorem readL_none {l : List UInt8} (h : l = none4) : readL l = some [] := by unfold readL; rw [if_pos h]
theorem readL_long {l : List UInt8} (h : l ≠ none4) (h64 : ¬ (cut l).length ≤ 64) : readL l = none := by unfold readL; rw [if_neg h, if_neg (fun e => h64 e.1)]
theorem readL_bad {l : List UInt8} (h : l ≠ none4) (hb : okAll rdDec (cut l) = false) : readL l = none := by unfold readL; rw [if_neg h, if_neg (fun e => by rw [hb] at e; cases e.2)]
theorem readL_yes {l : List UInt8} (h : l ≠ none4) (h64 : (cut l).length ≤ 64) (hb : okAll rdDec (cut l) = true) : readL l = some (vals rdDec 0 (cut l)) := by unfold readL; rw [if_neg h, if_pos ⟨h64, hb⟩]
theorem apart_low {w1 : World} {B N c2 g : Nat} {A2 : Option Addr} {P : List (List UInt8)} (h : OwnT w1 B (.slice A2 N c2) N P) (hg : g < B) : Apart (some ⟨g, 0, none⟩) A2 := by
  intro x y hx hy
  simp only [Option.some.injEq, Addr.mk.injEq, and_true] at hx
  subst hx
  subst hy
  have := own_base h
  omega
end Go.Proofs.YtkbfhooiloaokaaGreatDoor.Num
/-
  The list of float32 with a text, by the program (ReadNumbers).
-/
namespace Go.Proofs.YtkbfhooiloaokaaGreatDoor.Num
open Go.RowKit Go.Proofs.Fl Go.Proofs.Hx Go.Proofs.Tx
set_option linter.unusedVariables false
set_option linter.unusedSimpArgs false
/-- what the program reads of the library's variables stands, whatever is done from block B on -/
structure Lib4 (B : Nat) (w : World) : Prop where
  deb : Deb B w
  errs : Errs B w
  maxl : MaxL B w
theorem Lib4.on {B : Nat} {w w1 : World} (h : Lib4 B w) (hb : Below B w w1) : Lib4 B w1 := ⟨h.deb.on hb, h.errs.on hb, h.maxl.on hb⟩
/-- the program's number of a piece of 8 bytes, whatever they are -/
def anyNum (p : List UInt8) : Nat := (rdU p).getD 0
theorem anyNum_lt {p : List UInt8} (h8 : p.length = 8) : anyNum p < 4294967296 := by
  unfold anyNum
  cases hr : rdU p with
  | some u => exact rdU_lt h8 hr
  | none => exact Nat.zero_lt_of_lt (by decide : 0 < 4294967296)
theorem anyNum_of {p : List UInt8} {n : Nat} (h : rdNum p = some n) : anyNum p = n := by
  obtain ⟨_, h1, _, _⟩ := rdNum_some h
  unfold anyNum
  rw [rdU_of h1]
  rfl
theorem rdNum_of_hexT {p : List UInt8} (h8 : p.length = 8) (h : hexT (anyNum p) = p) : rdNum p = some (anyNum p) := by
  have h1 := rdNum_hexT (anyNum p) (anyNum_lt h8)
  rw [h] at h1
  obtain ⟨_, h2, _, _⟩ := rdNum_some h1
  have h3 : anyNum p = cn .f32 (anyNum p) := by
    conv => lhs; unfold anyNum
    rw [rdU_of h2]
    rfl
  rw [h1, ← h3]
/-- all pieces are of 8 bytes -/
def all8 (ps : List (List UInt8)) : Bool := ps.all fun p => p.length == 8
theorem all8_take {ps : List (List UInt8)} {k : Nat} (hk : k < ps.length) (h : all8 (ps.take k) = true) (h8 : ps[k].length = 8) : all8 (ps.take (k + 1)) = true := by
  unfold all8 at *
  rw [List.take_succ_eq_append_getElem hk, List.all_append, h]
  simp [h8]
theorem all8_mem {ps : List (List UInt8)} (h : all8 ps = true) : ∀ p ∈ ps, p.length = 8 := by
  intro p hp
  have := List.all_eq_true.1 h p hp
  simpa using this
theorem any_take {ps : List (List UInt8)} {k : Nat} (hk : k < ps.length) : (ps.take (k + 1)).map anyNum = (ps.take k).map anyNum ++ [anyNum ps[k]] := by
  rw [List.take_succ_eq_append_getElem hk, List.map_append]
  rfl
/-- what the program answers for the numbers of all pieces: theirs is the text, or it is not -/
theorem join_cut (l : List UInt8) : Go.Lib.join (cut l) [44] = l := by
  induction l with
  | nil => rfl
  | cons b l ih =>
    cases hc : cut l with
    | nil => exact absurd hc (cut_ne l)
    | cons x r =>
      rw [hc] at ih
      rw [Go.Lib.join_cons] at ih
      by_cases h : b = 44
      · simp only [cut, h, if_true, hc]
        rw [Go.Lib.join_cons]
        simp only [Go.Lib.joinTail, List.map_cons, List.flatten_cons, List.nil_append] at ih ⊢
        rw [← ih]
        rfl
      · simp only [cut, h, if_false, hc, glue]
        rw [Go.Lib.join_cons, List.cons_append, ih]
theorem readN_ps (l : List UInt8) (h8 : all8 (ps l) = true) (h256 : (ps l).length ≤ 256) :
    readN l = if textJ (((ps l).map anyNum).map hexT) = l then some ((ps l).map anyNum) else none := by
  unfold ps at *
  by_cases hn : l = none4
  · rw [if_pos hn] at h8 h256 ⊢
    rw [readN_none hn, if_pos (by rw [hn]; rfl)]
    rfl
  · rw [if_neg hn] at h8 h256 ⊢
    have hm := all8_mem h8
    by_cases hok : okAll rdNum (cut l) = true
    · rw [readN_yes hn h256 hok]
      have hv : ∀ p ∈ cut l, rdNum p = some (anyNum p) ∧ hexT (anyNum p) = p := by
        intro p hp
        have h1 := List.all_eq_true.1 hok p hp
        obtain ⟨n, hn2⟩ := Option.isSome_iff_exists.1 h1
        have := anyNum_of hn2
        rw [this]
        exact ⟨hn2, hexT_rdNum hn2⟩
      have e1 : vals rdNum 0 (cut l) = (cut l).map anyNum := by
        unfold vals
        refine List.map_congr_left fun p hp => ?_
        rw [(hv p hp).1]
        rfl
      have e2 : ((cut l).map anyNum).map hexT = cut l := by
        rw [List.map_map]
        conv => rhs; rw [← List.map_id (cut l)]
        refine List.map_congr_left fun p hp => ?_
        exact (hv p hp).2
      rw [e1, e2, if_pos]
      unfold textJ
      rw [if_neg (cut_ne l), join_cut]
    · have hf : okAll rdNum (cut l) = false := by simpa using hok
      rw [readN_bad hn hf, if_neg]
      intro ht
      refine hok (List.all_eq_true.2 fun p hp => ?_)
      have hne : ((cut l).map anyNum).map hexT ≠ [] := by
        intro e
        simp at e
        exact cut_ne l e
      unfold textJ at ht
      rw [if_neg hne] at ht
      have hj := join_inj 8 [44] _ (cut l) (fun t ht2 => by
        obtain ⟨z, _, rfl⟩ := List.mem_map.1 ht2
        exact hexT_len z) hm (by simp) (ht.trans (join_cut l).symm)
      rw [List.map_map] at hj
      have hq : hexT (anyNum p) = p := by
        have := (List.map_inj_left (f := hexT ∘ anyNum) (g := id) (l := cut l)).1 (by rw [hj, List.map_id]) p hp
        exact this
      rw [rdNum_of_hexT (hm p hp) hq]
      rfl
/-- a piece that is not of 8 bytes: none -/
theorem readN_not8 (l : List UInt8) {k : Nat} (hk : k < (ps l).length) (h8 : (ps l)[k].length ≠ 8) : readN l = none := by
  by_cases hn : l = none4
  · have e : ps l = [] := by unfold ps; rw [if_pos hn]
    simp [e] at hk
  · have e : ps l = cut l := by unfold ps; rw [if_neg hn]
    refine readN_bad hn ?_
    unfold okAll
    rw [List.all_eq_false]
    refine ⟨(ps l)[k], ?_, by rw [rdNum_len h8]; decide⟩
    rw [← e]
    exact List.getElem_mem hk
/-- more than 256 pieces: none -/
theorem readN_many (l : List UInt8) (h : 256 < (ps l).length) : readN l = none := by
  by_cases hn : l = none4
  · have e : ps l = [] := by unfold ps; rw [if_pos hn]
    simp [e] at h
  · have e : ps l = cut l := by unfold ps; rw [if_neg hn]
    exact readN_long hn (by rw [← e]; omega)
end Go.Proofs.YtkbfhooiloaokaaGreatDoor.Num
/-
  The list of float32 with a text, by the reference (l01NRead).
-/
namespace Go.Proofs.YtkbfhooiloaokaaGreatDoor.Num
open Go.RowKit Go.Proofs.Fl Go.Proofs.Hx Go.Proofs.Tx
set_option linter.unusedVariables false
set_option linter.unusedSimpArgs false
theorem l01From_calls (n : Nat) (hn : n < 4294967296) (w : World) : Calls Tryz.prog 52 #[.int .i64 (n : Int)] w (fun e w' => e = .returned (.float .f32 n) ∧ w' = w) := by
  have hw : IntKind.u32.wrap (n : Int) = (n : Int) := by rw [IntKind.wrap_u32]; omega
  go_enter Tryz.func52, Tryz.ntmps52
  go_wp2
  go_ret
  exact ⟨rfl, rfl⟩
theorem digL_cases (c : UInt8) : (48 ≤ c.toNat ∧ c.toNat ≤ 57 ∧ digL c = some (c.toNat - 48)) ∨ (97 ≤ c.toNat ∧ c.toNat ≤ 102 ∧ digL c = some (c.toNat - 87)) ∨ (¬ (48 ≤ c.toNat ∧ c.toNat ≤ 57) ∧ ¬ (97 ≤ c.toNat ∧ c.toNat ≤ 102) ∧ digL c = none) := by
  unfold digL
  by_cases h1 : 48 ≤ c.toNat ∧ c.toNat ≤ 57
  · exact .inl ⟨h1.1, h1.2, by rw [if_pos h1]⟩
  · by_cases h2 : 97 ≤ c.toNat ∧ c.toNat ≤ 102
    · exact .inr (.inl ⟨h2.1, h2.2, by rw [if_neg h1, if_pos h2]⟩)
    · exact .inr (.inr ⟨h1, h2, by rw [if_neg h1, if_neg h2]⟩)
theorem byte_of (S : ByteArray) (p : List UInt8) (h : S.data.toList = p) (j : Nat) (hj : j < S.size) (hp : j < p.length) : S[j] = p[j] := by
  subst h
  rfl
theorem cn_neq {n : Nat} (h : cn .f32 n ≠ n) : ((cn .f32 n : Int) != (n : Int)) = true := by rw [bne_iff_ne]; omega
theorem vals0 : f32s (vals rdNum 0 []) = [] := rfl
end Go.Proofs.YtkbfhooiloaokaaGreatDoor.Num
/-
  The list of complex64 with a text, as a plain function: what both texts read, and what the program reads back.
-/
namespace Go.Proofs.YtkbfhooiloaokaaGreatDoor.Num
open Go.RowKit Go.Proofs.Fl Go.Proofs.Hx Go.Proofs.Tx
set_option linter.unusedVariables false
set_option linter.unusedSimpArgs false
/-- complex numbers as values -/
def c64s (zs : List (Nat × Nat)) : List Value := zs.map fun z => .complex .f32 z.1 z.2
theorem c64s_length (zs : List (Nat × Nat)) : (c64s zs).length = zs.length := by simp [c64s]
theorem c64s_snoc (xs : List (Nat × Nat)) (z : Nat × Nat) : c64s xs ++ [.complex .f32 z.1 z.2] = c64s (xs ++ [z]) := by simp [c64s]
theorem c64s_oneCell (xs : List (Nat × Nat)) : ∀ u ∈ c64s xs, u.oneCell' = true := by
  intro u hu
  obtain ⟨b, _, rfl⟩ := List.mem_map.1 hu
  rfl
theorem c64_info : (Tryz.prog.info? 24).map (fun i => (i.zero, i.size, i.bytes)) = some (some (Value.complex .f32 0 0), 1, 8) := by kernel_rfl
theorem c64s_at {w : World} {A : Option Addr} {zs : List (Nat × Nat)} (h : Rd w w.heap.size A (c64s zs)) {k : Nat} (hk : k < zs.length) :
    ∃ b o, A = some ⟨b, o, none⟩ ∧ b < w.heap.size ∧ w.cell? ⟨b, o + k, none⟩ = some (.complex .f32 zs[k].1 zs[k].2) := by
  rcases h with h0 | ⟨b, o, rfl, hb, hc⟩
  · have : (c64s zs).length = 0 := by rw [h0]; rfl
    rw [c64s_length] at this
    omega
  · exact ⟨b, o, rfl, hb, hc k _ (by unfold c64s; rw [List.getElem?_map, List.getElem?_eq_getElem hk]; rfl)⟩
/-- the digits of both parts -/
def hexP (z : Nat × Nat) : List UInt8 := hexT z.1 ++ hexT z.2
theorem hexP_len (z : Nat × Nat) : (hexP z).length = 16 := by unfold hexP; rw [List.length_append, hexT_len, hexT_len]
theorem hexP_le (xs : List (Nat × Nat)) : ∀ t ∈ xs.map hexP, t.length ≤ 16 := by
  intro t ht
  obtain ⟨z, _, rfl⟩ := List.mem_map.1 ht
  exact Nat.le_of_eq (hexP_len z)
def cplxText (xs : List (Nat × Nat)) : Option (List UInt8) := if xs.length ≤ 256 then some (textJ (xs.map hexP)) else none
/-- the complex number with 16 digits -/
def rdPair (p : List UInt8) : Option (Nat × Nat) := if p.length = 16 then (rdNum (p.take 8)).bind fun a => (rdNum (p.drop 8)).map fun b => (a, b) else none
def readC (l : List UInt8) : Option (List (Nat × Nat)) := if l = none4 then some [] else if (cut l).length ≤ 256 ∧ okAll rdPair (cut l) = true then some (vals rdPair (0, 0) (cut l)) else none
theorem readC_none {l : List UInt8} (h : l = none4) : readC l = some [] := by unfold readC; rw [if_pos h]
theorem readC_long {l : List UInt8} (h : l ≠ none4) (h64 : ¬ (cut l).length ≤ 256) : readC l = none := by unfold readC; rw [if_neg h, if_neg (fun e => h64 e.1)]
theorem readC_bad {l : List UInt8} (h : l ≠ none4) (hb : okAll rdPair (cut l) = false) : readC l = none := by unfold readC; rw [if_neg h, if_neg (fun e => by rw [hb] at e; cases e.2)]
theorem readC_yes {l : List UInt8} (h : l ≠ none4) (h64 : (cut l).length ≤ 256) (hb : okAll rdPair (cut l) = true) : readC l = some (vals rdPair (0, 0) (cut l)) := by unfold readC; rw [if_neg h, if_pos ⟨h64, hb⟩]
theorem readC_len (l : List UInt8) : ((readC l).getD []).length ≤ 256 := by
  unfold readC
  split
  · exact Nat.zero_le _
  · split
    · rename_i h
      simp only [Option.getD_some]
      unfold vals
      rw [List.length_map]
      exact h.1
    · exact Nat.zero_le _
theorem rdPair_len {p : List UInt8} (h : p.length ≠ 16) : rdPair p = none := by unfold rdPair; rw [if_neg h]
theorem rdPair_fst {p : List UInt8} (h : rdNum (p.take 8) = none) : rdPair p = none := by unfold rdPair; split <;> simp [h]
theorem rdPair_snd {p : List UInt8} (h : rdNum (p.drop 8) = none) : rdPair p = none := by
  unfold rdPair
  split
  · cases rdNum (p.take 8) <;> simp [h]
  · rfl
theorem rdPair_eq {p : List UInt8} {a b : Nat} (h : p.length = 16) (h1 : rdNum (p.take 8) = some a) (h2 : rdNum (p.drop 8) = some b) : rdPair p = some (a, b) := by
  unfold rdPair
  rw [if_pos h, h1, h2]
  rfl
theorem rdPair_some {p : List UInt8} {z : Nat × Nat} (h : rdPair p = some z) : p.length = 16 ∧ rdNum (p.take 8) = some z.1 ∧ rdNum (p.drop 8) = some z.2 := by
  unfold rdPair at h
  split at h
  · rename_i h16
    cases h1 : rdNum (p.take 8) with
    | none => rw [h1] at h; cases h
    | some a =>
      cases h2 : rdNum (p.drop 8) with
      | none => rw [h1, h2] at h; cases h
      | some b => rw [h1, h2] at h; cases h; exact ⟨h16, rfl, rfl⟩
  · cases h
theorem rdPair_hexP (z : Nat × Nat) (h1 : z.1 < 4294967296) (h2 : z.2 < 4294967296) : rdPair (hexP z) = some (cn .f32 z.1, cn .f32 z.2) := by
  refine rdPair_eq (hexP_len z) ?_ ?_
  · unfold hexP
    rw [List.take_append_of_le_length (by rw [hexT_len]; exact Nat.le_refl _), List.take_of_length_le (by rw [hexT_len]; exact Nat.le_refl _)]
    exact rdNum_hexT _ h1
  · unfold hexP
    rw [List.drop_append_of_le_length (by rw [hexT_len]; exact Nat.le_refl _), List.drop_eq_nil_of_le (by rw [hexT_len]; exact Nat.le_refl _)]
    exact rdNum_hexT _ h2
theorem hexP_rdPair {p : List UInt8} {z : Nat × Nat} (h : rdPair p = some z) : hexP z = p := by
  obtain ⟨_, h1, h2⟩ := rdPair_some h
  unfold hexP
  rw [hexT_rdNum h1, hexT_rdNum h2, List.take_append_drop]
/-- the program's number of a piece of 16 bytes, whatever they are -/
def anyPair (p : List UInt8) : Nat × Nat := (anyNum (p.take 8), anyNum (p.drop 8))
theorem anyPair_lt {p : List UInt8} (h : p.length = 16) : (anyPair p).1 < 4294967296 ∧ (anyPair p).2 < 4294967296 :=
  ⟨anyNum_lt (by rw [List.length_take]; omega), anyNum_lt (by rw [List.length_drop]; omega)⟩
theorem anyPair_of {p : List UInt8} {z : Nat × Nat} (h : rdPair p = some z) : anyPair p = z := by
  obtain ⟨_, h1, h2⟩ := rdPair_some h
  unfold anyPair
  rw [anyNum_of h1, anyNum_of h2]
theorem rdPair_of_hexP {p : List UInt8} (h16 : p.length = 16) (h : hexP (anyPair p) = p) : rdPair p = some (anyPair p) := by
  obtain ⟨ha, hb⟩ := List.append_inj (h.trans (List.take_append_drop 8 p).symm) (by rw [hexT_len, List.length_take]; omega)
  exact rdPair_eq h16 (rdNum_of_hexT (by rw [List.length_take]; omega) ha) (rdNum_of_hexT (by rw [List.length_drop]; omega) hb)
def all16 (ps : List (List UInt8)) : Bool := ps.all fun p => p.length == 16
theorem all16_take {ps : List (List UInt8)} {k : Nat} (hk : k < ps.length) (h : all16 (ps.take k) = true) (h8 : ps[k].length = 16) : all16 (ps.take (k + 1)) = true := by
  unfold all16 at *
  rw [List.take_succ_eq_append_getElem hk, List.all_append, h]
  simp [h8]
theorem all16_mem {ps : List (List UInt8)} (h : all16 ps = true) : ∀ p ∈ ps, p.length = 16 := by
  intro p hp
  have := List.all_eq_true.1 h p hp
  simpa using this
theorem anyP_take {ps : List (List UInt8)} {k : Nat} (hk : k < ps.length) : (ps.take (k + 1)).map anyPair = (ps.take k).map anyPair ++ [anyPair ps[k]] := by
  rw [List.take_succ_eq_append_getElem hk, List.map_append]
  rfl
theorem readC_ps (l : List UInt8) (h8 : all16 (ps l) = true) (h256 : (ps l).length ≤ 256) :
    readC l = if textJ (((ps l).map anyPair).map hexP) = l then some ((ps l).map anyPair) else none := by
  unfold ps at *
  by_cases hn : l = none4
  · rw [if_pos hn] at h8 h256 ⊢
    rw [readC_none hn, if_pos (by rw [hn]; rfl)]
    rfl
  · rw [if_neg hn] at h8 h256 ⊢
    have hm := all16_mem h8
    by_cases hok : okAll rdPair (cut l) = true
    · rw [readC_yes hn h256 hok]
      have hv : ∀ p ∈ cut l, rdPair p = some (anyPair p) ∧ hexP (anyPair p) = p := by
        intro p hp
        have h1 := List.all_eq_true.1 hok p hp
        obtain ⟨n, hn2⟩ := Option.isSome_iff_exists.1 h1
        have := anyPair_of hn2
        rw [this]
        exact ⟨hn2, hexP_rdPair hn2⟩
      have e1 : vals rdPair (0, 0) (cut l) = (cut l).map anyPair := by
        unfold vals
        refine List.map_congr_left fun p hp => ?_
        rw [(hv p hp).1]
        rfl
      have e2 : ((cut l).map anyPair).map hexP = cut l := by
        rw [List.map_map]
        conv => rhs; rw [← List.map_id (cut l)]
        refine List.map_congr_left fun p hp => ?_
        exact (hv p hp).2
      rw [e1, e2, if_pos]
      unfold textJ
      rw [if_neg (cut_ne l), join_cut]
    · have hf : okAll rdPair (cut l) = false := by simpa using hok
      rw [readC_bad hn hf, if_neg]
      intro ht
      refine hok (List.all_eq_true.2 fun p hp => ?_)
      have hne : ((cut l).map anyPair).map hexP ≠ [] := by
        intro e
        simp at e
        exact cut_ne l e
      unfold textJ at ht
      rw [if_neg hne] at ht
      have hj := join_inj 16 [44] _ (cut l) (fun t ht2 => by
        obtain ⟨z, _, rfl⟩ := List.mem_map.1 ht2
        exact hexP_len z) hm (by simp) (ht.trans (join_cut l).symm)
      rw [List.map_map] at hj
      have hq : hexP (anyPair p) = p := by
        have := (List.map_inj_left (f := hexP ∘ anyPair) (g := id) (l := cut l)).1 (by rw [hj, List.map_id]) p hp
        exact this
      rw [rdPair_of_hexP (hm p hp) hq]
      rfl
/-- a piece that is not of 16 bytes: none -/
theorem readC_not16 (l : List UInt8) {k : Nat} (hk : k < (ps l).length) (h8 : (ps l)[k].length ≠ 16) : readC l = none := by
  by_cases hn : l = none4
  · have e : ps l = [] := by unfold ps; rw [if_pos hn]
    simp [e] at hk
  · have e : ps l = cut l := by unfold ps; rw [if_neg hn]
    refine readC_bad hn ?_
    unfold okAll
    rw [List.all_eq_false]
    refine ⟨(ps l)[k], ?_, by rw [rdPair_len h8]; decide⟩
    rw [← e]
    exact List.getElem_mem hk
/-- more than 256 pieces: none -/
theorem readC_many (l : List UInt8) (h : 256 < (ps l).length) : readC l = none := by
  by_cases hn : l = none4
  · have e : ps l = [] := by unfold ps; rw [if_pos hn]
    simp [e] at h
  · have e : ps l = cut l := by unfold ps; rw [if_neg hn]
    exact readC_long hn (by rw [← e]; omega)
/-- the two halves of a piece -/
theorem half_fst (S : ByteArray) : (S.extract 0 8).data.toList = S.data.toList.take 8 := by simp
theorem half_snd (S : ByteArray) (h : S.size = 16) : (S.extract 8 S.size).data.toList = S.data.toList.drop 8 := by
  have : S.data.toList.length = S.size := by simp
  simp only [ByteArray.data_extract, Array.toList_extract, List.extract_eq_take_drop]
  rw [List.take_of_length_le (by rw [List.length_drop]; omega)]
end Go.Proofs.YtkbfhooiloaokaaGreatDoor.Num
