/-
  Bounds of float64 numbers by powers of two: they pass through + - * / and the root, and keep a number from growing too great to be narrowed or cut to an integer. Over no program.
-/
import Derived.Test.YtmehbfcmmffhmaaFloat
import Derived.Laws.Externs
namespace Go.Proofs.Fl
open Go Ieee Go.RowKit

abbrev D : Format := Ieee.double
/-- the rung of 2 to the power of n -/
def P2 (n : Nat) : Nat := (1023 + n) * 4503599627370496
theorem binade64 : D.binade = 4503599627370496 := by decide +kernel
theorem two52 : (4503599627370496 : Nat) = 2 ^ 52 := by decide +kernel
theorem pw52 (n : Nat) : 2 ^ 52 * 2 ^ (1022 + n) = pw (1074 + n) := by
  have h : 1074 + n = 52 + (1022 + n) := by omega
  unfold pw
  rw [h, Nat.pow_add 2 52 (1022 + n)]
theorem Mg_P2 (n : Nat) : Mg D (P2 n) = pw (1074 + n) := by
  have h := Mg_eq D (1022 + n) 4503599627370496 (by rw [binade64]; omega) (.inr (by rw [binade64]; exact Nat.le_refl _))
  rw [binade64] at h
  have e : P2 n = (1022 + n) * 4503599627370496 + 4503599627370496 := by unfold P2; omega
  rw [e, h]
  have h2 := pw52 n
  rw [← two52] at h2
  exact h2
theorem P2_inf {n : Nat} (h : n ≤ 1023) : P2 n < D.infRung := by
  rw [inf64]
  unfold P2
  omega
theorem P2_mono {n m : Nat} (h : n ≤ m) : P2 n ≤ P2 m := by unfold P2; omega

/-- a NaN, or at most 2 to the power of n -/
def B2 (n v : Nat) : Prop := nan .f64 v = true ∨ rg D v ≤ P2 n
theorem B2.mono {n m v : Nat} (h : B2 n v) (hm : n ≤ m) : B2 m v := h.imp_right fun h => Nat.le_trans h (P2_mono hm)
theorem B2.congr {n v w : Nat} (h : FEq .f64 v w) (hw : B2 n w) : B2 n v := by
  rcases h.cases with rfl | ⟨h1, _⟩
  · exact hw
  · exact .inl h1
theorem B2_qn (n : Nat) : B2 n (qn .f64) := .inl (nan_qn _)

theorem write_le (f : Format) (s : Bool) (m : Nat) (e : Int) (c : Nat) (hv : m * 2 ^ (e - f.leastPlace).toNat ≤ Mg f c * 2 ^ (f.leastPlace - e).toNat) :
    rg f (f.write (.number s m e)) ≤ c := by
  have hsw := f.infRung_lt
  show rg f (f.nearest s m e) ≤ c
  by_cases h0 : m = 0
  · subst h0
    simp only [Format.nearest, if_true]
    rw [rg_word _ _ (signWeight_pos f)]
    exact Nat.zero_le _
  · rw [nearest_eq f s m e h0, rg_word _ _ (by omega)]
    have := near_le f m e h0 c hv
    omega
theorem sg_write (f : Format) (s : Bool) (m : Nat) (e : Int) : sg f (f.write (.number s m e)) = s := by
  have hsw := f.infRung_lt
  show sg f (f.nearest s m e) = s
  by_cases h0 : m = 0
  · subst h0
    simp only [Format.nearest, if_true]
    exact sg_word _ _ (signWeight_pos f)
  · rw [nearest_eq f s m e h0, sg_word _ _ (by omega)]
theorem le_write (f : Format) (s : Bool) (m : Nat) (e : Int) (c : Nat) (hc : c ≤ f.infRung) (hv : Mg f c * 2 ^ (f.leastPlace - e).toNat ≤ m * 2 ^ (e - f.leastPlace).toNat) :
    c ≤ rg f (f.write (.number s m e)) := by
  have hsw := f.infRung_lt
  show c ≤ rg f (f.nearest s m e)
  by_cases h0 : m = 0
  · subst h0
    have : Mg f c = 0 := by
      have := Nat.two_pow_pos (f.leastPlace - e).toNat
      rw [Nat.zero_mul] at hv
      exact (Nat.mul_eq_zero.1 (Nat.le_zero.1 hv)).resolve_right (by omega)
    have hc0 : c = 0 := Mg_inj f (by rw [this, Mg_zero])
    omega
  · rw [nearest_eq f s m e h0, rg_word _ _ (by omega)]
    have := le_near f m e h0 c hv
    omega

/-- the sum of two finite words, before it is rounded: a whole number of units -/
theorem sum_fin (f : Format) (x y : Nat) (hx : rg f x < f.infRung) (hy : rg f y < f.infRung) :
    ∃ (s : Bool) (m : Nat) (e : Int), (f.read x).sum (f.read y) = some (.number s m e) ∧ f.leastPlace ≤ e ∧ m * 2 ^ (e - f.leastPlace).toNat = (sv f x + sv f y).natAbs ∧
      (sv f x + sv f y < 0 → s = true) ∧ (0 < sv f x + sv f y → s = false) ∧ (sv f x + sv f y = 0 → s = (sg f x && sg f y)) := by
  obtain ⟨m, i, e1, hi, hm, _⟩ := read_fin f x hx
  obtain ⟨n, j, e2, hj, hn, _⟩ := read_fin f y hy
  rw [e1, e2]
  have key : ∀ (s : Bool) (m : Nat) (i base : Int), f.leastPlace ≤ base → base ≤ i → signed s m (i - base).toNat * ((2 ^ (base - f.leastPlace).toNat : Nat) : Int) = if s = true then -((m * 2 ^ (i - f.leastPlace).toNat : Nat) : Int) else ((m * 2 ^ (i - f.leastPlace).toNat : Nat) : Int) := by
    intro s m i base h1 h2
    have e : (m <<< (i - base).toNat) * 2 ^ (base - f.leastPlace).toNat = m * 2 ^ (i - f.leastPlace).toNat := by
      rw [Nat.shiftLeft_eq, Nat.mul_assoc, ← Nat.pow_add]
      congr 2
      omega
    rw [← e]
    unfold signed
    cases s <;> simp [Int.neg_mul]
  have k1 := key (sg f x) m i (min i j) (by omega) (by omega)
  have k2 := key (sg f y) n j (min i j) (by omega) (by omega)
  rw [hm] at k1
  rw [hn] at k2
  have ht : (signed (sg f x) m (i - min i j).toNat + signed (sg f y) n (j - min i j).toNat) * ((2 ^ (min i j - f.leastPlace).toNat : Nat) : Int) = sv f x + sv f y := by
    rw [Int.add_mul, k1, k2]
    rfl
  have hp : (0 : Int) < ((2 ^ (min i j - f.leastPlace).toNat : Nat) : Int) := by have := Nat.two_pow_pos (min i j - f.leastPlace).toNat; omega
  refine ⟨_, _, _, rfl, by omega, ?_, ?_, ?_, ?_⟩
  · rw [← ht, Int.natAbs_mul]
    rfl
  all_goals
    generalize signed (sg f x) m (i - min i j).toNat + signed (sg f y) n (j - min i j).toNat = t at *
    generalize ((2 ^ (min i j - f.leastPlace).toNat : Nat) : Int) = p at *
    intro h
    rw [← ht] at h
  · have h1 : t < 0 := by
      refine Int.not_le.1 fun h0 => ?_
      have := Int.mul_nonneg h0 (Int.le_of_lt hp)
      omega
    rw [if_neg (by omega)]
    simpa using h1
  · have h1 : 0 < t := by
      refine Int.not_le.1 fun h0 => ?_
      have := Int.mul_nonpos_of_nonpos_of_nonneg h0 (Int.le_of_lt hp)
      omega
    rw [if_neg (by omega)]
    simp
    omega
  · have h1 : t = 0 := by
      rcases Int.mul_eq_zero.1 h with h2 | h2
      · exact h2
      · omega
    rw [if_pos h1]
theorem natAbs_sv (f : Format) (x : Nat) : (sv f x).natAbs = Mg f (rg f x) := by
  unfold sv
  split <;> omega

/-- where the exact sum is at most a rung's magnitude, the rounded one is at most that rung -/
theorem add_le (x y c : Nat) (hx : rg D x < D.infRung) (hy : rg D y < D.infRung) (h : (sv D x + sv D y).natAbs ≤ Mg D c) :
    rg D (fop .add .f64 x y) ≤ c := by
  obtain ⟨s, m, e, h1, h2, h3, _⟩ := sum_fin D x y hx hy
  have hf : fop .add .f64 x y = D.write (.number s m e) := by
    show ((((D.read x).sum (D.read y)).map D.write).getD (qn .f64)) = _
    rw [h1]
    rfl
  rw [hf]
  refine write_le D s m e c ?_
  rw [h3, show (D.leastPlace - e).toNat = 0 by omega]
  simpa using h

theorem pw_mono {a b : Nat} (h : a ≤ b) : pw a ≤ pw b := Nat.pow_le_pow_right (by omega) h
theorem pw_two (a : Nat) : pw a + pw a = pw (a + 1) := by unfold pw; rw [Nat.pow_succ]; omega
theorem pw_add (a b : Nat) : pw (a + b) = pw a * pw b := Nat.pow_add 2 a b
theorem pw_is (a : Nat) : 2 ^ a = pw a := rfl

theorem fop_nan_left {op : BinOp} {k : FloatKind} {x y : Nat} (h : nan k x = true) : fop op k x y = qn k := by unfold fop; rw [floatBits_nan_left h]; rfl
theorem fop_nan_right {op : BinOp} {k : FloatKind} {x y : Nat} (h : nan k y = true) : fop op k x y = qn k := by unfold fop; rw [floatBits_nan_right h]; rfl
theorem B2.fin {n v : Nat} (h : B2 n v) (hn : nan .f64 v = false) : rg D v ≤ P2 n := by
  rcases h with h | h
  · rw [hn] at h; cases h
  · exact h
theorem B2.Mg {n v : Nat} (h : B2 n v) (hn : nan .f64 v = false) : Fl.Mg D (rg D v) ≤ pw (1074 + n) := by
  rw [← Mg_P2]
  exact Mg_mono D (h.fin hn)
theorem B2.lt {n v : Nat} (h : B2 n v) (hn : nan .f64 v = false) (hk : n ≤ 1023) : rg D v < D.infRung := Nat.lt_of_le_of_lt (h.fin hn) (P2_inf hk)

theorem B2.add {n m k x y : Nat} (hx : B2 n x) (hy : B2 m y) (hn : n + 1 ≤ k) (hm : m + 1 ≤ k) (hk : k ≤ 1023) : B2 k (fop .add .f64 x y) := by
  cases h1 : nan .f64 x with
  | true => rw [fop_nan_left h1]; exact B2_qn k
  | false =>
    cases h2 : nan .f64 y with
    | true => rw [fop_nan_right h2]; exact B2_qn k
    | false =>
      refine .inr (add_le x y _ (hx.lt h1 (by omega)) (hy.lt h2 (by omega)) ?_)
      rw [Mg_P2]
      have e1 := hx.Mg h1
      have e2 := hy.Mg h2
      have e3 := natAbs_sv D x
      have e4 := natAbs_sv D y
      have e5 : pw (1074 + n) ≤ pw (1074 + (k - 1)) := pw_mono (by omega)
      have e6 : pw (1074 + m) ≤ pw (1074 + (k - 1)) := pw_mono (by omega)
      have e7 := pw_two (1074 + (k - 1))
      rw [show 1074 + (k - 1) + 1 = 1074 + k by omega] at e7
      omega

/-- the opposite of a word -/
def fneg (k : FloatKind) (x : Nat) : Nat := Op.negFloat k x
theorem xor_pow (x k : Nat) : (x ^^^ 2 ^ k) % 2 ^ k = x % 2 ^ k ∧ ((x ^^^ 2 ^ k) / 2 ^ k % 2 == 1) = !(x / 2 ^ k % 2 == 1) := by
  constructor
  · apply Nat.eq_of_testBit_eq
    intro i
    simp only [Nat.testBit_mod_two_pow, Nat.testBit_xor, Nat.testBit_two_pow]
    by_cases h : i < k
    · have : ¬ k = i := by omega
      simp [h, this]
    · simp [h]
  · have h1 : ∀ y : Nat, (y / 2 ^ k % 2 == 1) = y.testBit k := by
      intro y
      rw [Nat.testBit_eq_decide_div_mod_eq, Bool.eq_iff_iff]
      simp
    rw [h1, h1]
    simp
theorem rg_fneg (k : FloatKind) (x : Nat) : rg k.format (fneg k x) = rg k.format x := (xor_pow x _).1
theorem sg_fneg (k : FloatKind) (x : Nat) : sg k.format (fneg k x) = !sg k.format x := (xor_pow x _).2
theorem nan_fneg (k : FloatKind) (x : Nat) : nan k (fneg k x) = nan k x := by rw [nan_eq, nan_eq, rg_fneg]
theorem read_fneg (k : FloatKind) (x : Nat) : k.format.read (fneg k x) = (k.format.read x).opposite := by
  unfold Format.read
  change (if rg k.format (fneg k x) < k.format.binade then Datum.number (sg k.format (fneg k x)) (rg k.format (fneg k x)) k.format.leastPlace else if rg k.format (fneg k x) < k.format.infRung then Datum.number (sg k.format (fneg k x)) (k.format.binade + rg k.format (fneg k x) % k.format.binade) (k.format.leastPlace + (rg k.format (fneg k x) / k.format.binade - 1 : Nat)) else if rg k.format (fneg k x) = k.format.infRung then .infinity (sg k.format (fneg k x)) else .nan (sg k.format (fneg k x)) (rg k.format (fneg k x) - k.format.infRung)) =
    (if rg k.format x < k.format.binade then Datum.number (sg k.format x) (rg k.format x) k.format.leastPlace else if rg k.format x < k.format.infRung then Datum.number (sg k.format x) (k.format.binade + rg k.format x % k.format.binade) (k.format.leastPlace + (rg k.format x / k.format.binade - 1 : Nat)) else if rg k.format x = k.format.infRung then .infinity (sg k.format x) else .nan (sg k.format x) (rg k.format x - k.format.infRung)).opposite
  rw [rg_fneg, sg_fneg]
  split
  · rfl
  · split
    · rfl
    · split <;> rfl
theorem fop_sub (k : FloatKind) (x y : Nat) : fop .sub k x y = fop .add k x (fneg k y) := by
  show ((((k.format.read x).sum (k.format.read y).opposite).map k.format.write).getD (qn k)) = ((((k.format.read x).sum (k.format.read (fneg k y))).map k.format.write).getD (qn k))
  rw [read_fneg]
theorem fneg_congr {k : FloatKind} {x y : Nat} (h : FEq k x y) : FEq k (fneg k x) (fneg k y) := by
  rcases h.cases with rfl | ⟨h1, h2⟩
  · exact FEq.refl _ _
  · exact FEq.of_nan (by rw [nan_fneg, h1]) (by rw [nan_fneg, h2])
theorem sv_fneg (k : FloatKind) (x : Nat) : sv k.format (fneg k x) = -sv k.format x := by
  unfold sv
  rw [rg_fneg, sg_fneg]
  cases sg k.format x <;> simp
theorem B2.neg {n x : Nat} (h : B2 n x) : B2 n (fneg .f64 x) := by
  rcases h with h | h
  · exact .inl (by rw [nan_fneg, h])
  · exact .inr (by rw [show rg D (fneg .f64 x) = rg D x from rg_fneg .f64 x]; exact h)
theorem B2.sub {n m k x y : Nat} (hx : B2 n x) (hy : B2 m y) (hn : n + 1 ≤ k) (hm : m + 1 ≤ k) (hk : k ≤ 1023) : B2 k (fop .sub .f64 x y) := by
  rw [fop_sub]
  exact hx.add hy.neg hn hm hk

theorem B2.mul {n m k x y : Nat} (hx : B2 n x) (hy : B2 m y) (hk : n + m ≤ k) (hk2 : k ≤ 1023) : B2 k (fop .mul .f64 x y) := by
  cases h1 : nan .f64 x with
  | true => rw [fop_nan_left h1]; exact B2_qn k
  | false =>
    cases h2 : nan .f64 y with
    | true => rw [fop_nan_right h2]; exact B2_qn k
    | false =>
      obtain ⟨a, i, e1, hi, ha, _⟩ := read_fin D x (hx.lt h1 (by omega))
      obtain ⟨b, j, e2, hj, hb, _⟩ := read_fin D y (hy.lt h2 (by omega))
      have hf : fop .mul .f64 x y = D.write (.number (sg D x ^^ sg D y) (a * b) (i + j)) := by
        show ((((D.read x).product (D.read y)).map D.write).getD (qn .f64)) = _
        rw [e1, e2]
        rfl
      rw [hf]
      refine .inr (write_le D _ _ _ _ ?_)
      have g1 := hx.Mg h1
      have g2 := hy.Mg h2
      rw [← ha] at g1
      rw [← hb] at g2
      rw [Mg_P2]
      rw [least64] at *
      obtain ⟨I, hI⟩ : ∃ I : Nat, (i - -1074).toNat = I := ⟨_, rfl⟩
      obtain ⟨J, hJ⟩ : ∃ J : Nat, (j - -1074).toNat = J := ⟨_, rfl⟩
      rw [hI] at g1
      rw [hJ] at g2
      have g3 : a * b * pw (I + J) ≤ pw (1074 + k) * pw 1074 := by
        have g := Nat.mul_le_mul g1 g2
        have e : a * 2 ^ I * (b * 2 ^ J) = a * b * pw (I + J) := by
          rw [pw_add]
          simp only [pw, Nat.mul_assoc, Nat.mul_left_comm]
        rw [e, ← pw_add] at g
        rw [← pw_add]
        exact Nat.le_trans g (pw_mono (by omega))
      simp only [pw_is]
      by_cases hIJ : 1074 ≤ I + J
      · rw [show (-1074 - (i + j)).toNat = 0 by omega, show (i + j - -1074).toNat = I + J - 1074 by omega]
        rw [show I + J = (I + J - 1074) + 1074 by omega, pw_add, ← Nat.mul_assoc] at g3
        have := Nat.le_of_mul_le_mul_right g3 (pw_pos 1074)
        rw [show pw 0 = 1 from rfl, Nat.mul_one]
        exact this
      · rw [show (i + j - -1074).toNat = 0 by omega, show (-1074 - (i + j)).toNat = 1074 - (I + J) by omega]
        have e : pw 1074 = pw (1074 - (I + J)) * pw (I + J) := by rw [← pw_add]; congr 1; omega
        rw [e, ← Nat.mul_assoc] at g3
        have := Nat.le_of_mul_le_mul_right g3 (pw_pos (I + J))
        rw [show pw 0 = 1 from rfl, Nat.mul_one]
        exact this

/-- at least 2 to the power of 0, in its absolute value: what may be divided by -/
def A1 (v : Nat) : Prop := nan .f64 v = true ∨ P2 0 ≤ rg D v
theorem A1.congr {v w : Nat} (h : FEq .f64 v w) (hw : A1 w) : A1 v := by
  rcases h.cases with rfl | ⟨h1, _⟩
  · exact hw
  · exact .inl h1
theorem B2.div {n k x y : Nat} (hx : B2 n x) (hy : A1 y) (hk : n + 1 ≤ k) (hk2 : k ≤ 1023) : B2 k (fop .quo .f64 x y) := by
  cases h1 : nan .f64 x with
  | true => rw [fop_nan_left h1]; exact B2_qn k
  | false =>
    cases h2 : nan .f64 y with
    | true => rw [fop_nan_right h2]; exact B2_qn k
    | false =>
      have hd : P2 0 ≤ rg D y := by
        rcases hy with h | h
        · rw [h2] at h; cases h
        · exact h
      obtain ⟨a, i, e1, hi, ha, _⟩ := read_fin D x (hx.lt h1 (by omega))
      have hle := rg_le_of h2
      change rg D y ≤ D.infRung at hle
      rcases Nat.lt_or_eq_of_le hle with hlt | heq
      · obtain ⟨b, j, e2, hj, hb, _⟩ := read_fin D y hlt
        have hb1 : pw 1074 ≤ b * 2 ^ (j - D.leastPlace).toNat := by
          rw [hb, ← Mg_P2 0]
          exact Mg_mono D hd
        have hb0 : b ≠ 0 := by
          intro h0
          rw [h0, Nat.zero_mul] at hb1
          have := pw_pos 1074
          omega
        obtain ⟨more, q, hq1, hq2, hq3⟩ : ∃ more q : Nat, (Datum.number (sg D x) a i).quotient (D.fractionBits + 2) (Datum.number (sg D y) b j) = some (.number (sg D x ^^ sg D y) q (i - j - more - 1)) ∧
            q * b ≤ 4 * (a * 2 ^ more) ∧ True := by
          simp only [Datum.quotient]
          rw [if_neg hb0]
          refine ⟨_, _, rfl, ?_, trivial⟩
          rw [Nat.shiftLeft_eq]
          generalize hN : a * 2 ^ (D.fractionBits + 2 + b.log2 - a.log2) = N
          have hdm := Nat.div_add_mod N b
          have hr := Nat.mod_lt N (Nat.pos_of_ne_zero hb0)
          by_cases ha0 : a = 0
          · have hN0 : N = 0 := by rw [← hN, ha0, Nat.zero_mul]
            subst hN0
            simp
          · have hNb : b ≤ N := by
              rw [← hN]
              have l1 := Nat.log2_self_le ha0
              have l2 := Nat.lt_log2_self (n := b)
              have l3 : 2 ^ a.log2 * 2 ^ (D.fractionBits + 2 + b.log2 - a.log2) ≤ a * 2 ^ (D.fractionBits + 2 + b.log2 - a.log2) := Nat.mul_le_mul_right _ l1
              rw [← Nat.pow_add] at l3
              have l4 := Nat.pow_le_pow_right (n := 2) (by omega) (show b.log2 + 1 ≤ a.log2 + (D.fractionBits + 2 + b.log2 - a.log2) by omega)
              omega
            have hs : (N % b != 0).toNat ≤ 1 := by cases (N % b != 0) <;> simp
            have e : (2 * (N / b) + (N % b != 0).toNat) * b ≤ 2 * (b * (N / b)) + b := by
              rw [Nat.add_mul, Nat.mul_assoc, Nat.mul_comm (N / b) b]
              have := Nat.mul_le_mul_right b hs
              omega
            omega
        have hf : fop .quo .f64 x y = D.write (.number (sg D x ^^ sg D y) q (i - j - more - 1)) := by
          show ((((D.read x).quotient (D.fractionBits + 2) (D.read y)).map D.write).getD (qn .f64)) = _
          rw [e1, e2, hq1]
          rfl
        rw [hf]
        refine .inr (write_le D _ _ _ _ ?_)
        have g1 := hx.Mg h1
        rw [← ha] at g1
        rw [Mg_P2]
        rw [least64] at *
        obtain ⟨I, hI⟩ : ∃ I : Nat, (i - -1074).toNat = I := ⟨_, rfl⟩
        obtain ⟨J, hJ⟩ : ∃ J : Nat, (j - -1074).toNat = J := ⟨_, rfl⟩
        simp only [pw_is] at *
        rw [hI] at g1
        rw [hJ] at hb1
        -- q * b * 2^(I + J..) against the bound
        have g3 : q * pw (I + 1074) ≤ pw (1074 + k) * pw (J + more + 1) := by
          -- q * b * pw I ≤ 4 * a * pw more * pw I ≤ 4 * pw (1074 + n) * pw more, and pw 1074 ≤ b * pw J
          have s1 : q * b * pw I ≤ 4 * (pw (1074 + n) * pw more) := by
            calc q * b * pw I ≤ 4 * (a * pw more) * pw I := Nat.mul_le_mul_right _ hq2
              _ = 4 * (a * pw I * pw more) := by simp only [Nat.mul_assoc, Nat.mul_comm (pw more)]
              _ ≤ 4 * (pw (1074 + n) * pw more) := Nat.mul_le_mul_left _ (Nat.mul_le_mul_right _ g1)
          calc q * pw (I + 1074) = q * pw I * pw 1074 := by rw [pw_add, Nat.mul_assoc]
            _ ≤ q * pw I * (b * pw J) := Nat.mul_le_mul_left _ hb1
            _ = q * b * pw I * pw J := by simp only [Nat.mul_assoc, Nat.mul_left_comm]
            _ ≤ 4 * (pw (1074 + n) * pw more) * pw J := Nat.mul_le_mul_right _ s1
            _ = pw (1074 + (n + 1)) * pw (J + more + 1) := by
              rw [← Nat.add_assoc, pw_add (1074 + n) 1, pw_add (J + more) 1, pw_add J more, show pw 1 = 2 from rfl]
              generalize pw (1074 + n) = u
              generalize pw more = v
              generalize pw J = t
              rw [show (4 : Nat) = 2 * 2 from rfl]
              simp only [Nat.mul_assoc, Nat.mul_left_comm, Nat.mul_comm]
            _ ≤ pw (1074 + k) * pw (J + more + 1) := Nat.mul_le_mul_right _ (pw_mono (by omega))
        by_cases hs : J + more + 1 ≤ I + 1074
        · rw [show (-1074 - (i - j - more - 1)).toNat = 0 by omega, show (i - j - more - 1 - -1074).toNat = I + 1074 - (J + more + 1) by omega]
          rw [show I + 1074 = (I + 1074 - (J + more + 1)) + (J + more + 1) by omega, pw_add, ← Nat.mul_assoc] at g3
          have := Nat.le_of_mul_le_mul_right g3 (pw_pos _)
          rw [show pw 0 = 1 from rfl, Nat.mul_one]
          exact this
        · rw [show (i - j - more - 1 - -1074).toNat = 0 by omega, show (-1074 - (i - j - more - 1)).toNat = J + more + 1 - (I + 1074) by omega]
          rw [show J + more + 1 = (J + more + 1 - (I + 1074)) + (I + 1074) by omega, pw_add (J + more + 1 - (I + 1074)), ← Nat.mul_assoc] at g3
          have := Nat.le_of_mul_le_mul_right g3 (pw_pos _)
          rw [show pw 0 = 1 from rfl, Nat.mul_one]
          exact this
      · have hf : fop .quo .f64 x y = D.write (.number (sg D x ^^ sg D y) 0 0) := by
          show ((((D.read x).quotient (D.fractionBits + 2) (D.read y)).map D.write).getD (qn .f64)) = _
          rw [e1, read_inf D (by decide) y heq]
          rfl
        rw [hf]
        exact .inr (write_le D _ _ _ _ (by simp))

/-- a number of at most 2 to the power of 127 can be narrowed -/
theorem B2.fits {n x : Nat} (h : B2 n x) (hn : n ≤ 127) : Fits x := by
  cases h1 : nan .f64 x with
  | true => exact .inl h1
  | false =>
    right
    obtain ⟨a, i, e1, hi, ha, _⟩ := read_fin D x (h.lt h1 (by omega))
    have g := h.Mg h1
    rw [← ha] at g
    have hle : rg Ieee.single (Ieee.single.write (.number (sg D x) a i)) ≤ 254 * 8388608 := by
      refine write_le Ieee.single _ _ _ _ ?_
      have hM : Fl.Mg Ieee.single (254 * 8388608) = pw (149 + 127) := by decide +kernel
      rw [hM, least32]
      rw [least64] at g hi
      obtain ⟨I, hI⟩ : ∃ I : Nat, (i - -1074).toNat = I := ⟨_, rfl⟩
      rw [hI] at g
      simp only [pw_is] at *
      have g2 : a * pw I ≤ pw (149 + 127) * pw 925 := by
        rw [← pw_add]
        exact Nat.le_trans g (pw_mono (by omega))
      by_cases hs : 925 ≤ I
      · rw [show (-149 - i).toNat = 0 by omega, show (i - -149).toNat = I - 925 by omega]
        rw [show I = (I - 925) + 925 by omega, pw_add, ← Nat.mul_assoc] at g2
        have := Nat.le_of_mul_le_mul_right g2 (pw_pos _)
        rw [show pw 0 = 1 from rfl, Nat.mul_one]
        exact this
      · rw [show (i - -149).toNat = 0 by omega, show (-149 - i).toNat = 925 - I by omega]
        have e : pw 925 = pw (925 - I) * pw I := by rw [← pw_add]; congr 1; omega
        rw [e, ← Nat.mul_assoc] at g2
        have := Nat.le_of_mul_le_mul_right g2 (pw_pos _)
        rw [show pw 0 = 1 from rfl, Nat.mul_one]
        exact this
    have hninf : (FloatKind.f32.decode (FloatKind.f32.encode (.number (sg D x) a i))).isInfinity = false := by
      obtain ⟨m', e', hr', _⟩ := read_fin Ieee.single (Ieee.single.write (.number (sg D x) a i)) (by rw [inf32]; omega)
      show (Ieee.single.read (Ieee.single.write (.number (sg D x) a i))).isInfinity = false
      rw [hr']
      rfl
    unfold floatToFloatBits
    rw [if_neg (by decide)]
    have e1' : FloatKind.f64.decode x = .number (sg D x) a i := e1
    rw [e1']
    simp only [hninf]
    simp

/-- float64(n) of an integer -/
theorem B2.ofInt {n : Nat} {k : Int} (h : k.natAbs ≤ 2 ^ n) : B2 n (floatOfInt .f64 k) := by
  refine .inr ?_
  show rg D (D.write (.number (k < 0) k.natAbs 0)) ≤ P2 n
  refine write_le D _ _ _ _ ?_
  rw [Mg_P2, least64]
  simp only [pw_is]
  rw [show ((0 : Int) - -1074).toNat = 1074 from rfl, show ((-1074 : Int) - 0).toNat = 0 from rfl]
  rw [show pw 0 = 1 from rfl, Nat.mul_one, Nat.add_comm 1074 n, pw_add]
  exact Nat.mul_le_mul_right _ h

/-- int64(x) of a number whose absolute value is at most 2 to the power of 62 -/
def fint (x : Nat) : Int := (floatToIntVal .f64 x .i64).getD 0
theorem fint_some {n x : Nat} (h : B2 n x) (hn : n ≤ 62) (hx : nan .f64 x = false) : floatToIntVal .f64 x .i64 = some (fint x) ∧ (fint x).natAbs ≤ 2 ^ n := by
  obtain ⟨a, i, e1, hi, ha, _⟩ := read_fin D x (h.lt hx (by omega))
  have g := h.Mg hx
  rw [← ha] at g
  have e1' : FloatKind.f64.decode x = .number (sg D x) a i := e1
  have hb : Toward.zero.cut (sg D x) (a <<< i.toNat) (-i).toNat ≤ 2 ^ n := by
    unfold Toward.cut
    simp only [Bool.toNat_false, Nat.add_zero]
    rw [least64] at g hi
    obtain ⟨I, hI⟩ : ∃ I : Nat, (i - -1074).toNat = I := ⟨_, rfl⟩
    rw [hI] at g
    simp only [pw_is] at *
    rw [Nat.shiftLeft_eq, Nat.shiftLeft_eq, Nat.one_mul]
    by_cases hi0 : 0 ≤ i
    · rw [show (-i).toNat = 0 by omega, Nat.zero_min]
      rw [show (2 : Nat) ^ 0 = 1 from rfl, Nat.div_one]
      have : I = i.toNat + 1074 := by omega
      rw [this, pw_add, Nat.add_comm 1074 n, pw_add, ← Nat.mul_assoc] at g
      exact Nat.le_of_mul_le_mul_right g (pw_pos _)
    · rw [show i.toNat = 0 by omega]
      simp only [Nat.pow_zero, Nat.mul_one]
      by_cases hd : (-i).toNat ≤ a.log2 + 2
      · rw [Nat.min_eq_left hd]
        apply Nat.div_le_of_le_mul
        have : I + (-i).toNat = 1074 := by omega
        rw [Nat.add_comm 1074 n, pw_add] at g
        rw [← this, pw_add, Nat.mul_comm (pw I), ← Nat.mul_assoc] at g
        have := Nat.le_of_mul_le_mul_right g (pw_pos _)
        rw [Nat.mul_comm]
        exact this
      · rw [Nat.min_eq_right (by omega)]
        have hlt := Nat.lt_log2_self (n := a)
        have e2 : 2 ^ (a.log2 + 2) = 2 * 2 ^ (a.log2 + 1) := by rw [Nat.pow_succ, Nat.mul_comm]
        rw [Nat.div_eq_of_lt (by omega)]
        exact Nat.zero_le _
  have hk : ∃ k : Int, (FloatKind.f64.decode x).toInt .zero = some k ∧ k.natAbs ≤ 2 ^ n := by
    rw [e1']
    refine ⟨_, rfl, ?_⟩
    simp only [signed]
    cases hs : sg D x <;> rw [hs] at hb <;> simpa using hb
  obtain ⟨k, hk1, hk2⟩ := hk
  have hpow : 2 ^ n ≤ 2 ^ 62 := Nat.pow_le_pow_right (by omega) hn
  have hv : floatToIntVal .f64 x .i64 = some k := by
    unfold floatToIntVal
    rw [hk1]
    simp only [IntKind.min, IntKind.max, IntKind.bits, IntKind.signed]
    rw [if_pos (by simp; omega)]
  unfold fint
  rw [hv]
  exact ⟨rfl, hk2⟩

/-! ### The root -/
theorem rootFrom_le (n : Nat) : ∀ (k r : Nat), r * r ≤ n → Datum.rootFrom n k r * Datum.rootFrom n k r ≤ n
  | 0, r, h => h
  | k + 1, r, h => by
    unfold Datum.rootFrom
    simp only
    split
    · rename_i h2
      exact rootFrom_le n k _ h2
    · exact rootFrom_le n k _ h
theorem rootFrom_ge (n : Nat) : ∀ (k r : Nat), r ≤ Datum.rootFrom n k r
  | 0, r => Nat.le_refl _
  | k + 1, r => by
    unfold Datum.rootFrom
    simp only
    split
    · exact Nat.le_trans (Nat.le_add_right _ _) (rootFrom_ge n k _)
    · exact rootFrom_ge n k _
theorem rootFrom_pos (n : Nat) (hn : n ≠ 0) : ∀ (k r : Nat), 1 ≤ k ∨ 1 ≤ r → 1 ≤ Datum.rootFrom n k r
  | 0, r, h => by
    rcases h with h | h
    · omega
    · exact h
  | k + 1, r, h => by
    by_cases hr : 1 ≤ r
    · exact Nat.le_trans hr (rootFrom_ge n _ _)
    · obtain rfl : r = 0 := by omega
      unfold Datum.rootFrom
      simp only
      by_cases hk : 1 ≤ k
      · exact rootFrom_pos n hn k _ (.inl hk)
      · obtain rfl : k = 0 := by omega
        simp only [Nat.zero_add, Nat.shiftLeft_zero, Nat.mul_one]
        rw [if_pos (by omega)]
        exact Nat.le_refl _

/-- the root, as the model has it; of a negative number a NaN -/
def froot (x : Nat) : Nat := (D.sqrt x).getD (qn .f64)
theorem froot_nan {x : Nat} (h : nan .f64 x = true) : froot x = qn .f64 := by
  obtain ⟨s, t, hd⟩ := read_of_nan h
  unfold froot Format.sqrt
  have hd' : D.read x = .nan s t := hd
  rw [hd']
  rfl
theorem froot_congr {x y : Nat} (h : FEq .f64 x y) : froot x = froot y := by
  rcases h.cases with rfl | ⟨h1, h2⟩
  · rfl
  · rw [froot_nan h1, froot_nan h2]
theorem sqrt_none (x : Nat) (h : D.sqrt x = none) : froot x = qn .f64 := by unfold froot; rw [h]; rfl
theorem run_sqrt {P : Program} (w : World) (x : Nat) : ∃ v n, FEq .f64 v (froot x) ∧ (Extern.MathSqrt.sqrt #[.float .f64 x]).run P w = .ok (.float .f64 v) (w.drewN n) := by
  cases h : D.sqrt x with
  | some r =>
    refine ⟨r, 0, ?_, ?_⟩
    · unfold froot; rw [h]; exact FEq.refl _ _
    · have h' : FloatKind.f64.format.sqrt x = some r := h
      change Sem.run P (match FloatKind.f64.format.sqrt x with | some r => pure (Value.float .f64 r) | none => do pure (Value.float .f64 (← choose (.nanBits .f64 x x)))) w = _
      rw [h']
      rfl
  | none =>
    refine ⟨_, 1, FEq.of_nan (cut_nan .f64 x x (w.tape w.drawn (.nanBits .f64 x x))) (by rw [sqrt_none x h]; exact nan_qn _), ?_⟩
    have h' : FloatKind.f64.format.sqrt x = none := h
    change Sem.run P (match FloatKind.f64.format.sqrt x with | some r => pure (Value.float .f64 r) | none => do pure (Value.float .f64 (← choose (.nanBits .f64 x x)))) w = _
    rw [h']
    simp [choose, Sem.run, Question.forced, World.drewN]
theorem B2.root {n j k x : Nat} (h : B2 n x) (hn : n ≤ 1023) (hj : n ≤ 2 * j) (hk : j + 1 ≤ k) : B2 k (froot x) := by
  cases h1 : nan .f64 x with
  | true => rw [froot_nan h1]; exact B2_qn k
  | false =>
    obtain ⟨a, i, e1, hi, ha, hlt⟩ := read_fin D x (h.lt h1 (by omega))
    cases hs : D.sqrt x with
    | none => rw [sqrt_none x hs]; exact B2_qn k
    | some r =>
      have hr : froot x = r := by unfold froot; rw [hs]; rfl
      rw [hr]
      unfold Format.sqrt at hs
      rw [e1] at hs
      simp only [Datum.root] at hs
      by_cases ha0 : a = 0
      · rw [if_pos ha0] at hs
        injection hs with hs
        rw [← hs, ha0]
        exact .inr (write_le D _ _ _ _ (by simp))
      · rw [if_neg ha0] at hs
        split at hs
        · cases hs
        · injection hs with hs
          rw [← hs]
          clear hs
          have hfrac : D.fractionBits = 52 := rfl
          rw [hfrac]
          have hb : D.binade = 2 ^ 52 := rfl
          have hlog : a.log2 ≤ 53 := by
            have : a < 2 ^ 54 := by rw [hb] at hlt; omega
            have := (Nat.log2_lt ha0).2 this
            omega
          have g := h.Mg h1
          rw [← ha] at g
          generalize hmore : 2 * (52 + 2) - a.log2 + ((i - (2 * (52 + 2) - a.log2 : Nat)) % 2).toNat = more
          have hmore1 : more ≤ 109 := by omega
          have heven : (i - (more : Int)) % 2 = 0 := by omega
          generalize hN : a <<< more = N
          rw [Nat.shiftLeft_eq] at hN
          have hN0 : N ≠ 0 := by
            rw [← hN]
            exact Nat.ne_of_gt (Nat.mul_pos (Nat.pos_of_ne_zero ha0) (Nat.two_pow_pos _))
          have hw1 := rootFrom_le N (N.log2 / 2 + 1) 0 (by simp)
          have hw2 := rootFrom_pos N hN0 (N.log2 / 2 + 1) 0 (.inl (by omega))
          generalize Datum.rootFrom N (N.log2 / 2 + 1) 0 = W at *
          have hst : (W * W != N).toNat ≤ 1 := by cases (W * W != N) <;> simp
          generalize (W * W != N).toNat = s at *
          refine .inr (write_le D _ _ _ _ ?_)
          rw [Mg_P2]
          rw [least64] at *
          obtain ⟨I, hI⟩ : ∃ I : Nat, (i - -1074).toNat = I := ⟨_, rfl⟩
          rw [hI] at g
          simp only [pw_is] at *
          obtain ⟨q, hq⟩ : ∃ q : Nat, ((i - (more : Int)) / 2 - 1 - -1074).toNat = q := ⟨_, rfl⟩
          rw [hq, show (-1074 - ((i - (more : Int)) / 2 - 1)).toNat = 0 by omega, show pw 0 = 1 from rfl, Nat.mul_one]
          -- (W * 2^(q+1))^2 = W^2 * 2^(2q+2) ≤ N * 2^(2q+2) = a * 2^(more + 2q + 2) = a * 2^(I + 1074)
          have hexp : more + (2 * q + 2) = I + 1074 := by omega
          have hsq : W * pw (q + 1) * (W * pw (q + 1)) ≤ pw (1074 + j) * pw (1074 + j) := by
            calc W * pw (q + 1) * (W * pw (q + 1)) = W * W * pw (2 * q + 2) := by
                  rw [show 2 * q + 2 = (q + 1) + (q + 1) by omega, pw_add (q + 1) (q + 1)]
                  simp only [Nat.mul_assoc, Nat.mul_left_comm]
              _ ≤ N * pw (2 * q + 2) := Nat.mul_le_mul_right _ hw1
              _ = a * pw (I + 1074) := by rw [← hN, Nat.mul_assoc, ← pw_add, hexp]
              _ = a * pw I * pw 1074 := by rw [pw_add, Nat.mul_assoc]
              _ ≤ pw (1074 + n) * pw 1074 := Nat.mul_le_mul_right _ g
              _ ≤ pw (1074 + j) * pw (1074 + j) := by rw [← pw_add, ← pw_add]; exact pw_mono (by omega)
          have hle : W * pw (q + 1) ≤ pw (1074 + j) := by
            refine Nat.le_of_not_lt fun hgt => ?_
            have := Nat.mul_lt_mul_of_lt_of_le hgt (Nat.le_of_lt hgt) (by have := pw_pos (1074 + j); omega)
            omega
          have e : pw (q + 1) = pw q + pw q := (pw_two q).symm
          have e2 : pw (1074 + (j + 1)) = pw (1074 + j) + pw (1074 + j) := (pw_two _).symm
          have e3 := pw_mono (show 1074 + (j + 1) ≤ 1074 + k by omega)
          rw [e, Nat.mul_add] at hle
          have e4 : (2 * W + s) * pw q ≤ 2 * (W * pw q) + W * pw q := by
            rw [Nat.add_mul, Nat.mul_assoc]
            have := Nat.mul_le_mul_right (pw q) (show s ≤ W by omega)
            omega
          omega

/-- THE WALK'S LAW for a call of math.sqrt, which has no body here -/
theorem wpList_sqrt {P : Program} {ops : Array Oper} {Q : Exit → Act → World → Prop} {a : Act} {w : World} {rest : List Oper}
    {d : Option Tmp} {ty : TypeId} {o : Operand} {ts : Array TypeId} {f : FuncId} {fn : Func} {pos : String} {af : Array Edge} {g : Option (Nat × Bool)}
    (hf : P.funcs[f]? = some fn) (hname : (fn.name == "runtime.NumGoroutine") = false) (hb : fn.body.isNone = true) (hn : Extern.findNext fn = none) (he : Extern.find fn = some Extern.MathSqrt.sqrt)
    (hw : Region.wanted ⟨d, .call { callee := .value (.func f), args := #[o], argTypes := ts }, ty, pos, af, g⟩ (yielded ops a.tmps) = true)
    {x : Nat} (ho : a.eval o = .float .f64 x)
    (hK : ∀ v n, FEq .f64 v (froot x) → wpList P ops Q rest (a.put d (.float .f64 v)) (w.drewN n)) :
    wpList P ops Q (⟨d, .call { callee := .value (.func f), args := #[o], argTypes := ts }, ty, pos, af, g⟩ :: rest) a w := by
  refine wpList_step fun K hK' => ?_
  rw [if_pos hw]
  obtain ⟨v, n, hv, hrun⟩ := run_sqrt (P := P) w x
  have hc := run_callFunc_extern hf hname hb hn he #[.float .f64 x] w
  rw [hrun] at hc
  have hfe : a.eval (.func f) = .func (.func f) #[] #[] := rfl
  unfold Oper.wp
  have h2 : (execOp a.eval ⟨d, .call { callee := .value (.func f), args := #[o], argTypes := ts }, ty, pos, af, g⟩).run P w = .ok (.value (.float .f64 v)) (w.drewN n) := by
    simp [execOp, resolve, invoke, Deferred.ofValue, hfe, ho, hc]
  rw [h2]
  exact hK' _ _ (hK v n hv)

/-- a finite float32, made a float64 -/
theorem B2.wide {x : Nat} (h : rg Ieee.single x < 2139095040) : B2 128 (fwide x) := by
  refine .inr ?_
  have hw := (wide_fin x h).2.2.2
  have hlt := Mg_smono Ieee.single (show rg Ieee.single x < Ieee.single.infRung by rw [inf32]; exact h)
  rw [Mg_inf32] at hlt
  refine (Mg_le_iff D).1 ?_
  rw [Mg_P2, hw]
  have e : pw (1074 + 128) = pw 277 * w925 := by rw [w925, ← pw_add]
  rw [e]
  exact Nat.mul_le_mul_right _ (Nat.le_of_lt hlt)
theorem Fits_inf {x : Nat} (h : rg D x = 9218868437227405312) : Fits x := by
  right
  have hr : FloatKind.f64.decode x = .infinity (sg D x) := read_inf D (by decide) x (by rw [inf64]; exact h)
  unfold floatToFloatBits
  rw [if_neg (by decide), hr]
  rfl
theorem root_fits (x : Nat) : Fits (froot (fwide x)) := by
  cases hn : nan .f32 x with
  | true => exact .inl (by rw [froot_nan (by rw [nan_wide, hn])]; exact nan_qn _)
  | false =>
    have h2 := rg_le_of hn
    change rg Ieee.single x ≤ Ieee.single.infRung at h2
    rw [inf32] at h2
    rcases Nat.lt_or_eq_of_le h2 with h | h
    · exact ((B2.wide h).root (j := 64) (k := 65) (by omega) (by omega) (by omega)).fits (by omega)
    · have hw := wide_inf x h
      have hr : D.read (fwide x) = .infinity (sg D (fwide x)) := read_inf D (by decide) _ (by rw [inf64]; exact hw.2.2)
      unfold froot Format.sqrt
      rw [hr]
      cases hs : sg D (fwide x) with
      | true => exact .inl (nan_qn .f64)
      | false => exact Fits_inf (by decide +kernel)

/-! ### Finite numbers, bounded: every operation gives just one number -/
def F2 (n v : Nat) : Prop := n ≤ 1023 ∧ rg D v ≤ P2 n
theorem F2.nn {n v : Nat} (h : F2 n v) : nan .f64 v = false := by
  rw [nan_eq]
  have := P2_inf h.1
  have h2 := h.2
  change decide (D.infRung < rg D v) = false
  simp
  omega
theorem F2.lt {n v : Nat} (h : F2 n v) : rg D v < D.infRung := Nat.lt_of_le_of_lt h.2 (P2_inf h.1)
theorem F2.b {n v : Nat} (h : F2 n v) : B2 n v := .inr h.2
theorem F2.mono {n m v : Nat} (h : F2 n v) (hm : n ≤ m) (hk : m ≤ 1023) : F2 m v := ⟨hk, Nat.le_trans h.2 (P2_mono hm)⟩
theorem F2.of {n v : Nat} (h : B2 n v) (hn : nan .f64 v = false) (hk : n ≤ 1023) : F2 n v := ⟨hk, h.fin hn⟩
theorem nn_write (s : Bool) (m : Nat) (e : Int) : nan .f64 (D.write (.number s m e)) = false := by
  rw [nan_eq]
  have hsw := D.infRung_lt
  change decide (D.infRung < rg D (D.nearest s m e)) = false
  have : rg D (D.nearest s m e) ≤ D.infRung := by
    by_cases h0 : m = 0
    · subst h0
      simp only [Format.nearest, if_true]
      rw [rg_word _ _ (signWeight_pos D)]
      exact Nat.zero_le _
    · rw [nearest_eq D s m e h0, rg_word _ _ (by omega)]
      exact Nat.min_le_right _ _
  simp
  omega
theorem nn_add {x y : Nat} (hx : rg D x < D.infRung) (hy : rg D y < D.infRung) : nan .f64 (fop .add .f64 x y) = false := by
  obtain ⟨s, m, e, h1, _⟩ := sum_fin D x y hx hy
  have hf : fop .add .f64 x y = D.write (.number s m e) := by
    show ((((D.read x).sum (D.read y)).map D.write).getD (qn .f64)) = _
    rw [h1]
    rfl
  rw [hf]
  exact nn_write _ _ _
theorem nn_mul {x y : Nat} (hx : rg D x < D.infRung) (hy : rg D y < D.infRung) : nan .f64 (fop .mul .f64 x y) = false := by
  obtain ⟨a, i, e1, _⟩ := read_fin D x hx
  obtain ⟨b, j, e2, _⟩ := read_fin D y hy
  have hf : fop .mul .f64 x y = D.write (.number (sg D x ^^ sg D y) (a * b) (i + j)) := by
    show ((((D.read x).product (D.read y)).map D.write).getD (qn .f64)) = _
    rw [e1, e2]
    rfl
  rw [hf]
  exact nn_write _ _ _
theorem nn_div {x y : Nat} (hx : rg D x < D.infRung) (hy : rg D y < D.infRung) (h0 : 0 < rg D y) : nan .f64 (fop .quo .f64 x y) = false := by
  obtain ⟨a, i, e1, _⟩ := read_fin D x hx
  obtain ⟨b, j, e2, _, hb, _⟩ := read_fin D y hy
  have hb0 : b ≠ 0 := by
    intro hb0
    rw [hb0, Nat.zero_mul] at hb
    have := Mg_smono D h0
    omega
  have hq : ∃ s m e, (Datum.number (sg D x) a i).quotient (D.fractionBits + 2) (Datum.number (sg D y) b j) = some (.number s m e) := by
    simp only [Datum.quotient]
    rw [if_neg hb0]
    exact ⟨_, _, _, rfl⟩
  obtain ⟨s, m, e, hq⟩ := hq
  have hf : fop .quo .f64 x y = D.write (.number s m e) := by
    show ((((D.read x).quotient (D.fractionBits + 2) (D.read y)).map D.write).getD (qn .f64)) = _
    rw [e1, e2, hq]
    rfl
  rw [hf]
  exact nn_write _ _ _
theorem F2.add {n m x y : Nat} (hx : F2 n x) (hy : F2 m y) (k : Nat) (hn : n + 1 ≤ k) (hm : m + 1 ≤ k) (hk : k ≤ 1023) : F2 k (fop .add .f64 x y) :=
  F2.of (hx.b.add hy.b hn hm hk) (nn_add hx.lt hy.lt) hk
theorem F2.neg {n x : Nat} (hx : F2 n x) : F2 n (fneg .f64 x) := ⟨hx.1, by rw [show rg D (fneg .f64 x) = rg D x from rg_fneg .f64 x]; exact hx.2⟩
theorem F2.sub {n m x y : Nat} (hx : F2 n x) (hy : F2 m y) (k : Nat) (hn : n + 1 ≤ k) (hm : m + 1 ≤ k) (hk : k ≤ 1023) : F2 k (fop .sub .f64 x y) := by
  rw [fop_sub]
  exact hx.add hy.neg k hn hm hk
theorem F2.mul {n m x y : Nat} (hx : F2 n x) (hy : F2 m y) (k : Nat) (hn : n + m ≤ k) (hk : k ≤ 1023) : F2 k (fop .mul .f64 x y) :=
  F2.of (hx.b.mul hy.b hn hk) (nn_mul hx.lt hy.lt) hk
theorem F2.div {n m x y : Nat} (hx : F2 n x) (hy : F2 m y) (h1 : P2 0 ≤ rg D y) (k : Nat) (hn : n + 1 ≤ k) (hk : k ≤ 1023) : F2 k (fop .quo .f64 x y) :=
  F2.of (hx.b.div (.inr h1) hn hk) (nn_div hx.lt hy.lt (Nat.lt_of_lt_of_le (by decide) h1)) hk
theorem F2.ofInt {n : Nat} {k : Int} (h : k.natAbs ≤ 2 ^ n) (hn : n ≤ 1023) : F2 n (floatOfInt .f64 k) :=
  F2.of (B2.ofInt h) (nn_write _ _ _) hn
theorem F2.wide {x : Nat} (h : rg Ieee.single x < 2139095040) : F2 128 (fwide x) :=
  F2.of (B2.wide h) (by
    rw [nan_wide, nan_eq]
    change decide (Ieee.single.infRung < rg Ieee.single x) = false
    rw [inf32]
    simp
    omega) (by omega)
theorem F2.fits {n x : Nat} (h : F2 n x) (hn : n ≤ 127) : Fits x := h.b.fits hn

/-- THE WALK'S LAW for an operation that gives a number: just that number; the world is as it was -/
theorem run_fop_det {P : Program} {op : BinOp} {k : FloatKind} {x y : Nat} (h : nan k (fop op k x y) = false) (t : TypeId) (w : World) :
    (binOp op t (.float k x) (.float k y)).run P w = .ok (.float k (fop op k x y)) w := by
  cases hb : floatBits op k x y with
  | some r =>
    have : fop op k x y = r := by unfold fop; rw [hb]; rfl
    rw [this]
    exact run_float_arith w op t k x y r hb
  | none =>
    have : fop op k x y = qn k := by unfold fop; rw [hb]; rfl
    rw [this, nan_qn] at h
    cases h
/-- the same, the result under a name -/
theorem det_named {P : Program} {op : BinOp} {k : FloatKind} {x y : Nat} (h : nan k (fop op k x y) = false) (t : TypeId) :
    ∃ z, Hid (fop op k x y = z) ∧ ∀ w, (binOp op t (.float k x) (.float k y)).run P w = .ok (.float k z) w := ⟨_, hid rfl, run_fop_det h t⟩

/-! ### A number without its whole part -/
theorem nat_pw (n : Nat) : ((pw n : Nat) : Int) = (pw n : Nat) := rfl
theorem ofInt_sv {k : Int} (h : k.natAbs ≤ 2 ^ 52) : sv D (floatOfInt .f64 k) = k * (pw 1074 : Nat) := by
  have hB := binade64
  have h52 : (2 : Nat) ^ 52 = 4503599627370496 := by decide +kernel
  rw [h52] at h
  show sv D (D.write (.number (k < 0) k.natAbs 0)) = _
  by_cases h0 : k = 0
  · subst h0
    have : sv D (D.write (.number (decide ((0 : Int) < 0)) (Int.natAbs 0) 0)) = 0 := by decide +kernel
    rw [this]
    simp
  · have hn : k.natAbs ≠ 0 := by omega
    obtain ⟨g, hg⟩ := Mg_surj D k.natAbs 1074 (by rw [hB]; omega)
    simp only [pw_is] at hg
    have hgi : g < D.infRung := by
      refine (Mg_lt_iff D).1 ?_
      rw [hg, Mg_inf64]
      refine Nat.lt_of_le_of_lt (Nat.mul_le_mul_right _ h) ?_
      exact of_decide_eq_true (by decide +kernel)
    have hnr : nearRung D k.natAbs 0 = g := by
      refine near_exact D k.natAbs 0 hn g ?_
      rw [least64]
      simp only [pw_is]
      rw [show ((0 : Int) - -1074).toNat = 1074 from rfl, show ((-1074 : Int) - 0).toNat = 0 from rfl, hg]
      rw [show pw 0 = 1 from rfl, Nat.mul_one]
    have hw : D.write (.number (k < 0) k.natAbs 0) = D.word (k < 0) g := by
      show D.nearest _ _ _ = _
      rw [nearest_eq D _ _ _ hn, hnr, Nat.min_eq_left (by omega)]
    have hsw := D.infRung_lt
    rw [hw]
    unfold sv
    rw [sg_word _ _ (by omega), rg_word _ _ (by omega), hg]
    generalize pw 1074 = q
    by_cases hk : k < 0
    · rw [if_pos (by simpa using hk)]
      rw [Int.natCast_mul, show ((k.natAbs : Nat) : Int) = -k by omega, Int.neg_mul, Int.neg_neg]
    · rw [if_neg (by simpa using hk)]
      rw [Int.natCast_mul, show ((k.natAbs : Nat) : Int) = k by omega]
/-- cut towards zero: off by less than one -/
theorem fint_near {x : Nat} (h : F2 52 x) : (sv D x - fint x * (pw 1074 : Nat)).natAbs < pw 1074 := by
  obtain ⟨a, i, e1, hi, ha, _⟩ := read_fin D x h.lt
  have hv := (fint_some h.b (by omega) h.nn).1
  have e1' : FloatKind.f64.decode x = .number (sg D x) a i := e1
  rw [least64] at hi ha
  obtain ⟨I, hI⟩ : ∃ I : Nat, (i - -1074).toNat = I := ⟨_, rfl⟩
  rw [hI] at ha
  simp only [pw_is] at ha
  have hlow : Toward.zero.cut (sg D x) (a <<< i.toNat) (-i).toNat * pw 1074 ≤ a * pw I ∧ a * pw I < (Toward.zero.cut (sg D x) (a <<< i.toNat) (-i).toNat + 1) * pw 1074 := by
    unfold Toward.cut
    simp only [Bool.toNat_false, Nat.add_zero]
    rw [Nat.shiftLeft_eq, Nat.shiftLeft_eq, Nat.one_mul]
    by_cases hi0 : 0 ≤ i
    · rw [show (-i).toNat = 0 by omega, Nat.zero_min]
      rw [show (2 : Nat) ^ 0 = 1 from rfl, Nat.div_one]
      have : I = i.toNat + 1074 := by omega
      rw [this, pw_add, ← Nat.mul_assoc]
      simp only [pw_is]
      refine ⟨Nat.le_refl _, ?_⟩
      rw [Nat.add_mul]
      have := pw_pos 1074
      omega
    · rw [show i.toNat = 0 by omega]
      simp only [Nat.pow_zero, Nat.mul_one]
      have hId : (-i).toNat + I = 1074 := by omega
      by_cases hd : (-i).toNat ≤ a.log2 + 2
      · rw [Nat.min_eq_left hd]
        simp only [pw_is]
        have h1 := Nat.div_add_mod a (pw (-i).toNat)
        have h2 := Nat.mod_lt a (pw_pos (-i).toNat)
        have e : pw 1074 = pw (-i).toNat * pw I := by rw [← pw_add, hId]
        rw [e, ← Nat.mul_assoc, ← Nat.mul_assoc]
        constructor
        · refine Nat.mul_le_mul_right _ ?_
          rw [Nat.mul_comm]
          omega
        · refine Nat.mul_lt_mul_of_pos_right ?_ (pw_pos I)
          rw [Nat.add_mul, Nat.mul_comm]
          omega
      · rw [Nat.min_eq_right (by omega)]
        have hlt := Nat.lt_log2_self (n := a)
        have e2 : 2 ^ (a.log2 + 2) = 2 * 2 ^ (a.log2 + 1) := by rw [Nat.pow_succ, Nat.mul_comm]
        rw [Nat.div_eq_of_lt (by omega)]
        refine ⟨by rw [Nat.zero_mul]; exact Nat.zero_le _, ?_⟩
        rw [Nat.zero_add, Nat.one_mul, ← hId, pw_add]
        refine Nat.mul_lt_mul_of_pos_right (Nat.lt_of_lt_of_le hlt ?_) (pw_pos I)
        exact Nat.pow_le_pow_right (by omega) (by omega)
  generalize hT : Toward.zero.cut (sg D x) (a <<< i.toNat) (-i).toNat = T at hlow
  have hf : fint x = if sg D x = true then -(T : Int) else (T : Int) := by
    have h2 : (FloatKind.f64.decode x).toInt .zero = some (if sg D x = true then -(T : Int) else (T : Int)) := by
      rw [e1']
      simp only [Datum.toInt, Datum.integral, hT, signed]
      simp
    generalize (if sg D x = true then -(T : Int) else (T : Int)) = K at h2 ⊢
    unfold floatToIntVal at hv
    rw [h2] at hv
    simp only at hv
    split at hv
    · injection hv with hv
      exact hv.symm
    · cases hv
  rw [hf]
  unfold sv
  rw [← ha]
  generalize a * pw I = M at *
  generalize pw 1074 = q at *
  rw [Nat.add_mul] at hlow
  obtain ⟨l1, l2⟩ := hlow
  have hc : ((T * q : Nat) : Int) = (T : Int) * (q : Int) := Int.natCast_mul T q
  cases sg D x
  · simp only [Bool.false_eq_true, if_false]
    omega
  · simp only [if_true]
    rw [Int.neg_mul]
    omega
def C1 : Nat := 4607182418800017408
def fracF (x : Nat) : Nat := if (D.order (fop .sub .f64 x (floatOfInt .f64 (fint x))) 0 == some Ordering.lt) = true then fop .add .f64 (fop .sub .f64 x (floatOfInt .f64 (fint x))) C1 else fop .sub .f64 x (floatOfInt .f64 (fint x))
theorem add_F2 {n x y : Nat} (hx : rg D x < D.infRung) (hy : rg D y < D.infRung) (hn : n ≤ 1023) (h : (sv D x + sv D y).natAbs ≤ pw (1074 + n)) : F2 n (fop .add .f64 x y) :=
  ⟨hn, add_le x y _ hx hy (by rw [Mg_P2]; exact h)⟩
theorem sub_F2 {n x y : Nat} (hx : rg D x < D.infRung) (hy : rg D y < D.infRung) (hn : n ≤ 1023) (h : (sv D x - sv D y).natAbs ≤ pw (1074 + n)) : F2 n (fop .sub .f64 x y) := by
  rw [fop_sub]
  refine add_F2 hx (by rw [show rg D (fneg .f64 y) = rg D y from rg_fneg .f64 y]; exact hy) hn ?_
  rw [show sv D (fneg .f64 y) = -sv D y from sv_fneg .f64 y]
  exact h
theorem less_F2 {x : Nat} (h : F2 52 x) : F2 0 (fop .sub .f64 x (floatOfInt .f64 (fint x))) := by
  have hi := (fint_some h.b (by omega) h.nn).2
  have ho := F2.ofInt hi (by omega)
  refine sub_F2 h.lt ho.lt (by omega) ?_
  rw [ofInt_sv hi]
  exact Nat.le_of_lt (fint_near h)
theorem order_lt0 {x : Nat} (hx : rg D x ≤ D.infRung) : (D.order x 0 == some Ordering.lt) = decide (sv D x < 0) := by
  rw [order_sv D (by decide) x 0 hx (by decide +kernel)]
  have h0 : sv D 0 = 0 := by decide +kernel
  rw [h0, Bool.eq_iff_iff]
  simp [Int.compare_eq_lt]
theorem sv_C1 : sv D C1 = (pw 1074 : Nat) := by decide +kernel
theorem frac_F2 {x : Nat} (h : F2 52 x) : F2 0 (fracF x) := by
  have hf := less_F2 h
  unfold fracF
  generalize fop .sub .f64 x (floatOfInt .f64 (fint x)) = f at *
  split
  · rename_i hlt
    rw [order_lt0 (Nat.le_of_lt hf.lt)] at hlt
    have hlt : sv D f < 0 := by simpa using hlt
    refine add_F2 hf.lt (by decide +kernel) (by omega) ?_
    have hm := natAbs_sv D f
    have hb : Fl.Mg D (rg D f) ≤ pw (1074 + 0) := by rw [← Mg_P2]; exact Mg_mono D hf.2
    rw [sv_C1]
    simp only [Nat.add_zero] at *
    omega
  · exact hf
end Go.Proofs.Fl
