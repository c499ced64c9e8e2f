/-
  FnNumbers: whatever the input, the law returns true and leaves its arguments as they were (statement Rows.FnNumbersSaid). No condition of its own.
-/
import Derived.Laws.Externs
import Derived.LoopTactic
import Derived.Deep.QuietTactic
import Derived.BigQuiet
import Derived.Lib.ConvBytes
import Derived.Lib.Hide
import Derived.BigCall
import Derived.BigGuard
import Derived.Shelf.Strings.Builder1
import Derived.Shelf.Strings.Builder2
import Derived.Shelf.Strings.OnBuilder
import Derived.Shelf.Strings.BuilderF
import Derived.Shelf.LaysM
import Derived.Shelf.Strconv.Clone
import Derived.Shelf.Strconv.SyntaxError
import Derived.Shelf.LaysC
import Derived.Shelf.Strconv.ToError
import Derived.Shelf.Strings.Search1
import Derived.Shelf.Strings.Search2
import Derived.Shelf.Strings.Search3
import Derived.Shelf.Strings.Count
import Derived.Shelf.Strings.Shaped
import Derived.Shelf.Strings.Prefix
import Derived.Shelf.Strings.Split
import Derived.Shelf.Bits.Mul64
import Derived.Shelf.Strings.Repeat
import Derived.Shelf.Unicode.DecodeSlow
import Derived.Test.YtkbfhooiloaokaaGreatDoorProg
import Derived.SizedLaws
import Derived.Handed
import Derived.Shelf.Vars
import Derived.Test.YtkbfhooiloaokaaGreatDoorRows
import Derived.Test.YtkbfhooiloaokaaGreatDoorCards
import Derived.Test.YtkbfhooiloaokaaGreatDoorTie
import Derived.Stop.LaidErr
import Derived.LaidMore
import Derived.SevenTiedAt
import Derived.Lib.LaidTab
import Derived.WalkKit
import Derived.ProofKit
import Derived.OpenShut
import Derived.ShutString
import Derived.Laws.Cover2
import Derived.ChangeOld
import Derived.Below
import Derived.Test.YtkbfhooiloaokaaGreatDoorNumbersPa
/-
  Bounds of float64 numbers by powers of two: they pass through + - * / and the root, and keep a number from growing too great to be narrowed or cut to an integer. Over no program.
-/
namespace Go.Proofs.Fl
open Go Ieee Go.RowKit

abbrev D : Format := Ieee.double
/-- the rung of 2 to the power of n -/
def P2 (n : Nat) : Nat := (1023 + n) * 4503599627370496
theorem binade64 : D.binade = 4503599627370496 := by decide +kernel
theorem two52 : (4503599627370496 : Nat) = 2 ^ 52 := by decide +kernel
theorem pw52 (n : Nat) : 2 ^ 52 * 2 ^ (1022 + n) = pw (1074 + n) := by
  have h : 1074 + n = 52 + (1022 + n) := by omega
  unfold pw
  rw [h, Nat.pow_add 2 52 (1022 + n)]
theorem Mg_P2 (n : Nat) : Mg D (P2 n) = pw (1074 + n) := by
  have h := Mg_eq D (1022 + n) 4503599627370496 (by rw [binade64]; omega) (.inr (by rw [binade64]; exact Nat.le_refl _))
  rw [binade64] at h
  have e : P2 n = (1022 + n) * 4503599627370496 + 4503599627370496 := by unfold P2; omega
  rw [e, h]
  have h2 := pw52 n
  rw [← two52] at h2
  exact h2
theorem P2_inf {n : Nat} (h : n ≤ 1023) : P2 n < D.infRung := by
  rw [inf64]
  unfold P2
  omega
theorem P2_mono {n m : Nat} (h : n ≤ m) : P2 n ≤ P2 m := by unfold P2; omega

/-- a NaN, or at most 2 to the power of n -/
def B2 (n v : Nat) : Prop := nan .f64 v = true ∨ rg D v ≤ P2 n
theorem B2.mono {n m v : Nat} (h : B2 n v) (hm : n ≤ m) : B2 m v := h.imp_right fun h => Nat.le_trans h (P2_mono hm)
theorem B2.congr {n v w : Nat} (h : FEq .f64 v w) (hw : B2 n w) : B2 n v := by
  rcases h.cases with rfl | ⟨h1, _⟩
  · exact hw
  · exact .inl h1
theorem B2_qn (n : Nat) : B2 n (qn .f64) := .inl (nan_qn _)

theorem write_le (f : Format) (s : Bool) (m : Nat) (e : Int) (c : Nat) (hv : m * 2 ^ (e - f.leastPlace).toNat ≤ Mg f c * 2 ^ (f.leastPlace - e).toNat) :
    rg f (f.write (.number s m e)) ≤ c := by
  have hsw := f.infRung_lt
  show rg f (f.nearest s m e) ≤ c
  by_cases h0 : m = 0
  · subst h0
    simp only [Format.nearest, if_true]
    rw [rg_word _ _ (signWeight_pos f)]
    exact Nat.zero_le _
  · rw [nearest_eq f s m e h0, rg_word _ _ (by omega)]
    have := near_le f m e h0 c hv
    omega
theorem sg_write (f : Format) (s : Bool) (m : Nat) (e : Int) : sg f (f.write (.number s m e)) = s := by
  have hsw := f.infRung_lt
  show sg f (f.nearest s m e) = s
  by_cases h0 : m = 0
  · subst h0
    simp only [Format.nearest, if_true]
    exact sg_word _ _ (signWeight_pos f)
  · rw [nearest_eq f s m e h0, sg_word _ _ (by omega)]
theorem le_write (f : Format) (s : Bool) (m : Nat) (e : Int) (c : Nat) (hc : c ≤ f.infRung) (hv : Mg f c * 2 ^ (f.leastPlace - e).toNat ≤ m * 2 ^ (e - f.leastPlace).toNat) :
    c ≤ rg f (f.write (.number s m e)) := by
  have hsw := f.infRung_lt
  show c ≤ rg f (f.nearest s m e)
  by_cases h0 : m = 0
  · subst h0
    have : Mg f c = 0 := by
      have := Nat.two_pow_pos (f.leastPlace - e).toNat
      rw [Nat.zero_mul] at hv
      exact (Nat.mul_eq_zero.1 (Nat.le_zero.1 hv)).resolve_right (by omega)
    have hc0 : c = 0 := Mg_inj f (by rw [this, Mg_zero])
    omega
  · rw [nearest_eq f s m e h0, rg_word _ _ (by omega)]
    have := le_near f m e h0 c hv
    omega

/-- the sum of two finite words, before it is rounded: a whole number of units -/
theorem sum_fin (f : Format) (x y : Nat) (hx : rg f x < f.infRung) (hy : rg f y < f.infRung) :
    ∃ (s : Bool) (m : Nat) (e : Int), (f.read x).sum (f.read y) = some (.number s m e) ∧ f.leastPlace ≤ e ∧ m * 2 ^ (e - f.leastPlace).toNat = (sv f x + sv f y).natAbs ∧
      (sv f x + sv f y < 0 → s = true) ∧ (0 < sv f x + sv f y → s = false) ∧ (sv f x + sv f y = 0 → s = (sg f x && sg f y)) := by
  obtain ⟨m, i, e1, hi, hm, _⟩ := read_fin f x hx
  obtain ⟨n, j, e2, hj, hn, _⟩ := read_fin f y hy
  rw [e1, e2]
  have key : ∀ (s : Bool) (m : Nat) (i base : Int), f.leastPlace ≤ base → base ≤ i → signed s m (i - base).toNat * ((2 ^ (base - f.leastPlace).toNat : Nat) : Int) = if s = true then -((m * 2 ^ (i - f.leastPlace).toNat : Nat) : Int) else ((m * 2 ^ (i - f.leastPlace).toNat : Nat) : Int) := by
    intro s m i base h1 h2
    have e : (m <<< (i - base).toNat) * 2 ^ (base - f.leastPlace).toNat = m * 2 ^ (i - f.leastPlace).toNat := by
      rw [Nat.shiftLeft_eq, Nat.mul_assoc, ← Nat.pow_add]
      congr 2
      omega
    rw [← e]
    unfold signed
    cases s <;> simp [Int.neg_mul]
  have k1 := key (sg f x) m i (min i j) (by omega) (by omega)
  have k2 := key (sg f y) n j (min i j) (by omega) (by omega)
  rw [hm] at k1
  rw [hn] at k2
  have ht : (signed (sg f x) m (i - min i j).toNat + signed (sg f y) n (j - min i j).toNat) * ((2 ^ (min i j - f.leastPlace).toNat : Nat) : Int) = sv f x + sv f y := by
    rw [Int.add_mul, k1, k2]
    rfl
  have hp : (0 : Int) < ((2 ^ (min i j - f.leastPlace).toNat : Nat) : Int) := by have := Nat.two_pow_pos (min i j - f.leastPlace).toNat; omega
  refine ⟨_, _, _, rfl, by omega, ?_, ?_, ?_, ?_⟩
  · rw [← ht, Int.natAbs_mul]
    rfl
  all_goals
    generalize signed (sg f x) m (i - min i j).toNat + signed (sg f y) n (j - min i j).toNat = t at *
    generalize ((2 ^ (min i j - f.leastPlace).toNat : Nat) : Int) = p at *
    intro h
    rw [← ht] at h
  · have h1 : t < 0 := by
      refine Int.not_le.1 fun h0 => ?_
      have := Int.mul_nonneg h0 (Int.le_of_lt hp)
      omega
    rw [if_neg (by omega)]
    simpa using h1
  · have h1 : 0 < t := by
      refine Int.not_le.1 fun h0 => ?_
      have := Int.mul_nonpos_of_nonpos_of_nonneg h0 (Int.le_of_lt hp)
      omega
    rw [if_neg (by omega)]
    simp
    omega
  · have h1 : t = 0 := by
      rcases Int.mul_eq_zero.1 h with h2 | h2
      · exact h2
      · omega
    rw [if_pos h1]
theorem natAbs_sv (f : Format) (x : Nat) : (sv f x).natAbs = Mg f (rg f x) := by
  unfold sv
  split <;> omega

/-- where the exact sum is at most a rung's magnitude, the rounded one is at most that rung -/
theorem add_le (x y c : Nat) (hx : rg D x < D.infRung) (hy : rg D y < D.infRung) (h : (sv D x + sv D y).natAbs ≤ Mg D c) :
    rg D (fop .add .f64 x y) ≤ c := by
  obtain ⟨s, m, e, h1, h2, h3, _⟩ := sum_fin D x y hx hy
  have hf : fop .add .f64 x y = D.write (.number s m e) := by
    show ((((D.read x).sum (D.read y)).map D.write).getD (qn .f64)) = _
    rw [h1]
    rfl
  rw [hf]
  refine write_le D s m e c ?_
  rw [h3, show (D.leastPlace - e).toNat = 0 by omega]
  simpa using h

theorem pw_mono {a b : Nat} (h : a ≤ b) : pw a ≤ pw b := Nat.pow_le_pow_right (by omega) h
theorem pw_two (a : Nat) : pw a + pw a = pw (a + 1) := by unfold pw; rw [Nat.pow_succ]; omega
theorem pw_add (a b : Nat) : pw (a + b) = pw a * pw b := Nat.pow_add 2 a b
theorem pw_is (a : Nat) : 2 ^ a = pw a := rfl

theorem fop_nan_left {op : BinOp} {k : FloatKind} {x y : Nat} (h : nan k x = true) : fop op k x y = qn k := by unfold fop; rw [floatBits_nan_left h]; rfl
theorem fop_nan_right {op : BinOp} {k : FloatKind} {x y : Nat} (h : nan k y = true) : fop op k x y = qn k := by unfold fop; rw [floatBits_nan_right h]; rfl
theorem B2.fin {n v : Nat} (h : B2 n v) (hn : nan .f64 v = false) : rg D v ≤ P2 n := by
  rcases h with h | h
  · rw [hn] at h; cases h
  · exact h
theorem B2.Mg {n v : Nat} (h : B2 n v) (hn : nan .f64 v = false) : Fl.Mg D (rg D v) ≤ pw (1074 + n) := by
  rw [← Mg_P2]
  exact Mg_mono D (h.fin hn)
theorem B2.lt {n v : Nat} (h : B2 n v) (hn : nan .f64 v = false) (hk : n ≤ 1023) : rg D v < D.infRung := Nat.lt_of_le_of_lt (h.fin hn) (P2_inf hk)

theorem B2.add {n m k x y : Nat} (hx : B2 n x) (hy : B2 m y) (hn : n + 1 ≤ k) (hm : m + 1 ≤ k) (hk : k ≤ 1023) : B2 k (fop .add .f64 x y) := by
  cases h1 : nan .f64 x with
  | true => rw [fop_nan_left h1]; exact B2_qn k
  | false =>
    cases h2 : nan .f64 y with
    | true => rw [fop_nan_right h2]; exact B2_qn k
    | false =>
      refine .inr (add_le x y _ (hx.lt h1 (by omega)) (hy.lt h2 (by omega)) ?_)
      rw [Mg_P2]
      have e1 := hx.Mg h1
      have e2 := hy.Mg h2
      have e3 := natAbs_sv D x
      have e4 := natAbs_sv D y
      have e5 : pw (1074 + n) ≤ pw (1074 + (k - 1)) := pw_mono (by omega)
      have e6 : pw (1074 + m) ≤ pw (1074 + (k - 1)) := pw_mono (by omega)
      have e7 := pw_two (1074 + (k - 1))
      rw [show 1074 + (k - 1) + 1 = 1074 + k by omega] at e7
      omega

/-- the opposite of a word -/
def fneg (k : FloatKind) (x : Nat) : Nat := Op.negFloat k x
theorem xor_pow (x k : Nat) : (x ^^^ 2 ^ k) % 2 ^ k = x % 2 ^ k ∧ ((x ^^^ 2 ^ k) / 2 ^ k % 2 == 1) = !(x / 2 ^ k % 2 == 1) := by
  constructor
  · apply Nat.eq_of_testBit_eq
    intro i
    simp only [Nat.testBit_mod_two_pow, Nat.testBit_xor, Nat.testBit_two_pow]
    by_cases h : i < k
    · have : ¬ k = i := by omega
      simp [h, this]
    · simp [h]
  · have h1 : ∀ y : Nat, (y / 2 ^ k % 2 == 1) = y.testBit k := by
      intro y
      rw [Nat.testBit_eq_decide_div_mod_eq, Bool.eq_iff_iff]
      simp
    rw [h1, h1]
    simp
theorem rg_fneg (k : FloatKind) (x : Nat) : rg k.format (fneg k x) = rg k.format x := (xor_pow x _).1
theorem sg_fneg (k : FloatKind) (x : Nat) : sg k.format (fneg k x) = !sg k.format x := (xor_pow x _).2
theorem nan_fneg (k : FloatKind) (x : Nat) : nan k (fneg k x) = nan k x := by rw [nan_eq, nan_eq, rg_fneg]
theorem read_fneg (k : FloatKind) (x : Nat) : k.format.read (fneg k x) = (k.format.read x).opposite := by
  unfold Format.read
  change (if rg k.format (fneg k x) < k.format.binade then Datum.number (sg k.format (fneg k x)) (rg k.format (fneg k x)) k.format.leastPlace else if rg k.format (fneg k x) < k.format.infRung then Datum.number (sg k.format (fneg k x)) (k.format.binade + rg k.format (fneg k x) % k.format.binade) (k.format.leastPlace + (rg k.format (fneg k x) / k.format.binade - 1 : Nat)) else if rg k.format (fneg k x) = k.format.infRung then .infinity (sg k.format (fneg k x)) else .nan (sg k.format (fneg k x)) (rg k.format (fneg k x) - k.format.infRung)) =
    (if rg k.format x < k.format.binade then Datum.number (sg k.format x) (rg k.format x) k.format.leastPlace else if rg k.format x < k.format.infRung then Datum.number (sg k.format x) (k.format.binade + rg k.format x % k.format.binade) (k.format.leastPlace + (rg k.format x / k.format.binade - 1 : Nat)) else if rg k.format x = k.format.infRung then .infinity (sg k.format x) else .nan (sg k.format x) (rg k.format x - k.format.infRung)).opposite
  rw [rg_fneg, sg_fneg]
  split
  · rfl
  · split
    · rfl
    · split <;> rfl
theorem fop_sub (k : FloatKind) (x y : Nat) : fop .sub k x y = fop .add k x (fneg k y) := by
  show ((((k.format.read x).sum (k.format.read y).opposite).map k.format.write).getD (qn k)) = ((((k.format.read x).sum (k.format.read (fneg k y))).map k.format.write).getD (qn k))
  rw [read_fneg]
theorem fneg_congr {k : FloatKind} {x y : Nat} (h : FEq k x y) : FEq k (fneg k x) (fneg k y) := by
  rcases h.cases with rfl | ⟨h1, h2⟩
  · exact FEq.refl _ _
  · exact FEq.of_nan (by rw [nan_fneg, h1]) (by rw [nan_fneg, h2])
theorem sv_fneg (k : FloatKind) (x : Nat) : sv k.format (fneg k x) = -sv k.format x := by
  unfold sv
  rw [rg_fneg, sg_fneg]
  cases sg k.format x <;> simp
theorem B2.neg {n x : Nat} (h : B2 n x) : B2 n (fneg .f64 x) := by
  rcases h with h | h
  · exact .inl (by rw [nan_fneg, h])
  · exact .inr (by rw [show rg D (fneg .f64 x) = rg D x from rg_fneg .f64 x]; exact h)
theorem B2.sub {n m k x y : Nat} (hx : B2 n x) (hy : B2 m y) (hn : n + 1 ≤ k) (hm : m + 1 ≤ k) (hk : k ≤ 1023) : B2 k (fop .sub .f64 x y) := by
  rw [fop_sub]
  exact hx.add hy.neg hn hm hk

theorem B2.mul {n m k x y : Nat} (hx : B2 n x) (hy : B2 m y) (hk : n + m ≤ k) (hk2 : k ≤ 1023) : B2 k (fop .mul .f64 x y) := by
  cases h1 : nan .f64 x with
  | true => rw [fop_nan_left h1]; exact B2_qn k
  | false =>
    cases h2 : nan .f64 y with
    | true => rw [fop_nan_right h2]; exact B2_qn k
    | false =>
      obtain ⟨a, i, e1, hi, ha, _⟩ := read_fin D x (hx.lt h1 (by omega))
      obtain ⟨b, j, e2, hj, hb, _⟩ := read_fin D y (hy.lt h2 (by omega))
      have hf : fop .mul .f64 x y = D.write (.number (sg D x ^^ sg D y) (a * b) (i + j)) := by
        show ((((D.read x).product (D.read y)).map D.write).getD (qn .f64)) = _
        rw [e1, e2]
        rfl
      rw [hf]
      refine .inr (write_le D _ _ _ _ ?_)
      have g1 := hx.Mg h1
      have g2 := hy.Mg h2
      rw [← ha] at g1
      rw [← hb] at g2
      rw [Mg_P2]
      rw [least64] at *
      obtain ⟨I, hI⟩ : ∃ I : Nat, (i - -1074).toNat = I := ⟨_, rfl⟩
      obtain ⟨J, hJ⟩ : ∃ J : Nat, (j - -1074).toNat = J := ⟨_, rfl⟩
      rw [hI] at g1
      rw [hJ] at g2
      have g3 : a * b * pw (I + J) ≤ pw (1074 + k) * pw 1074 := by
        have g := Nat.mul_le_mul g1 g2
        have e : a * 2 ^ I * (b * 2 ^ J) = a * b * pw (I + J) := by
          rw [pw_add]
          simp only [pw, Nat.mul_assoc, Nat.mul_left_comm]
        rw [e, ← pw_add] at g
        rw [← pw_add]
        exact Nat.le_trans g (pw_mono (by omega))
      simp only [pw_is]
      by_cases hIJ : 1074 ≤ I + J
      · rw [show (-1074 - (i + j)).toNat = 0 by omega, show (i + j - -1074).toNat = I + J - 1074 by omega]
        rw [show I + J = (I + J - 1074) + 1074 by omega, pw_add, ← Nat.mul_assoc] at g3
        have := Nat.le_of_mul_le_mul_right g3 (pw_pos 1074)
        rw [show pw 0 = 1 from rfl, Nat.mul_one]
        exact this
      · rw [show (i + j - -1074).toNat = 0 by omega, show (-1074 - (i + j)).toNat = 1074 - (I + J) by omega]
        have e : pw 1074 = pw (1074 - (I + J)) * pw (I + J) := by rw [← pw_add]; congr 1; omega
        rw [e, ← Nat.mul_assoc] at g3
        have := Nat.le_of_mul_le_mul_right g3 (pw_pos (I + J))
        rw [show pw 0 = 1 from rfl, Nat.mul_one]
        exact this

/-- at least 2 to the power of 0, in its absolute value: what may be divided by -/
def A1 (v : Nat) : Prop := nan .f64 v = true ∨ P2 0 ≤ rg D v
theorem A1.congr {v w : Nat} (h : FEq .f64 v w) (hw : A1 w) : A1 v := by
  rcases h.cases with rfl | ⟨h1, _⟩
  · exact hw
  · exact .inl h1
theorem B2.div {n k x y : Nat} (hx : B2 n x) (hy : A1 y) (hk : n + 1 ≤ k) (hk2 : k ≤ 1023) : B2 k (fop .quo .f64 x y) := by
  cases h1 : nan .f64 x with
  | true => rw [fop_nan_left h1]; exact B2_qn k
  | false =>
    cases h2 : nan .f64 y with
    | true => rw [fop_nan_right h2]; exact B2_qn k
    | false =>
      have hd : P2 0 ≤ rg D y := by
        rcases hy with h | h
        · rw [h2] at h; cases h
        · exact h
      obtain ⟨a, i, e1, hi, ha, _⟩ := read_fin D x (hx.lt h1 (by omega))
      have hle := rg_le_of h2
      change rg D y ≤ D.infRung at hle
      rcases Nat.lt_or_eq_of_le hle with hlt | heq
      · obtain ⟨b, j, e2, hj, hb, _⟩ := read_fin D y hlt
        have hb1 : pw 1074 ≤ b * 2 ^ (j - D.leastPlace).toNat := by
          rw [hb, ← Mg_P2 0]
          exact Mg_mono D hd
        have hb0 : b ≠ 0 := by
          intro h0
          rw [h0, Nat.zero_mul] at hb1
          have := pw_pos 1074
          omega
        obtain ⟨more, q, hq1, hq2, hq3⟩ : ∃ more q : Nat, (Datum.number (sg D x) a i).quotient (D.fractionBits + 2) (Datum.number (sg D y) b j) = some (.number (sg D x ^^ sg D y) q (i - j - more - 1)) ∧
            q * b ≤ 4 * (a * 2 ^ more) ∧ True := by
          simp only [Datum.quotient]
          rw [if_neg hb0]
          refine ⟨_, _, rfl, ?_, trivial⟩
          rw [Nat.shiftLeft_eq]
          generalize hN : a * 2 ^ (D.fractionBits + 2 + b.log2 - a.log2) = N
          have hdm := Nat.div_add_mod N b
          have hr := Nat.mod_lt N (Nat.pos_of_ne_zero hb0)
          by_cases ha0 : a = 0
          · have hN0 : N = 0 := by rw [← hN, ha0, Nat.zero_mul]
            subst hN0
            simp
          · have hNb : b ≤ N := by
              rw [← hN]
              have l1 := Nat.log2_self_le ha0
              have l2 := Nat.lt_log2_self (n := b)
              have l3 : 2 ^ a.log2 * 2 ^ (D.fractionBits + 2 + b.log2 - a.log2) ≤ a * 2 ^ (D.fractionBits + 2 + b.log2 - a.log2) := Nat.mul_le_mul_right _ l1
              rw [← Nat.pow_add] at l3
              have l4 := Nat.pow_le_pow_right (n := 2) (by omega) (show b.log2 + 1 ≤ a.log2 + (D.fractionBits + 2 + b.log2 - a.log2) by omega)
              omega
            have hs : (N % b != 0).toNat ≤ 1 := by cases (N % b != 0) <;> simp
            have e : (2 * (N / b) + (N % b != 0).toNat) * b ≤ 2 * (b * (N / b)) + b := by
              rw [Nat.add_mul, Nat.mul_assoc, Nat.mul_comm (N / b) b]
              have := Nat.mul_le_mul_right b hs
              omega
            omega
        have hf : fop .quo .f64 x y = D.write (.number (sg D x ^^ sg D y) q (i - j - more - 1)) := by
          show ((((D.read x).quotient (D.fractionBits + 2) (D.read y)).map D.write).getD (qn .f64)) = _
          rw [e1, e2, hq1]
          rfl
        rw [hf]
        refine .inr (write_le D _ _ _ _ ?_)
        have g1 := hx.Mg h1
        rw [← ha] at g1
        rw [Mg_P2]
        rw [least64] at *
        obtain ⟨I, hI⟩ : ∃ I : Nat, (i - -1074).toNat = I := ⟨_, rfl⟩
        obtain ⟨J, hJ⟩ : ∃ J : Nat, (j - -1074).toNat = J := ⟨_, rfl⟩
        simp only [pw_is] at *
        rw [hI] at g1
        rw [hJ] at hb1
        -- q * b * 2^(I + J..) against the bound
        have g3 : q * pw (I + 1074) ≤ pw (1074 + k) * pw (J + more + 1) := by
          -- q * b * pw I ≤ 4 * a * pw more * pw I ≤ 4 * pw (1074 + n) * pw more, and pw 1074 ≤ b * pw J
          have s1 : q * b * pw I ≤ 4 * (pw (1074 + n) * pw more) := by
            calc q * b * pw I ≤ 4 * (a * pw more) * pw I := Nat.mul_le_mul_right _ hq2
              _ = 4 * (a * pw I * pw more) := by simp only [Nat.mul_assoc, Nat.mul_comm (pw more)]
              _ ≤ 4 * (pw (1074 + n) * pw more) := Nat.mul_le_mul_left _ (Nat.mul_le_mul_right _ g1)
          calc q * pw (I + 1074) = q * pw I * pw 1074 := by rw [pw_add, Nat.mul_assoc]
            _ ≤ q * pw I * (b * pw J) := Nat.mul_le_mul_left _ hb1
            _ = q * b * pw I * pw J := by simp only [Nat.mul_assoc, Nat.mul_left_comm]
            _ ≤ 4 * (pw (1074 + n) * pw more) * pw J := Nat.mul_le_mul_right _ s1
            _ = pw (1074 + (n + 1)) * pw (J + more + 1) := by
              rw [← Nat.add_assoc, pw_add (1074 + n) 1, pw_add (J + more) 1, pw_add J more, show pw 1 = 2 from rfl]
              generalize pw (1074 + n) = u
              generalize pw more = v
              generalize pw J = t
              rw [show (4 : Nat) = 2 * 2 from rfl]
              simp only [Nat.mul_assoc, Nat.mul_left_comm, Nat.mul_comm]
            _ ≤ pw (1074 + k) * pw (J + more + 1) := Nat.mul_le_mul_right _ (pw_mono (by omega))
        by_cases hs : J + more + 1 ≤ I + 1074
        · rw [show (-1074 - (i - j - more - 1)).toNat = 0 by omega, show (i - j - more - 1 - -1074).toNat = I + 1074 - (J + more + 1) by omega]
          rw [show I + 1074 = (I + 1074 - (J + more + 1)) + (J + more + 1) by omega, pw_add, ← Nat.mul_assoc] at g3
          have := Nat.le_of_mul_le_mul_right g3 (pw_pos _)
          rw [show pw 0 = 1 from rfl, Nat.mul_one]
          exact this
        · rw [show (i - j - more - 1 - -1074).toNat = 0 by omega, show (-1074 - (i - j - more - 1)).toNat = J + more + 1 - (I + 1074) by omega]
          rw [show J + more + 1 = (J + more + 1 - (I + 1074)) + (I + 1074) by omega, pw_add (J + more + 1 - (I + 1074)), ← Nat.mul_assoc] at g3
          have := Nat.le_of_mul_le_mul_right g3 (pw_pos _)
          rw [show pw 0 = 1 from rfl, Nat.mul_one]
          exact this
      · have hf : fop .quo .f64 x y = D.write (.number (sg D x ^^ sg D y) 0 0) := by
          show ((((D.read x).quotient (D.fractionBits + 2) (D.read y)).map D.write).getD (qn .f64)) = _
          rw [e1, read_inf D (by decide) y heq]
          rfl
        rw [hf]
        exact .inr (write_le D _ _ _ _ (by simp))

/-- a number of at most 2 to the power of 127 can be narrowed -/
theorem B2.fits {n x : Nat} (h : B2 n x) (hn : n ≤ 127) : Fits x := by
  cases h1 : nan .f64 x with
  | true => exact .inl h1
  | false =>
    right
    obtain ⟨a, i, e1, hi, ha, _⟩ := read_fin D x (h.lt h1 (by omega))
    have g := h.Mg h1
    rw [← ha] at g
    have hle : rg Ieee.single (Ieee.single.write (.number (sg D x) a i)) ≤ 254 * 8388608 := by
      refine write_le Ieee.single _ _ _ _ ?_
      have hM : Fl.Mg Ieee.single (254 * 8388608) = pw (149 + 127) := by decide +kernel
      rw [hM, least32]
      rw [least64] at g hi
      obtain ⟨I, hI⟩ : ∃ I : Nat, (i - -1074).toNat = I := ⟨_, rfl⟩
      rw [hI] at g
      simp only [pw_is] at *
      have g2 : a * pw I ≤ pw (149 + 127) * pw 925 := by
        rw [← pw_add]
        exact Nat.le_trans g (pw_mono (by omega))
      by_cases hs : 925 ≤ I
      · rw [show (-149 - i).toNat = 0 by omega, show (i - -149).toNat = I - 925 by omega]
        rw [show I = (I - 925) + 925 by omega, pw_add, ← Nat.mul_assoc] at g2
        have := Nat.le_of_mul_le_mul_right g2 (pw_pos _)
        rw [show pw 0 = 1 from rfl, Nat.mul_one]
        exact this
      · rw [show (i - -149).toNat = 0 by omega, show (-149 - i).toNat = 925 - I by omega]
        have e : pw 925 = pw (925 - I) * pw I := by rw [← pw_add]; congr 1; omega
        rw [e, ← Nat.mul_assoc] at g2
        have := Nat.le_of_mul_le_mul_right g2 (pw_pos _)
        rw [show pw 0 = 1 from rfl, Nat.mul_one]
        exact this
    have hninf : (FloatKind.f32.decode (FloatKind.f32.encode (.number (sg D x) a i))).isInfinity = false := by
      obtain ⟨m', e', hr', _⟩ := read_fin Ieee.single (Ieee.single.write (.number (sg D x) a i)) (by rw [inf32]; omega)
      show (Ieee.single.read (Ieee.single.write (.number (sg D x) a i))).isInfinity = false
      rw [hr']
      rfl
    unfold floatToFloatBits
    rw [if_neg (by decide)]
    have e1' : FloatKind.f64.decode x = .number (sg D x) a i := e1
    rw [e1']
    simp only [hninf]
    simp

/-- float64(n) of an integer -/
theorem B2.ofInt {n : Nat} {k : Int} (h : k.natAbs ≤ 2 ^ n) : B2 n (floatOfInt .f64 k) := by
  refine .inr ?_
  show rg D (D.write (.number (k < 0) k.natAbs 0)) ≤ P2 n
  refine write_le D _ _ _ _ ?_
  rw [Mg_P2, least64]
  simp only [pw_is]
  rw [show ((0 : Int) - -1074).toNat = 1074 from rfl, show ((-1074 : Int) - 0).toNat = 0 from rfl]
  rw [show pw 0 = 1 from rfl, Nat.mul_one, Nat.add_comm 1074 n, pw_add]
  exact Nat.mul_le_mul_right _ h

/-- int64(x) of a number whose absolute value is at most 2 to the power of 62 -/
def fint (x : Nat) : Int := (floatToIntVal .f64 x .i64).getD 0
theorem fint_some {n x : Nat} (h : B2 n x) (hn : n ≤ 62) (hx : nan .f64 x = false) : floatToIntVal .f64 x .i64 = some (fint x) ∧ (fint x).natAbs ≤ 2 ^ n := by
  obtain ⟨a, i, e1, hi, ha, _⟩ := read_fin D x (h.lt hx (by omega))
  have g := h.Mg hx
  rw [← ha] at g
  have e1' : FloatKind.f64.decode x = .number (sg D x) a i := e1
  have hb : Toward.zero.cut (sg D x) (a <<< i.toNat) (-i).toNat ≤ 2 ^ n := by
    unfold Toward.cut
    simp only [Bool.toNat_false, Nat.add_zero]
    rw [least64] at g hi
    obtain ⟨I, hI⟩ : ∃ I : Nat, (i - -1074).toNat = I := ⟨_, rfl⟩
    rw [hI] at g
    simp only [pw_is] at *
    rw [Nat.shiftLeft_eq, Nat.shiftLeft_eq, Nat.one_mul]
    by_cases hi0 : 0 ≤ i
    · rw [show (-i).toNat = 0 by omega, Nat.zero_min]
      rw [show (2 : Nat) ^ 0 = 1 from rfl, Nat.div_one]
      have : I = i.toNat + 1074 := by omega
      rw [this, pw_add, Nat.add_comm 1074 n, pw_add, ← Nat.mul_assoc] at g
      exact Nat.le_of_mul_le_mul_right g (pw_pos _)
    · rw [show i.toNat = 0 by omega]
      simp only [Nat.pow_zero, Nat.mul_one]
      by_cases hd : (-i).toNat ≤ a.log2 + 2
      · rw [Nat.min_eq_left hd]
        apply Nat.div_le_of_le_mul
        have : I + (-i).toNat = 1074 := by omega
        rw [Nat.add_comm 1074 n, pw_add] at g
        rw [← this, pw_add, Nat.mul_comm (pw I), ← Nat.mul_assoc] at g
        have := Nat.le_of_mul_le_mul_right g (pw_pos _)
        rw [Nat.mul_comm]
        exact this
      · rw [Nat.min_eq_right (by omega)]
        have hlt := Nat.lt_log2_self (n := a)
        have e2 : 2 ^ (a.log2 + 2) = 2 * 2 ^ (a.log2 + 1) := by rw [Nat.pow_succ, Nat.mul_comm]
        rw [Nat.div_eq_of_lt (by omega)]
        exact Nat.zero_le _
  have hk : ∃ k : Int, (FloatKind.f64.decode x).toInt .zero = some k ∧ k.natAbs ≤ 2 ^ n := by
    rw [e1']
    refine ⟨_, rfl, ?_⟩
    simp only [signed]
    cases hs : sg D x <;> rw [hs] at hb <;> simpa using hb
  obtain ⟨k, hk1, hk2⟩ := hk
  have hpow : 2 ^ n ≤ 2 ^ 62 := Nat.pow_le_pow_right (by omega) hn
  have hv : floatToIntVal .f64 x .i64 = some k := by
    unfold floatToIntVal
    rw [hk1]
    simp only [IntKind.min, IntKind.max, IntKind.bits, IntKind.signed]
    rw [if_pos (by simp; omega)]
  unfold fint
  rw [hv]
  exact ⟨rfl, hk2⟩

/-! ### The root -/
theorem rootFrom_le (n : Nat) : ∀ (k r : Nat), r * r ≤ n → Datum.rootFrom n k r * Datum.rootFrom n k r ≤ n
  | 0, r, h => h
  | k + 1, r, h => by
    unfold Datum.rootFrom
    simp only
    split
    · rename_i h2
      exact rootFrom_le n k _ h2
    · exact rootFrom_le n k _ h
theorem rootFrom_ge (n : Nat) : ∀ (k r : Nat), r ≤ Datum.rootFrom n k r
  | 0, r => Nat.le_refl _
  | k + 1, r => by
    unfold Datum.rootFrom
    simp only
    split
    · exact Nat.le_trans (Nat.le_add_right _ _) (rootFrom_ge n k _)
    · exact rootFrom_ge n k _
theorem rootFrom_pos (n : Nat) (hn : n ≠ 0) : ∀ (k r : Nat), 1 ≤ k ∨ 1 ≤ r → 1 ≤ Datum.rootFrom n k r
  | 0, r, h => by
    rcases h with h | h
    · omega
    · exact h
  | k + 1, r, h => by
    by_cases hr : 1 ≤ r
    · exact Nat.le_trans hr (rootFrom_ge n _ _)
    · obtain rfl : r = 0 := by omega
      unfold Datum.rootFrom
      simp only
      by_cases hk : 1 ≤ k
      · exact rootFrom_pos n hn k _ (.inl hk)
      · obtain rfl : k = 0 := by omega
        simp only [Nat.zero_add, Nat.shiftLeft_zero, Nat.mul_one]
        rw [if_pos (by omega)]
        exact Nat.le_refl _

/-- the root, as the model has it; of a negative number a NaN -/
def froot (x : Nat) : Nat := (D.sqrt x).getD (qn .f64)
theorem froot_nan {x : Nat} (h : nan .f64 x = true) : froot x = qn .f64 := by
  obtain ⟨s, t, hd⟩ := read_of_nan h
  unfold froot Format.sqrt
  have hd' : D.read x = .nan s t := hd
  rw [hd']
  rfl
theorem froot_congr {x y : Nat} (h : FEq .f64 x y) : froot x = froot y := by
  rcases h.cases with rfl | ⟨h1, h2⟩
  · rfl
  · rw [froot_nan h1, froot_nan h2]
theorem sqrt_none (x : Nat) (h : D.sqrt x = none) : froot x = qn .f64 := by unfold froot; rw [h]; rfl
theorem run_sqrt {P : Program} (w : World) (x : Nat) : ∃ v n, FEq .f64 v (froot x) ∧ (Extern.MathSqrt.sqrt #[.float .f64 x]).run P w = .ok (.float .f64 v) (w.drewN n) := by
  cases h : D.sqrt x with
  | some r =>
    refine ⟨r, 0, ?_, ?_⟩
    · unfold froot; rw [h]; exact FEq.refl _ _
    · have h' : FloatKind.f64.format.sqrt x = some r := h
      change Sem.run P (match FloatKind.f64.format.sqrt x with | some r => pure (Value.float .f64 r) | none => do pure (Value.float .f64 (← choose (.nanBits .f64 x x)))) w = _
      rw [h']
      rfl
  | none =>
    refine ⟨_, 1, FEq.of_nan (cut_nan .f64 x x (w.tape w.drawn (.nanBits .f64 x x))) (by rw [sqrt_none x h]; exact nan_qn _), ?_⟩
    have h' : FloatKind.f64.format.sqrt x = none := h
    change Sem.run P (match FloatKind.f64.format.sqrt x with | some r => pure (Value.float .f64 r) | none => do pure (Value.float .f64 (← choose (.nanBits .f64 x x)))) w = _
    rw [h']
    simp [choose, Sem.run, Question.forced, World.drewN]
theorem B2.root {n j k x : Nat} (h : B2 n x) (hn : n ≤ 1023) (hj : n ≤ 2 * j) (hk : j + 1 ≤ k) : B2 k (froot x) := by
  cases h1 : nan .f64 x with
  | true => rw [froot_nan h1]; exact B2_qn k
  | false =>
    obtain ⟨a, i, e1, hi, ha, hlt⟩ := read_fin D x (h.lt h1 (by omega))
    cases hs : D.sqrt x with
    | none => rw [sqrt_none x hs]; exact B2_qn k
    | some r =>
      have hr : froot x = r := by unfold froot; rw [hs]; rfl
      rw [hr]
      unfold Format.sqrt at hs
      rw [e1] at hs
      simp only [Datum.root] at hs
      by_cases ha0 : a = 0
      · rw [if_pos ha0] at hs
        injection hs with hs
        rw [← hs, ha0]
        exact .inr (write_le D _ _ _ _ (by simp))
      · rw [if_neg ha0] at hs
        split at hs
        · cases hs
        · injection hs with hs
          rw [← hs]
          clear hs
          have hfrac : D.fractionBits = 52 := rfl
          rw [hfrac]
          have hb : D.binade = 2 ^ 52 := rfl
          have hlog : a.log2 ≤ 53 := by
            have : a < 2 ^ 54 := by rw [hb] at hlt; omega
            have := (Nat.log2_lt ha0).2 this
            omega
          have g := h.Mg h1
          rw [← ha] at g
          generalize hmore : 2 * (52 + 2) - a.log2 + ((i - (2 * (52 + 2) - a.log2 : Nat)) % 2).toNat = more
          have hmore1 : more ≤ 109 := by omega
          have heven : (i - (more : Int)) % 2 = 0 := by omega
          generalize hN : a <<< more = N
          rw [Nat.shiftLeft_eq] at hN
          have hN0 : N ≠ 0 := by
            rw [← hN]
            exact Nat.ne_of_gt (Nat.mul_pos (Nat.pos_of_ne_zero ha0) (Nat.two_pow_pos _))
          have hw1 := rootFrom_le N (N.log2 / 2 + 1) 0 (by simp)
          have hw2 := rootFrom_pos N hN0 (N.log2 / 2 + 1) 0 (.inl (by omega))
          generalize Datum.rootFrom N (N.log2 / 2 + 1) 0 = W at *
          have hst : (W * W != N).toNat ≤ 1 := by cases (W * W != N) <;> simp
          generalize (W * W != N).toNat = s at *
          refine .inr (write_le D _ _ _ _ ?_)
          rw [Mg_P2]
          rw [least64] at *
          obtain ⟨I, hI⟩ : ∃ I : Nat, (i - -1074).toNat = I := ⟨_, rfl⟩
          rw [hI] at g
          simp only [pw_is] at *
          obtain ⟨q, hq⟩ : ∃ q : Nat, ((i - (more : Int)) / 2 - 1 - -1074).toNat = q := ⟨_, rfl⟩
          rw [hq, show (-1074 - ((i - (more : Int)) / 2 - 1)).toNat = 0 by omega, show pw 0 = 1 from rfl, Nat.mul_one]
          -- (W * 2^(q+1))^2 = W^2 * 2^(2q+2) ≤ N * 2^(2q+2) = a * 2^(more + 2q + 2) = a * 2^(I + 1074)
          have hexp : more + (2 * q + 2) = I + 1074 := by omega
          have hsq : W * pw (q + 1) * (W * pw (q + 1)) ≤ pw (1074 + j) * pw (1074 + j) := by
            calc W * pw (q + 1) * (W * pw (q + 1)) = W * W * pw (2 * q + 2) := by
                  rw [show 2 * q + 2 = (q + 1) + (q + 1) by omega, pw_add (q + 1) (q + 1)]
                  simp only [Nat.mul_assoc, Nat.mul_left_comm]
              _ ≤ N * pw (2 * q + 2) := Nat.mul_le_mul_right _ hw1
              _ = a * pw (I + 1074) := by rw [← hN, Nat.mul_assoc, ← pw_add, hexp]
              _ = a * pw I * pw 1074 := by rw [pw_add, Nat.mul_assoc]
              _ ≤ pw (1074 + n) * pw 1074 := Nat.mul_le_mul_right _ g
              _ ≤ pw (1074 + j) * pw (1074 + j) := by rw [← pw_add, ← pw_add]; exact pw_mono (by omega)
          have hle : W * pw (q + 1) ≤ pw (1074 + j) := by
            refine Nat.le_of_not_lt fun hgt => ?_
            have := Nat.mul_lt_mul_of_lt_of_le hgt (Nat.le_of_lt hgt) (by have := pw_pos (1074 + j); omega)
            omega
          have e : pw (q + 1) = pw q + pw q := (pw_two q).symm
          have e2 : pw (1074 + (j + 1)) = pw (1074 + j) + pw (1074 + j) := (pw_two _).symm
          have e3 := pw_mono (show 1074 + (j + 1) ≤ 1074 + k by omega)
          rw [e, Nat.mul_add] at hle
          have e4 : (2 * W + s) * pw q ≤ 2 * (W * pw q) + W * pw q := by
            rw [Nat.add_mul, Nat.mul_assoc]
            have := Nat.mul_le_mul_right (pw q) (show s ≤ W by omega)
            omega
          omega

/-- THE WALK'S LAW for a call of math.sqrt, which has no body here -/
theorem wpList_sqrt {P : Program} {ops : Array Oper} {Q : Exit → Act → World → Prop} {a : Act} {w : World} {rest : List Oper}
    {d : Option Tmp} {ty : TypeId} {o : Operand} {ts : Array TypeId} {f : FuncId} {fn : Func} {pos : String} {af : Array Edge} {g : Option (Nat × Bool)}
    (hf : P.funcs[f]? = some fn) (hname : (fn.name == "runtime.NumGoroutine") = false) (hb : fn.body.isNone = true) (hn : Extern.findNext fn = none) (he : Extern.find fn = some Extern.MathSqrt.sqrt)
    (hw : Region.wanted ⟨d, .call { callee := .value (.func f), args := #[o], argTypes := ts }, ty, pos, af, g⟩ (yielded ops a.tmps) = true)
    {x : Nat} (ho : a.eval o = .float .f64 x)
    (hK : ∀ v n, FEq .f64 v (froot x) → wpList P ops Q rest (a.put d (.float .f64 v)) (w.drewN n)) :
    wpList P ops Q (⟨d, .call { callee := .value (.func f), args := #[o], argTypes := ts }, ty, pos, af, g⟩ :: rest) a w := by
  refine wpList_step fun K hK' => ?_
  rw [if_pos hw]
  obtain ⟨v, n, hv, hrun⟩ := run_sqrt (P := P) w x
  have hc := run_callFunc_extern hf hname hb hn he #[.float .f64 x] w
  rw [hrun] at hc
  have hfe : a.eval (.func f) = .func (.func f) #[] #[] := rfl
  unfold Oper.wp
  have h2 : (execOp a.eval ⟨d, .call { callee := .value (.func f), args := #[o], argTypes := ts }, ty, pos, af, g⟩).run P w = .ok (.value (.float .f64 v)) (w.drewN n) := by
    simp [execOp, resolve, invoke, Deferred.ofValue, hfe, ho, hc]
  rw [h2]
  exact hK' _ _ (hK v n hv)

/-- a finite float32, made a float64 -/
theorem B2.wide {x : Nat} (h : rg Ieee.single x < 2139095040) : B2 128 (fwide x) := by
  refine .inr ?_
  have hw := (wide_fin x h).2.2.2
  have hlt := Mg_smono Ieee.single (show rg Ieee.single x < Ieee.single.infRung by rw [inf32]; exact h)
  rw [Mg_inf32] at hlt
  refine (Mg_le_iff D).1 ?_
  rw [Mg_P2, hw]
  have e : pw (1074 + 128) = pw 277 * w925 := by rw [w925, ← pw_add]
  rw [e]
  exact Nat.mul_le_mul_right _ (Nat.le_of_lt hlt)
theorem Fits_inf {x : Nat} (h : rg D x = 9218868437227405312) : Fits x := by
  right
  have hr : FloatKind.f64.decode x = .infinity (sg D x) := read_inf D (by decide) x (by rw [inf64]; exact h)
  unfold floatToFloatBits
  rw [if_neg (by decide), hr]
  rfl
theorem root_fits (x : Nat) : Fits (froot (fwide x)) := by
  cases hn : nan .f32 x with
  | true => exact .inl (by rw [froot_nan (by rw [nan_wide, hn])]; exact nan_qn _)
  | false =>
    have h2 := rg_le_of hn
    change rg Ieee.single x ≤ Ieee.single.infRung at h2
    rw [inf32] at h2
    rcases Nat.lt_or_eq_of_le h2 with h | h
    · exact ((B2.wide h).root (j := 64) (k := 65) (by omega) (by omega) (by omega)).fits (by omega)
    · have hw := wide_inf x h
      have hr : D.read (fwide x) = .infinity (sg D (fwide x)) := read_inf D (by decide) _ (by rw [inf64]; exact hw.2.2)
      unfold froot Format.sqrt
      rw [hr]
      cases hs : sg D (fwide x) with
      | true => exact .inl (nan_qn .f64)
      | false => exact Fits_inf (by decide +kernel)

/-! ### Finite numbers, bounded: every operation gives just one number -/
def F2 (n v : Nat) : Prop := n ≤ 1023 ∧ rg D v ≤ P2 n
theorem F2.nn {n v : Nat} (h : F2 n v) : nan .f64 v = false := by
  rw [nan_eq]
  have := P2_inf h.1
  have h2 := h.2
  change decide (D.infRung < rg D v) = false
  simp
  omega
theorem F2.lt {n v : Nat} (h : F2 n v) : rg D v < D.infRung := Nat.lt_of_le_of_lt h.2 (P2_inf h.1)
theorem F2.b {n v : Nat} (h : F2 n v) : B2 n v := .inr h.2
theorem F2.mono {n m v : Nat} (h : F2 n v) (hm : n ≤ m) (hk : m ≤ 1023) : F2 m v := ⟨hk, Nat.le_trans h.2 (P2_mono hm)⟩
theorem F2.of {n v : Nat} (h : B2 n v) (hn : nan .f64 v = false) (hk : n ≤ 1023) : F2 n v := ⟨hk, h.fin hn⟩
theorem nn_write (s : Bool) (m : Nat) (e : Int) : nan .f64 (D.write (.number s m e)) = false := by
  rw [nan_eq]
  have hsw := D.infRung_lt
  change decide (D.infRung < rg D (D.nearest s m e)) = false
  have : rg D (D.nearest s m e) ≤ D.infRung := by
    by_cases h0 : m = 0
    · subst h0
      simp only [Format.nearest, if_true]
      rw [rg_word _ _ (signWeight_pos D)]
      exact Nat.zero_le _
    · rw [nearest_eq D s m e h0, rg_word _ _ (by omega)]
      exact Nat.min_le_right _ _
  simp
  omega
theorem nn_add {x y : Nat} (hx : rg D x < D.infRung) (hy : rg D y < D.infRung) : nan .f64 (fop .add .f64 x y) = false := by
  obtain ⟨s, m, e, h1, _⟩ := sum_fin D x y hx hy
  have hf : fop .add .f64 x y = D.write (.number s m e) := by
    show ((((D.read x).sum (D.read y)).map D.write).getD (qn .f64)) = _
    rw [h1]
    rfl
  rw [hf]
  exact nn_write _ _ _
theorem nn_mul {x y : Nat} (hx : rg D x < D.infRung) (hy : rg D y < D.infRung) : nan .f64 (fop .mul .f64 x y) = false := by
  obtain ⟨a, i, e1, _⟩ := read_fin D x hx
  obtain ⟨b, j, e2, _⟩ := read_fin D y hy
  have hf : fop .mul .f64 x y = D.write (.number (sg D x ^^ sg D y) (a * b) (i + j)) := by
    show ((((D.read x).product (D.read y)).map D.write).getD (qn .f64)) = _
    rw [e1, e2]
    rfl
  rw [hf]
  exact nn_write _ _ _
theorem nn_div {x y : Nat} (hx : rg D x < D.infRung) (hy : rg D y < D.infRung) (h0 : 0 < rg D y) : nan .f64 (fop .quo .f64 x y) = false := by
  obtain ⟨a, i, e1, _⟩ := read_fin D x hx
  obtain ⟨b, j, e2, _, hb, _⟩ := read_fin D y hy
  have hb0 : b ≠ 0 := by
    intro hb0
    rw [hb0, Nat.zero_mul] at hb
    have := Mg_smono D h0
    omega
  have hq : ∃ s m e, (Datum.number (sg D x) a i).quotient (D.fractionBits + 2) (Datum.number (sg D y) b j) = some (.number s m e) := by
    simp only [Datum.quotient]
    rw [if_neg hb0]
    exact ⟨_, _, _, rfl⟩
  obtain ⟨s, m, e, hq⟩ := hq
  have hf : fop .quo .f64 x y = D.write (.number s m e) := by
    show ((((D.read x).quotient (D.fractionBits + 2) (D.read y)).map D.write).getD (qn .f64)) = _
    rw [e1, e2, hq]
    rfl
  rw [hf]
  exact nn_write _ _ _
theorem F2.add {n m x y : Nat} (hx : F2 n x) (hy : F2 m y) (k : Nat) (hn : n + 1 ≤ k) (hm : m + 1 ≤ k) (hk : k ≤ 1023) : F2 k (fop .add .f64 x y) :=
  F2.of (hx.b.add hy.b hn hm hk) (nn_add hx.lt hy.lt) hk
theorem F2.neg {n x : Nat} (hx : F2 n x) : F2 n (fneg .f64 x) := ⟨hx.1, by rw [show rg D (fneg .f64 x) = rg D x from rg_fneg .f64 x]; exact hx.2⟩
theorem F2.sub {n m x y : Nat} (hx : F2 n x) (hy : F2 m y) (k : Nat) (hn : n + 1 ≤ k) (hm : m + 1 ≤ k) (hk : k ≤ 1023) : F2 k (fop .sub .f64 x y) := by
  rw [fop_sub]
  exact hx.add hy.neg k hn hm hk
theorem F2.mul {n m x y : Nat} (hx : F2 n x) (hy : F2 m y) (k : Nat) (hn : n + m ≤ k) (hk : k ≤ 1023) : F2 k (fop .mul .f64 x y) :=
  F2.of (hx.b.mul hy.b hn hk) (nn_mul hx.lt hy.lt) hk
theorem F2.div {n m x y : Nat} (hx : F2 n x) (hy : F2 m y) (h1 : P2 0 ≤ rg D y) (k : Nat) (hn : n + 1 ≤ k) (hk : k ≤ 1023) : F2 k (fop .quo .f64 x y) :=
  F2.of (hx.b.div (.inr h1) hn hk) (nn_div hx.lt hy.lt (Nat.lt_of_lt_of_le (by decide) h1)) hk
theorem F2.ofInt {n : Nat} {k : Int} (h : k.natAbs ≤ 2 ^ n) (hn : n ≤ 1023) : F2 n (floatOfInt .f64 k) :=
  F2.of (B2.ofInt h) (nn_write _ _ _) hn
theorem F2.wide {x : Nat} (h : rg Ieee.single x < 2139095040) : F2 128 (fwide x) :=
  F2.of (B2.wide h) (by
    rw [nan_wide, nan_eq]
    change decide (Ieee.single.infRung < rg Ieee.single x) = false
    rw [inf32]
    simp
    omega) (by omega)
theorem F2.fits {n x : Nat} (h : F2 n x) (hn : n ≤ 127) : Fits x := h.b.fits hn

/-- THE WALK'S LAW for an operation that gives a number: just that number; the world is as it was -/
theorem run_fop_det {P : Program} {op : BinOp} {k : FloatKind} {x y : Nat} (h : nan k (fop op k x y) = false) (t : TypeId) (w : World) :
    (binOp op t (.float k x) (.float k y)).run P w = .ok (.float k (fop op k x y)) w := by
  cases hb : floatBits op k x y with
  | some r =>
    have : fop op k x y = r := by unfold fop; rw [hb]; rfl
    rw [this]
    exact run_float_arith w op t k x y r hb
  | none =>
    have : fop op k x y = qn k := by unfold fop; rw [hb]; rfl
    rw [this, nan_qn] at h
    cases h
/-- the same, the result under a name -/
theorem det_named {P : Program} {op : BinOp} {k : FloatKind} {x y : Nat} (h : nan k (fop op k x y) = false) (t : TypeId) :
    ∃ z, Hid (fop op k x y = z) ∧ ∀ w, (binOp op t (.float k x) (.float k y)).run P w = .ok (.float k z) w := ⟨_, hid rfl, run_fop_det h t⟩

/-! ### A number without its whole part -/
theorem nat_pw (n : Nat) : ((pw n : Nat) : Int) = (pw n : Nat) := rfl
theorem ofInt_sv {k : Int} (h : k.natAbs ≤ 2 ^ 52) : sv D (floatOfInt .f64 k) = k * (pw 1074 : Nat) := by
  have hB := binade64
  have h52 : (2 : Nat) ^ 52 = 4503599627370496 := by decide +kernel
  rw [h52] at h
  show sv D (D.write (.number (k < 0) k.natAbs 0)) = _
  by_cases h0 : k = 0
  · subst h0
    have : sv D (D.write (.number (decide ((0 : Int) < 0)) (Int.natAbs 0) 0)) = 0 := by decide +kernel
    rw [this]
    simp
  · have hn : k.natAbs ≠ 0 := by omega
    obtain ⟨g, hg⟩ := Mg_surj D k.natAbs 1074 (by rw [hB]; omega)
    simp only [pw_is] at hg
    have hgi : g < D.infRung := by
      refine (Mg_lt_iff D).1 ?_
      rw [hg, Mg_inf64]
      refine Nat.lt_of_le_of_lt (Nat.mul_le_mul_right _ h) ?_
      exact of_decide_eq_true (by decide +kernel)
    have hnr : nearRung D k.natAbs 0 = g := by
      refine near_exact D k.natAbs 0 hn g ?_
      rw [least64]
      simp only [pw_is]
      rw [show ((0 : Int) - -1074).toNat = 1074 from rfl, show ((-1074 : Int) - 0).toNat = 0 from rfl, hg]
      rw [show pw 0 = 1 from rfl, Nat.mul_one]
    have hw : D.write (.number (k < 0) k.natAbs 0) = D.word (k < 0) g := by
      show D.nearest _ _ _ = _
      rw [nearest_eq D _ _ _ hn, hnr, Nat.min_eq_left (by omega)]
    have hsw := D.infRung_lt
    rw [hw]
    unfold sv
    rw [sg_word _ _ (by omega), rg_word _ _ (by omega), hg]
    generalize pw 1074 = q
    by_cases hk : k < 0
    · rw [if_pos (by simpa using hk)]
      rw [Int.natCast_mul, show ((k.natAbs : Nat) : Int) = -k by omega, Int.neg_mul, Int.neg_neg]
    · rw [if_neg (by simpa using hk)]
      rw [Int.natCast_mul, show ((k.natAbs : Nat) : Int) = k by omega]
/-- cut towards zero: off by less than one -/
theorem fint_near {x : Nat} (h : F2 52 x) : (sv D x - fint x * (pw 1074 : Nat)).natAbs < pw 1074 := by
  obtain ⟨a, i, e1, hi, ha, _⟩ := read_fin D x h.lt
  have hv := (fint_some h.b (by omega) h.nn).1
  have e1' : FloatKind.f64.decode x = .number (sg D x) a i := e1
  rw [least64] at hi ha
  obtain ⟨I, hI⟩ : ∃ I : Nat, (i - -1074).toNat = I := ⟨_, rfl⟩
  rw [hI] at ha
  simp only [pw_is] at ha
  have hlow : Toward.zero.cut (sg D x) (a <<< i.toNat) (-i).toNat * pw 1074 ≤ a * pw I ∧ a * pw I < (Toward.zero.cut (sg D x) (a <<< i.toNat) (-i).toNat + 1) * pw 1074 := by
    unfold Toward.cut
    simp only [Bool.toNat_false, Nat.add_zero]
    rw [Nat.shiftLeft_eq, Nat.shiftLeft_eq, Nat.one_mul]
    by_cases hi0 : 0 ≤ i
    · rw [show (-i).toNat = 0 by omega, Nat.zero_min]
      rw [show (2 : Nat) ^ 0 = 1 from rfl, Nat.div_one]
      have : I = i.toNat + 1074 := by omega
      rw [this, pw_add, ← Nat.mul_assoc]
      simp only [pw_is]
      refine ⟨Nat.le_refl _, ?_⟩
      rw [Nat.add_mul]
      have := pw_pos 1074
      omega
    · rw [show i.toNat = 0 by omega]
      simp only [Nat.pow_zero, Nat.mul_one]
      have hId : (-i).toNat + I = 1074 := by omega
      by_cases hd : (-i).toNat ≤ a.log2 + 2
      · rw [Nat.min_eq_left hd]
        simp only [pw_is]
        have h1 := Nat.div_add_mod a (pw (-i).toNat)
        have h2 := Nat.mod_lt a (pw_pos (-i).toNat)
        have e : pw 1074 = pw (-i).toNat * pw I := by rw [← pw_add, hId]
        rw [e, ← Nat.mul_assoc, ← Nat.mul_assoc]
        constructor
        · refine Nat.mul_le_mul_right _ ?_
          rw [Nat.mul_comm]
          omega
        · refine Nat.mul_lt_mul_of_pos_right ?_ (pw_pos I)
          rw [Nat.add_mul, Nat.mul_comm]
          omega
      · rw [Nat.min_eq_right (by omega)]
        have hlt := Nat.lt_log2_self (n := a)
        have e2 : 2 ^ (a.log2 + 2) = 2 * 2 ^ (a.log2 + 1) := by rw [Nat.pow_succ, Nat.mul_comm]
        rw [Nat.div_eq_of_lt (by omega)]
        refine ⟨by rw [Nat.zero_mul]; exact Nat.zero_le _, ?_⟩
        rw [Nat.zero_add, Nat.one_mul, ← hId, pw_add]
        refine Nat.mul_lt_mul_of_pos_right (Nat.lt_of_lt_of_le hlt ?_) (pw_pos I)
        exact Nat.pow_le_pow_right (by omega) (by omega)
  generalize hT : Toward.zero.cut (sg D x) (a <<< i.toNat) (-i).toNat = T at hlow
  have hf : fint x = if sg D x = true then -(T : Int) else (T : Int) := by
    have h2 : (FloatKind.f64.decode x).toInt .zero = some (if sg D x = true then -(T : Int) else (T : Int)) := by
      rw [e1']
      simp only [Datum.toInt, Datum.integral, hT, signed]
      simp
    generalize (if sg D x = true then -(T : Int) else (T : Int)) = K at h2 ⊢
    unfold floatToIntVal at hv
    rw [h2] at hv
    simp only at hv
    split at hv
    · injection hv with hv
      exact hv.symm
    · cases hv
  rw [hf]
  unfold sv
  rw [← ha]
  generalize a * pw I = M at *
  generalize pw 1074 = q at *
  rw [Nat.add_mul] at hlow
  obtain ⟨l1, l2⟩ := hlow
  have hc : ((T * q : Nat) : Int) = (T : Int) * (q : Int) := Int.natCast_mul T q
  cases sg D x
  · simp only [Bool.false_eq_true, if_false]
    omega
  · simp only [if_true]
    rw [Int.neg_mul]
    omega
def C1 : Nat := 4607182418800017408
def fracF (x : Nat) : Nat := if (D.order (fop .sub .f64 x (floatOfInt .f64 (fint x))) 0 == some Ordering.lt) = true then fop .add .f64 (fop .sub .f64 x (floatOfInt .f64 (fint x))) C1 else fop .sub .f64 x (floatOfInt .f64 (fint x))
theorem add_F2 {n x y : Nat} (hx : rg D x < D.infRung) (hy : rg D y < D.infRung) (hn : n ≤ 1023) (h : (sv D x + sv D y).natAbs ≤ pw (1074 + n)) : F2 n (fop .add .f64 x y) :=
  ⟨hn, add_le x y _ hx hy (by rw [Mg_P2]; exact h)⟩
theorem sub_F2 {n x y : Nat} (hx : rg D x < D.infRung) (hy : rg D y < D.infRung) (hn : n ≤ 1023) (h : (sv D x - sv D y).natAbs ≤ pw (1074 + n)) : F2 n (fop .sub .f64 x y) := by
  rw [fop_sub]
  refine add_F2 hx (by rw [show rg D (fneg .f64 y) = rg D y from rg_fneg .f64 y]; exact hy) hn ?_
  rw [show sv D (fneg .f64 y) = -sv D y from sv_fneg .f64 y]
  exact h
theorem less_F2 {x : Nat} (h : F2 52 x) : F2 0 (fop .sub .f64 x (floatOfInt .f64 (fint x))) := by
  have hi := (fint_some h.b (by omega) h.nn).2
  have ho := F2.ofInt hi (by omega)
  refine sub_F2 h.lt ho.lt (by omega) ?_
  rw [ofInt_sv hi]
  exact Nat.le_of_lt (fint_near h)
theorem order_lt0 {x : Nat} (hx : rg D x ≤ D.infRung) : (D.order x 0 == some Ordering.lt) = decide (sv D x < 0) := by
  rw [order_sv D (by decide) x 0 hx (by decide +kernel)]
  have h0 : sv D 0 = 0 := by decide +kernel
  rw [h0, Bool.eq_iff_iff]
  simp [Int.compare_eq_lt]
theorem sv_C1 : sv D C1 = (pw 1074 : Nat) := by decide +kernel
theorem frac_F2 {x : Nat} (h : F2 52 x) : F2 0 (fracF x) := by
  have hf := less_F2 h
  unfold fracF
  generalize fop .sub .f64 x (floatOfInt .f64 (fint x)) = f at *
  split
  · rename_i hlt
    rw [order_lt0 (Nat.le_of_lt hf.lt)] at hlt
    have hlt : sv D f < 0 := by simpa using hlt
    refine add_F2 hf.lt (by decide +kernel) (by omega) ?_
    have hm := natAbs_sv D f
    have hb : Fl.Mg D (rg D f) ≤ pw (1074 + 0) := by rw [← Mg_P2]; exact Mg_mono D hf.2
    rw [sv_C1]
    simp only [Nat.add_zero] at *
    omega
  · exact hf
end Go.Proofs.Fl
/-
  The sine of turns in float64, as both texts compute it: its numbers, and their bounds. Over no program.
-/
namespace Go.Proofs.Fl
open Go Ieee Go.RowKit

def C2 : Nat := 4611686018427387904
def C05 : Nat := 4602678819172646912
def C025 : Nat := 4598175219545276416
def Cturn : Nat := 4618760256179416344
theorem F2_C1 : F2 0 C1 := ⟨by omega, by decide +kernel⟩
theorem F2_C05 : F2 0 C05 := ⟨by omega, by decide +kernel⟩
theorem F2_Cturn : F2 3 Cturn := ⟨by omega, by decide +kernel⟩
/-- the counter of the program's loop, a float, behind j rounds -/
def kf (j : Nat) : Nat := floatOfInt .f64 (8 - (j : Int))
def kA (j : Nat) : Nat := fop .mul .f64 C2 (kf j)
def kB (j : Nat) : Nat := fop .add .f64 (kA j) C1
/-- what is divided by in round j -/
def kD (j : Nat) : Nat := floatOfInt .f64 (2 * (8 - (j : Int)) * (2 * (8 - (j : Int)) + 1))
def ktabB (j : Nat) : Bool :=
  (FloatKind.f64.format.order (kf j) C1 == some Ordering.gt || FloatKind.f64.format.order (kf j) C1 == some Ordering.eq) &&
  !nan .f64 (kA j) && !nan .f64 (kB j) && (fop .mul .f64 (kA j) (kB j) == kD j) && !nan .f64 (kD j) && (fop .sub .f64 (kf j) C1 == kf (j + 1)) && !nan .f64 (kf (j + 1)) &&
  decide (P2 0 ≤ rg D (kD j)) && decide (rg D (kD j) ≤ P2 10)
theorem ktab_all : (List.range 8).all ktabB = true := by decide +kernel
theorem ktab {j : Nat} (h : j < 8) : ktabB j = true := List.all_eq_true.1 ktab_all j (List.mem_range.2 h)
theorem kf_end : (FloatKind.f64.format.order (kf 8) C1 == some Ordering.gt || FloatKind.f64.format.order (kf 8) C1 == some Ordering.eq) = false := by decide +kernel
theorem kf_start : kf 0 = 4620693217682128896 := by decide +kernel

/-- the polynomial behind j rounds -/
def sineP (u : Nat) : Nat → Nat
  | 0 => C1
  | j + 1 => fop .sub .f64 C1 (fop .quo .f64 (fop .mul .f64 u (sineP u j)) (kD j))
theorem kD_F2 {j : Nat} (h : j < 8) : F2 10 (kD j) ∧ P2 0 ≤ rg D (kD j) := by
  have := ktab h
  simp only [ktabB, Bool.and_eq_true, decide_eq_true_eq] at this
  exact ⟨⟨by omega, this.2⟩, this.1.2⟩
theorem sineP_F2 {u : Nat} (hu : F2 10 u) : ∀ j, j ≤ 8 → F2 (12 * j) (sineP u j)
  | 0, _ => F2_C1
  | j + 1, h => by
    have ih := sineP_F2 hu j (by omega)
    have hk := kD_F2 (show j < 8 by omega)
    have h1 := hu.mul ih (10 + 12 * j) (Nat.le_refl _) (by omega)
    have h2 := h1.div hk.1 hk.2 (11 + 12 * j) (by omega) (by omega)
    exact F2_C1.sub h2 (12 * (j + 1)) (by omega) (by omega) (by omega)
/-- the steps of a round, each a number -/
theorem sineP_steps {u : Nat} (hu : F2 10 u) {j : Nat} (h : j < 8) : nan .f64 (fop .mul .f64 u (sineP u j)) = false ∧ nan .f64 (fop .quo .f64 (fop .mul .f64 u (sineP u j)) (kD j)) = false ∧ nan .f64 (sineP u (j + 1)) = false := by
  have ih := sineP_F2 hu j (by omega)
  have hk := kD_F2 h
  have h1 := hu.mul ih (10 + 12 * j) (Nat.le_refl _) (by omega)
  have h2 := h1.div hk.1 hk.2 (11 + 12 * j) (by omega) (by omega)
  exact ⟨h1.nn, h2.nn, (sineP_F2 hu (j + 1) (by omega)).nn⟩

def sine1 (f : Nat) : Nat := if (D.order f C05 == some Ordering.gt || D.order f C05 == some Ordering.eq) = true then fop .sub .f64 f C05 else f
def sine2 (f : Nat) : Nat := if (D.order (sine1 f) C025 == some Ordering.gt) = true then fop .sub .f64 C05 (sine1 f) else sine1 f
def sineZ (f : Nat) : Nat := fop .mul .f64 (sine2 f) Cturn
def sineU (f : Nat) : Nat := fop .mul .f64 (sineZ f) (sineZ f)
def sineR (f : Nat) : Nat := fop .mul .f64 (sineZ f) (sineP (sineU f) 8)
/-- the sine of the turns whose fraction is f -/
def sineF (f : Nat) : Nat := if (D.order f C05 == some Ordering.gt || D.order f C05 == some Ordering.eq) = true then fneg .f64 (sineR f) else sineR f
theorem sine1_F2 {f : Nat} (h : F2 0 f) : F2 1 (sine1 f) := by
  unfold sine1
  split
  · exact h.sub F2_C05 1 (by omega) (by omega) (by omega)
  · exact h.mono (by omega) (by omega)
theorem sine2_F2 {f : Nat} (h : F2 0 f) : F2 2 (sine2 f) := by
  have := sine1_F2 h
  unfold sine2
  split
  · exact F2_C05.sub this 2 (by omega) (by omega) (by omega)
  · exact this.mono (by omega) (by omega)
theorem sineZ_F2 {f : Nat} (h : F2 0 f) : F2 5 (sineZ f) := (sine2_F2 h).mul F2_Cturn 5 (by omega) (by omega)
theorem sineU_F2 {f : Nat} (h : F2 0 f) : F2 10 (sineU f) := (sineZ_F2 h).mul (sineZ_F2 h) 10 (by omega) (by omega)
theorem sineR_F2 {f : Nat} (h : F2 0 f) : F2 101 (sineR f) := (sineZ_F2 h).mul (sineP_F2 (sineU_F2 h) 8 (by omega)) 101 (by omega) (by omega)
theorem sineF_F2 {f : Nat} (h : F2 0 f) : F2 101 (sineF f) := by
  unfold sineF
  split
  · exact (sineR_F2 h).neg
  · exact sineR_F2 h
/-- a float slot's bits, for a loop's measure -/
def bitsOfV : Value → Nat
  | .float _ b => b
  | _ => 0
theorem kf_fint_all : (List.range 9).all (fun j => fint (kf j) == 8 - (j : Int)) = true := by decide +kernel
theorem kf_fint {j : Nat} (h : j ≤ 8) : fint (kf j) = 8 - (j : Int) := by simpa using List.all_eq_true.1 kf_fint_all j (List.mem_range.2 (by omega))
theorem kf_measure {j : Nat} (h : j < 8) : (fint (bitsOfV (.float .f64 (kf (j + 1))))).toNat < (fint (bitsOfV (.float .f64 (kf j)))).toNat := by
  show (fint (kf (j + 1))).toNat < (fint (kf j)).toNat
  rw [kf_fint (show j + 1 ≤ 8 by omega), kf_fint (show j ≤ 8 by omega)]
  omega
structure KTab (j : Nat) : Prop where
  test : (FloatKind.f64.format.order (kf j) 4607182418800017408 == some Ordering.gt || FloatKind.f64.format.order (kf j) 4607182418800017408 == some Ordering.eq) = true
  nA : nan .f64 (kA j) = false
  nB : nan .f64 (kB j) = false
  eD : fop .mul .f64 (kA j) (kB j) = kD j
  nD : nan .f64 (kD j) = false
  eK : fop .sub .f64 (kf j) C1 = kf (j + 1)
  nK : nan .f64 (kf (j + 1)) = false
theorem ktabs {j : Nat} (h : j < 8) : KTab j := by
  have := ktab h
  simp only [ktabB, Bool.and_eq_true, decide_eq_true_eq, Bool.not_eq_true', beq_iff_eq] at this
  obtain ⟨⟨⟨⟨⟨⟨⟨⟨h1, h2⟩, h3⟩, h4⟩, h5⟩, h6⟩, h7⟩, _⟩, _⟩ := this
  exact ⟨h1, h2, h3, h4, h5, h6, h7⟩
/-- the parts of a sine, under their tests -/
structure SineParts (f f1 f2 z u : Nat) (T G : Bool) : Prop where
  hT : (FloatKind.f64.format.order f 4602678819172646912 == some Ordering.gt || FloatKind.f64.format.order f 4602678819172646912 == some Ordering.eq) = T
  h1 : f1 = if T = true then fop .sub .f64 f C05 else f
  n1 : nan .f64 (fop .sub .f64 f C05) = false
  hG : (FloatKind.f64.format.order f1 4598175219545276416 == some Ordering.gt) = G
  h2 : f2 = if G = true then fop .sub .f64 C05 f1 else f1
  n2 : nan .f64 (fop .sub .f64 C05 f1) = false
  hz : z = fop .mul .f64 f2 Cturn
  nz : nan .f64 (fop .mul .f64 f2 Cturn) = false
  hu : u = fop .mul .f64 z z
  nu : nan .f64 (fop .mul .f64 z z) = false
  fu : F2 10 u
  nr : nan .f64 (fop .mul .f64 z (sineP u 8)) = false
  res : sineF f = if T = true then fneg .f64 (fop .mul .f64 z (sineP u 8)) else fop .mul .f64 z (sineP u 8)
theorem sine_parts {f : Nat} (h : F2 0 f) : ∃ f1 f2 z u T G, SineParts f f1 f2 z u T G :=
  ⟨sine1 f, sine2 f, sineZ f, sineU f, _, _, rfl, rfl, (h.sub F2_C05 1 (by omega) (by omega) (by omega)).nn, rfl, rfl, (F2_C05.sub (sine1_F2 h) 2 (by omega) (by omega) (by omega)).nn, rfl, (sineZ_F2 h).nn, rfl, (sineU_F2 h).nn, sineU_F2 h, (sineR_F2 h).nn, rfl⟩

/-! ### Tests told by what the words stand for -/
theorem geq_sv {f : FloatKind} {x c : Nat} (hx : rg f.format x ≤ f.format.infRung) (hc : rg f.format c ≤ f.format.infRung) : (f.format.order x c == some Ordering.gt || f.format.order x c == some Ordering.eq) = decide (sv f.format c ≤ sv f.format x) := by
  rw [order_sv f.format (exp_pos f) x c hx hc, Bool.eq_iff_iff]
  simp only [Bool.or_eq_true, beq_iff_eq, Option.some.injEq, Int.compare_eq_gt, Int.compare_eq_eq, decide_eq_true_eq]
  omega
theorem leq_sv {f : FloatKind} {x c : Nat} (hx : rg f.format x ≤ f.format.infRung) (hc : rg f.format c ≤ f.format.infRung) : (f.format.order x c == some Ordering.lt || f.format.order x c == some Ordering.eq) = decide (sv f.format x ≤ sv f.format c) := by
  rw [order_sv f.format (exp_pos f) x c hx hc, Bool.eq_iff_iff]
  simp only [Bool.or_eq_true, beq_iff_eq, Option.some.injEq, Int.compare_eq_lt, Int.compare_eq_eq, decide_eq_true_eq]
  omega
theorem lss_sv {f : FloatKind} {x c : Nat} (hx : rg f.format x ≤ f.format.infRung) (hc : rg f.format c ≤ f.format.infRung) : (f.format.order x c == some Ordering.lt) = decide (sv f.format x < sv f.format c) := by
  rw [order_sv f.format (exp_pos f) x c hx hc, Bool.eq_iff_iff]
  simp only [beq_iff_eq, Option.some.injEq, Int.compare_eq_lt, decide_eq_true_eq]
theorem gtr_sv {f : FloatKind} {x c : Nat} (hx : rg f.format x ≤ f.format.infRung) (hc : rg f.format c ≤ f.format.infRung) : (f.format.order x c == some Ordering.gt) = decide (sv f.format c < sv f.format x) := by
  rw [order_sv f.format (exp_pos f) x c hx hc, Bool.eq_iff_iff]
  simp only [beq_iff_eq, Option.some.injEq, Int.compare_eq_gt, decide_eq_true_eq]
theorem neq_sv {f : FloatKind} {x c : Nat} (hx : rg f.format x ≤ f.format.infRung) (hc : rg f.format c ≤ f.format.infRung) : (f.format.order x c != some Ordering.eq) = decide (sv f.format x ≠ sv f.format c) := by
  rw [order_sv f.format (exp_pos f) x c hx hc, Bool.eq_iff_iff]
  simp only [bne_iff_ne, ne_eq, Option.some.injEq, Int.compare_eq_eq, decide_eq_true_eq]
/-- a finite number less itself is +0 -/
theorem self_zero (f : FloatKind) (x : Nat) (hx : rg f.format x < f.format.infRung) : fop .sub f x x = 0 := by
  have hs : fop .sub f x x = ((((f.format.read x).sum (f.format.read x).opposite).map f.format.write).getD (qn f)) := rfl
  obtain ⟨m, i, e1, hi, hm, _⟩ := read_fin f.format x hx
  rw [hs, e1]
  have e : (Datum.number (sg f.format x) m i).sum (Datum.number (sg f.format x) m i).opposite = some (.number false 0 i) := by
    simp only [Datum.sum, Datum.opposite, Int.min_self]
    have h0 : signed (sg f.format x) m (i - i).toNat + signed (!sg f.format x) m (i - i).toNat = 0 := by
      unfold signed
      cases sg f.format x <;> simp <;> omega
    rw [h0]
    simp
  rw [e]
  show f.format.nearest false 0 i = 0
  simp [Format.nearest, Format.word]
theorem self_inf (f : FloatKind) (x : Nat) (hx : rg f.format x = f.format.infRung) : fop .sub f x x = qn f := by
  have hs : fop .sub f x x = ((((f.format.read x).sum (f.format.read x).opposite).map f.format.write).getD (qn f)) := rfl
  rw [hs, read_inf f.format (exp_pos f) x hx]
  cases sg f.format x <;> rfl
/-- what IsFinite tells -/
theorem finB_told (x : Nat) : finB x = decide (rg Ieee.single x < 2139095040) := by
  unfold finB
  rcases Nat.lt_trichotomy (rg Ieee.single x) 2139095040 with h | h | h
  · rw [self_zero .f32 x (by show rg Ieee.single x < Ieee.single.infRung; rw [inf32]; exact h), decide_eq_true h]
    decide +kernel
  · rw [self_inf .f32 x (by show rg Ieee.single x = Ieee.single.infRung; rw [inf32]; exact h), order_nan_left (nan_qn _), decide_eq_false (by omega)]
    rfl
  · have hn : nan .f32 x = true := by
      rw [nan_eq]
      change decide (Ieee.single.infRung < rg Ieee.single x) = true
      rw [inf32]
      simpa using h
    rw [fop_nan_left hn, order_nan_left (nan_qn _), decide_eq_false (by omega)]
    rfl
/-- a float64 that is no finite number -/
theorem self_bad {y : Nat} (hy : ¬ rg D y < D.infRung) : nan .f64 (fop .sub .f64 y y) = true := by
  cases hn : nan .f64 y with
  | true => rw [fop_nan_left hn]; exact nan_qn _
  | false =>
    have h := rg_le_of hn
    change rg D y ≤ D.infRung at h
    rw [self_inf .f64 y (show rg D y = D.infRung by omega)]
    exact nan_qn _
def C52 : Nat := 4841369599423283200
theorem C52_P2 : C52 = P2 52 := by decide +kernel
theorem sv_C52 : sv D C52 = (Fl.Mg D (P2 52) : Nat) := by decide +kernel
theorem sv_N52 : sv D 14064741636278059008 = -(Fl.Mg D (P2 52) : Nat) := by decide +kernel
/-- is a number at least 2 to the power of 52, in its absolute value? -/
def bigB (y : Nat) : Bool := decide (P2 52 ≤ rg D y)
theorem big_abs {y : Nat} (hy : rg D y ≤ D.infRung) : (FloatKind.f64.format.order (rg D y) 4841369599423283200 == some Ordering.gt || FloatKind.f64.format.order (rg D y) 4841369599423283200 == some Ordering.eq) = bigB y := by
  rw [geq_sv (f := .f64) (x := rg D y) (c := 4841369599423283200) (by show rg D (rg D y) ≤ _; rw [rg_rg]; exact hy) (by decide +kernel)]
  have h2 : sv FloatKind.f64.format (rg D y) = (Fl.Mg D (rg D y) : Nat) := by
    unfold sv
    change (if sg D (rg D y) = true then -(Fl.Mg D (rg D (rg D y)) : Int) else (Fl.Mg D (rg D (rg D y)) : Int)) = _
    rw [sg_rg, rg_rg]
    simp
  rw [h2, show sv FloatKind.f64.format 4841369599423283200 = (Fl.Mg D (P2 52) : Nat) from sv_C52]
  unfold bigB
  rw [Bool.eq_iff_iff]
  simp only [decide_eq_true_eq, Int.ofNat_le]
  exact Mg_le_iff D
theorem big_two {y : Nat} (hy : rg D y ≤ D.infRung) : ((FloatKind.f64.format.order y 4841369599423283200 == some Ordering.gt || FloatKind.f64.format.order y 4841369599423283200 == some Ordering.eq) || (FloatKind.f64.format.order y 14064741636278059008 == some Ordering.lt || FloatKind.f64.format.order y 14064741636278059008 == some Ordering.eq)) = bigB y := by
  rw [geq_sv (f := .f64) (x := y) (c := 4841369599423283200) hy (by decide +kernel), leq_sv (f := .f64) (x := y) (c := 14064741636278059008) hy (by decide +kernel)]
  rw [show sv FloatKind.f64.format 4841369599423283200 = (Fl.Mg D (P2 52) : Nat) from sv_C52, show sv FloatKind.f64.format 14064741636278059008 = -(Fl.Mg D (P2 52) : Nat) from sv_N52]
  have hm := natAbs_sv D y
  have hle : Fl.Mg D (P2 52) ≤ Fl.Mg D (rg D y) ↔ P2 52 ≤ rg D y := Mg_le_iff D
  unfold bigB
  rw [Bool.eq_iff_iff]
  simp only [Bool.or_eq_true, decide_eq_true_eq]
  rw [← hle, ← hm]
  change (_ ≤ sv D y ∨ sv D y ≤ _) ↔ _
  omega
theorem F2_small {y : Nat} (h : bigB y = false) : F2 52 y := by
  unfold bigB at h
  simp at h
  exact ⟨by omega, Nat.le_of_lt h⟩
end Go.Proofs.Fl
/-
  The logarithm in float64, as both texts compute it: its numbers, and their bounds. Over no program.
-/
namespace Go.Proofs.Fl
open Go Ieee Go.RowKit

theorem rg_small {x : Nat} (h : x < D.infRung) : rg D x = x := Nat.mod_eq_of_lt (by rw [inf64] at h; rw [sw64]; omega)
theorem sg_small {x : Nat} (h : x < D.infRung) : sg D x = false := by
  unfold sg
  rw [Nat.div_eq_of_lt (by rw [inf64] at h; rw [sw64]; omega)]
  rfl
theorem write_is {x m : Nat} {e : Int} (hx : x < D.infRung) (hm : m ≠ 0) (hv : Mg D x * 2 ^ (D.leastPlace - e).toNat = m * 2 ^ (e - D.leastPlace).toNat) : D.write (.number false m e) = x := by
  show D.nearest false m e = x
  rw [nearest_eq D false m e hm, near_exact D m e hm x hv]
  unfold Format.word
  simp only [Bool.false_eq_true, if_false]
  omega
theorem Mg_step {x : Nat} (h : 4503599627370496 ≤ x) : Mg D (x + 4503599627370496) = 2 * Mg D x := by
  unfold Mg
  rw [binade64, if_neg (by omega), if_neg (by omega), Nat.add_mod_right, Nat.add_div_right _ (by omega)]
  have : 1 ≤ x / 4503599627370496 := Nat.div_pos h (by omega)
  rw [show (x / 4503599627370496).succ - 1 = (x / 4503599627370496 - 1) + 1 by omega, Nat.pow_succ, ← Nat.mul_assoc, Nat.mul_comm 2]
theorem read_C2 : D.read C2 = .number false 4503599627370496 (-51) := by decide +kernel
theorem read_pos {x : Nat} (h : 4503599627370496 ≤ x) (hx : x < D.infRung) : D.read x = .number false (4503599627370496 + x % 4503599627370496) (D.leastPlace + (x / 4503599627370496 - 1 : Nat)) := by
  unfold Format.read
  change (if rg D x < D.binade then Datum.number (sg D x) (rg D x) D.leastPlace else if rg D x < D.infRung then Datum.number (sg D x) (D.binade + rg D x % D.binade) (D.leastPlace + (rg D x / D.binade - 1 : Nat)) else if rg D x = D.infRung then .infinity (sg D x) else .nan (sg D x) (rg D x - D.infRung)) = _
  rw [rg_small hx, sg_small hx, binade64, if_neg (by omega), if_pos hx]
theorem Mg_pos {x : Nat} (h : 4503599627370496 ≤ x) : Mg D x = (4503599627370496 + x % 4503599627370496) * 2 ^ (x / 4503599627370496 - 1) := by
  unfold Mg
  rw [binade64, if_neg (by omega)]
theorem halve_eq {x : Nat} (h : 9007199254740992 ≤ x) (hx : x < D.infRung) : fop .quo .f64 x C2 = x - 4503599627370496 := by
  show ((((D.read x).quotient (D.fractionBits + 2) (D.read C2)).map D.write).getD (qn .f64)) = _
  rw [read_C2, read_pos (by omega) hx]
  have hM := Mg_pos (x := x) (by omega)
  have hs := Mg_step (x := x - 4503599627370496) (by omega)
  rw [show x - 4503599627370496 + 4503599627370496 = x by omega, hM] at hs
  have hq : 2 ≤ x / 4503599627370496 := (Nat.le_div_iff_mul_le (by omega)).2 (by omega)
  generalize hm : 4503599627370496 + x % 4503599627370496 = m at *
  generalize x / 4503599627370496 = q at *
  have hm1 : 4503599627370496 ≤ m := by omega
  have hm2 : m < 9007199254740992 := by omega
  have hl : m.log2 = 52 := by rw [Nat.log2_eq_iff (by omega)]; omega
  simp only [Datum.quotient]
  rw [if_neg (by omega), hl]
  rw [show D.fractionBits + 2 + Nat.log2 4503599627370496 - 52 = 54 by decide +kernel, Nat.shiftLeft_eq]
  rw [show m * 2 ^ 54 / 4503599627370496 = 4 * m by omega, show m * 2 ^ 54 % 4503599627370496 = 0 by omega]
  show D.write (.number (false ^^ false) (2 * (4 * m) + (0 != 0).toNat) (D.leastPlace + (q - 1 : Nat) - -51 - (54 : Nat) - 1)) = _
  rw [show (2 * (4 * m) + (0 != 0).toNat) = 8 * m by simp; omega]
  refine write_is (by omega) (by omega) ?_
  generalize Mg D (x - 4503599627370496) = G at *
  generalize D.leastPlace = L at *
  rcases (show q = 2 ∨ q = 3 ∨ q = 4 ∨ 5 ≤ q by omega) with rfl | rfl | rfl | h5
  · rw [show (L - (L + (2 - 1 : Nat) - -51 - (54 : Nat) - 1)).toNat = 3 by omega, show (L + (2 - 1 : Nat) - -51 - (54 : Nat) - 1 - L).toNat = 0 by omega]
    omega
  · rw [show (L - (L + (3 - 1 : Nat) - -51 - (54 : Nat) - 1)).toNat = 2 by omega, show (L + (3 - 1 : Nat) - -51 - (54 : Nat) - 1 - L).toNat = 0 by omega]
    omega
  · rw [show (L - (L + (4 - 1 : Nat) - -51 - (54 : Nat) - 1)).toNat = 1 by omega, show (L + (4 - 1 : Nat) - -51 - (54 : Nat) - 1 - L).toNat = 0 by omega]
    omega
  · rw [show (L - (L + (q - 1 : Nat) - -51 - (54 : Nat) - 1)).toNat = 0 by omega, show (L + (q - 1 : Nat) - -51 - (54 : Nat) - 1 - L).toNat = q - 5 by omega]
    rw [show q - 1 = (q - 5) + 4 by omega, Nat.pow_add, ← Nat.mul_assoc] at hs
    rw [Nat.mul_assoc]
    generalize m * 2 ^ (q - 5) = t at *
    omega
theorem double_le {L : Int} {m q G : Nat} (hq : 1 ≤ q) (hs : G = 2 * (m * 2 ^ (q - 1))) : G * 2 ^ (L - (L + (q - 1 : Nat) + -51)).toNat = m * 4503599627370496 * 2 ^ (L + (q - 1 : Nat) + -51 - L).toNat := by
  by_cases h5 : 52 ≤ q
  · rw [show (L - (L + (q - 1 : Nat) + -51)).toNat = 0 by omega, show (L + (q - 1 : Nat) + -51 - L).toNat = q - 52 by omega, hs]
    rw [show q - 1 = (q - 52) + 51 by omega, Nat.pow_add, ← Nat.mul_assoc m, Nat.mul_right_comm m 4503599627370496]
    generalize m * 2 ^ (q - 52) = t
    omega
  · rw [show (L - (L + (q - 1 : Nat) + -51)).toNat = 52 - q by omega, show (L + (q - 1 : Nat) + -51 - L).toNat = 0 by omega, hs]
    have e : 2 ^ (q - 1) * 2 ^ (52 - q) = 2 ^ 51 := by rw [← Nat.pow_add]; congr 1; omega
    rw [Nat.mul_assoc 2, Nat.mul_assoc m, e]
    omega
theorem product_numbers (s t : Bool) (m n : Nat) (i j : Int) : (Datum.number s m i).product (.number t n j) = some (.number (s ^^ t) (m * n) (i + j)) := rfl
theorem double_eq {x : Nat} (h : 4503599627370496 ≤ x) (hx : x + 4503599627370496 < D.infRung) : fop .mul .f64 x C2 = x + 4503599627370496 := by
  have e0 : fop .mul .f64 x C2 = (((D.read x).product (D.read C2)).map D.write).getD (qn .f64) := rfl
  rw [e0, read_C2, read_pos (by omega) (by omega), product_numbers]
  have hM := Mg_pos (x := x) (by omega)
  have hs := Mg_step (x := x) (by omega)
  rw [hM] at hs
  have hq : 1 ≤ x / 4503599627370496 := Nat.div_pos (by omega) (by omega)
  have hm1 : 4503599627370496 + x % 4503599627370496 ≠ 0 := by omega
  generalize 4503599627370496 + x % 4503599627370496 = m at *
  generalize x / 4503599627370496 = q at *
  rw [Option.map_some, Option.getD_some, Bool.xor_false]
  exact write_is hx (Nat.mul_ne_zero hm1 (by omega)) (double_le hq hs)
/-! the tests of the two loops -/
theorem sv_word {x : Nat} (h : x < D.infRung) : sv D x = (Fl.Mg D x : Nat) := by
  unfold sv
  rw [sg_small h, rg_small h]
  simp
theorem geq_word {x c : Nat} (h : x < D.infRung) (hc : c < D.infRung) : (FloatKind.f64.format.order x c == some Ordering.gt || FloatKind.f64.format.order x c == some Ordering.eq) = decide (c ≤ x) := by
  rw [geq_sv (f := .f64) (x := x) (c := c) (by show rg D x ≤ D.infRung; rw [rg_small h]; omega) (by show rg D c ≤ D.infRung; rw [rg_small hc]; omega)]
  rw [show sv FloatKind.f64.format x = _ from sv_word h, show sv FloatKind.f64.format c = _ from sv_word hc, Bool.eq_iff_iff]
  simp only [decide_eq_true_eq, Int.ofNat_le]
  exact Mg_le_iff D
theorem lss_word {x c : Nat} (h : x < D.infRung) (hc : c < D.infRung) : (FloatKind.f64.format.order x c == some Ordering.lt) = decide (x < c) := by
  rw [lss_sv (f := .f64) (x := x) (c := c) (by show rg D x ≤ D.infRung; rw [rg_small h]; omega) (by show rg D c ≤ D.infRung; rw [rg_small hc]; omega)]
  rw [show sv FloatKind.f64.format x = _ from sv_word h, show sv FloatKind.f64.format c = _ from sv_word hc, Bool.eq_iff_iff]
  simp only [decide_eq_true_eq, Int.ofNat_lt]
  exact Mg_lt_iff D
/-! the counter -/
def eF (e : Int) : Nat := floatOfInt .f64 e
def stepB (j : Nat) : Bool :=
  !nan .f64 (fop .add .f64 (eF ((j : Int) - 200)) C1) && (fop .add .f64 (eF ((j : Int) - 200)) C1 == eF ((j : Int) - 200 + 1)) &&
  !nan .f64 (fop .sub .f64 (eF ((j : Int) - 200)) C1) && (fop .sub .f64 (eF ((j : Int) - 200)) C1 == eF ((j : Int) - 200 - 1))
theorem steps_all : (List.range 401).all stepB = true := by decide +kernel
theorem steps {e : Int} (h1 : -200 ≤ e) (h2 : e ≤ 200) : nan .f64 (eF (e + 1)) = false ∧ fop .add .f64 (eF e) C1 = eF (e + 1) ∧ nan .f64 (eF (e - 1)) = false ∧ fop .sub .f64 (eF e) C1 = eF (e - 1) := by
  have := List.all_eq_true.1 steps_all (e + 200).toNat (List.mem_range.2 (by omega))
  unfold stepB at this
  rw [show ((e + 200).toNat : Int) - 200 = e by omega] at this
  simp only [Bool.and_eq_true, Bool.not_eq_true', beq_iff_eq] at this
  exact ⟨by rw [← this.1.1.2]; exact this.1.1.1, this.1.1.2, by rw [← this.2]; exact this.1.2, this.2⟩
/-! the polynomial -/
def lk (j : Nat) : Nat := floatOfInt .f64 (25 - 2 * (j : Int))
def lr (j : Nat) : Nat := fop .quo .f64 C1 (lk j)
def lktabB (j : Nat) : Bool :=
  (FloatKind.f64.format.order (lk j) C1 == some Ordering.gt || FloatKind.f64.format.order (lk j) C1 == some Ordering.eq) &&
  !nan .f64 (lr j) && (fop .sub .f64 (lk j) C2 == lk (j + 1)) && !nan .f64 (lk (j + 1)) && decide (rg D (lr j) ≤ P2 0) && (fint (lk j) == 25 - 2 * (j : Int)) && (fint (lk (j + 1)) == 25 - 2 * ((j + 1 : Nat) : Int))
theorem lktab_all : (List.range 13).all lktabB = true := by decide +kernel
structure LTab (j : Nat) : Prop where
  test : (FloatKind.f64.format.order (lk j) 4607182418800017408 == some Ordering.gt || FloatKind.f64.format.order (lk j) 4607182418800017408 == some Ordering.eq) = true
  nR : nan .f64 (lr j) = false
  eK : fop .sub .f64 (lk j) C2 = lk (j + 1)
  nK : nan .f64 (lk (j + 1)) = false
  bR : rg D (lr j) ≤ P2 0
  iK : fint (lk j) = 25 - 2 * (j : Int)
  iK' : fint (lk (j + 1)) = 25 - 2 * ((j + 1 : Nat) : Int)
theorem ltabs {j : Nat} (h : j < 13) : LTab j := by
  have := List.all_eq_true.1 lktab_all j (List.mem_range.2 h)
  simp only [lktabB, Bool.and_eq_true, decide_eq_true_eq, Bool.not_eq_true', beq_iff_eq] at this
  obtain ⟨⟨⟨⟨⟨⟨h1, h2⟩, h3⟩, h4⟩, h5⟩, h6⟩, h7⟩ := this
  exact ⟨h1, h2, h3, h4, h5, h6, h7⟩
theorem lk_end : (FloatKind.f64.format.order (lk 13) 4607182418800017408 == some Ordering.gt || FloatKind.f64.format.order (lk 13) 4607182418800017408 == some Ordering.eq) = false := by decide +kernel
theorem lk_start : lk 0 = 4627730092099895296 := by decide +kernel
theorem lk_measure {j : Nat} (h : j < 13) : (fint (bitsOfV (.float .f64 (lk (j + 1))))).toNat < (fint (bitsOfV (.float .f64 (lk j)))).toNat := by
  show (fint (lk (j + 1))).toNat < (fint (lk j)).toNat
  have := ltabs h
  rw [this.iK, this.iK']
  omega
def logP (u : Nat) : Nat → Nat
  | 0 => 0
  | j + 1 => fop .add .f64 (lr j) (fop .mul .f64 u (logP u j))
theorem logP_F2 {u : Nat} (hu : F2 2 u) : ∀ j, j ≤ 13 → F2 (3 * j) (logP u j)
  | 0, _ => ⟨by omega, by show rg D 0 ≤ P2 0; decide +kernel⟩
  | j + 1, h => by
    have ih := logP_F2 hu j (by omega)
    have h1 := hu.mul ih (2 + 3 * j) (Nat.le_refl _) (by omega)
    have h2 : F2 0 (lr j) := ⟨by omega, (ltabs (show j < 13 by omega)).bR⟩
    exact h2.add h1 (3 * (j + 1)) (by omega) (by omega) (by omega)
theorem logP_steps {u : Nat} (hu : F2 2 u) {j : Nat} (h : j < 13) : nan .f64 (fop .mul .f64 u (logP u j)) = false ∧ nan .f64 (logP u (j + 1)) = false :=
  ⟨(hu.mul (logP_F2 hu j (by omega)) (2 + 3 * j) (Nat.le_refl _) (by omega)).nn, (logP_F2 hu (j + 1) (by omega)).nn⟩
/-- the number between 3/4 and 3/2 that is a power of two away, and that power -/
def logX (x : Nat) : Nat := (4604930618986332160 + ((x : Int) - 4604930618986332160) % 4503599627370496).toNat
def logE (x : Nat) : Int := ((x : Int) - 4604930618986332160) / 4503599627370496
def logA (x : Nat) : Nat := fop .sub .f64 x C1
def logB (x : Nat) : Nat := fop .add .f64 x C1
def logS (x : Nat) : Nat := fop .quo .f64 (logA x) (logB x)
def logU (x : Nat) : Nat := fop .mul .f64 (logS x) (logS x)
def logM (s u : Nat) : Nat := fop .mul .f64 s (logP u 13)
def Cln2 : Nat := 4604418534313441775
def logR (e : Int) (s u : Nat) : Nat := fop .add .f64 (fop .mul .f64 C2 (logM s u)) (fop .mul .f64 (eF e) Cln2)
def logF (x : Nat) : Nat := logR (logE x) (logS (logX x)) (logU (logX x))
structure Mid (x : Nat) : Prop where
  lo : 4604930618986332160 ≤ x
  hi : x < 4609434218613702656
theorem logX_mid (x : Nat) : Mid (logX x) := by
  unfold logX
  constructor <;> omega
theorem mid_is {x y : Nat} {e : Int} (hm : Mid y) (h : (y : Int) = x - e * 4503599627370496) : y = logX x ∧ e = logE x := by
  obtain ⟨h1, h2⟩ := hm
  unfold logX logE
  constructor <;> omega
theorem Mid.inf {x : Nat} (h : Mid x) : x < D.infRung := by have := h.hi; rw [inf64]; omega
theorem Mid.f2 {x : Nat} (h : Mid x) : F2 1 x := ⟨by omega, by rw [rg_small h.inf]; have := h.hi; unfold P2; omega⟩
theorem Mid.sv {x : Nat} (h : Mid x) : 0 ≤ sv D x ∧ sv D x ≤ 2 * (pw 1074 : Nat) := by
  rw [sv_word h.inf]
  have h1 : Fl.Mg D x ≤ Fl.Mg D (P2 1) := Mg_mono D (by have := h.hi; unfold P2; omega)
  rw [Mg_P2, show 1074 + 1 = 1074 + 1 from rfl, ← pw_two] at h1
  omega
theorem ge_add {x y c : Nat} (hx : rg D x < D.infRung) (hy : rg D y < D.infRung) (hc : c ≤ D.infRung) (h : Fl.Mg D c ≤ (sv D x + sv D y).natAbs) : c ≤ rg D (fop .add .f64 x y) := by
  obtain ⟨s, m, e, h1, h2, h3, _⟩ := sum_fin D x y hx hy
  have hf : fop .add .f64 x y = (((D.read x).sum (D.read y)).map D.write).getD (qn .f64) := rfl
  rw [hf, h1, Option.map_some, Option.getD_some]
  refine le_write D s m e c hc ?_
  rw [h3, show (D.leastPlace - e).toNat = 0 by omega]
  simpa using h
theorem C1_fin : rg D C1 < D.infRung := by decide +kernel
theorem logA_F2 {x : Nat} (h : Mid x) : F2 0 (logA x) := by
  refine sub_F2 h.f2.lt C1_fin (by omega) ?_
  rw [sv_C1]
  have := h.sv
  rw [Nat.add_zero]
  omega
theorem logB_F2 {x : Nat} (h : Mid x) : F2 2 (logB x) := h.f2.add F2_C1 2 (by omega) (by omega) (by omega)
theorem logB_ge {x : Nat} (h : Mid x) : P2 0 ≤ rg D (logB x) := by
  refine ge_add h.f2.lt C1_fin (Nat.le_of_lt (P2_inf (by omega))) ?_
  rw [sv_C1, Mg_P2]
  have := h.sv
  rw [Nat.add_zero]
  omega
theorem logS_F2 {x : Nat} (h : Mid x) : F2 1 (logS x) := (logA_F2 h).div (logB_F2 h) (logB_ge h) 1 (by omega) (by omega)
theorem logU_F2 {x : Nat} (h : Mid x) : F2 2 (logU x) := (logS_F2 h).mul (logS_F2 h) 2 (by omega) (by omega)
theorem logM_F2 {s u : Nat} (hs : F2 1 s) (hu : F2 2 u) : F2 40 (logM s u) := hs.mul (logP_F2 hu 13 (by omega)) 40 (by omega) (by omega)
theorem F2_C2 : F2 1 C2 := ⟨by omega, by decide +kernel⟩
theorem F2_ln2 : F2 0 Cln2 := ⟨by omega, by decide +kernel⟩
theorem eF_F2 {e : Int} (h : e.natAbs ≤ 200) : F2 8 (eF e) := F2.ofInt (by omega) (by omega)
theorem logR1_F2 {s u : Nat} (hs : F2 1 s) (hu : F2 2 u) : F2 41 (fop .mul .f64 C2 (logM s u)) := F2_C2.mul (logM_F2 hs hu) 41 (by omega) (by omega)
theorem logR2_F2 {e : Int} (h : e.natAbs ≤ 200) : F2 8 (fop .mul .f64 (eF e) Cln2) := (eF_F2 h).mul F2_ln2 8 (by omega) (by omega)
theorem logR_F2 {e : Int} {s u : Nat} (h : e.natAbs ≤ 200) (hs : F2 1 s) (hu : F2 2 u) : F2 42 (logR e s u) := (logR1_F2 hs hu).add (logR2_F2 h) 42 (by omega) (by omega) (by omega)
/-- the numbers whose logarithm is taken: positive, and from a float32 -/
structure LogIn (x : Nat) : Prop where
  lo : 873 * 4503599627370496 ≤ x
  hi : x < 1152 * 4503599627370496
theorem LogIn.inf {x : Nat} (h : LogIn x) : x < D.infRung := by have := h.hi; rw [inf64]; omega
theorem LogIn.e {x : Nat} (h : LogIn x) : (logE x).natAbs ≤ 200 := by
  have := h.lo
  have := h.hi
  unfold logE
  omega
theorem logF_F2 {x : Nat} (h : LogIn x) : F2 42 (logF x) := logR_F2 h.e (logS_F2 (logX_mid x)) (logU_F2 (logX_mid x))
theorem C15_inf : 4609434218613702656 < D.infRung := by decide +kernel
theorem C075_inf : 4604930618986332160 < D.infRung := by decide +kernel
/-- what a round of halving does -/
theorem halve_step {x : Nat} (h : 4609434218613702656 ≤ x) (hx : x < D.infRung) : fop .quo .f64 x C2 = x - 4503599627370496 ∧ nan .f64 (fop .quo .f64 x C2) = false := by
  have e := halve_eq (x := x) (by omega) hx
  refine ⟨e, ?_⟩
  rw [e, nan_eq]
  show decide (D.infRung < rg D (x - 4503599627370496)) = false
  rw [rg_small (by omega)]
  simp
  omega
theorem double_step {x : Nat} (h : x < 4604930618986332160) (hx : 4503599627370496 ≤ x) : fop .mul .f64 x C2 = x + 4503599627370496 ∧ nan .f64 (fop .mul .f64 x C2) = false := by
  have hi : D.infRung = 9218868437227405312 := inf64
  have e := double_eq (x := x) hx (by omega)
  refine ⟨e, ?_⟩
  rw [e, nan_eq]
  show decide (D.infRung < rg D (x + 4503599627370496)) = false
  rw [rg_small (by omega)]
  simp
  omega
theorem gtr_word {x c : Nat} (h : x < D.infRung) (hc : c < D.infRung) : (FloatKind.f64.format.order x c == some Ordering.gt) = decide (c < x) := by
  rw [gtr_sv (f := .f64) (x := x) (c := c) (by show rg D x ≤ D.infRung; rw [rg_small h]; omega) (by show rg D c ≤ D.infRung; rw [rg_small hc]; omega)]
  rw [show sv FloatKind.f64.format x = _ from sv_word h, show sv FloatKind.f64.format c = _ from sv_word hc, Bool.eq_iff_iff]
  simp only [decide_eq_true_eq, Int.ofNat_lt]
  exact Mg_lt_iff D
theorem neq_word {x c : Nat} (h : x < D.infRung) (hc : c < D.infRung) : (FloatKind.f64.format.order x c != some Ordering.eq) = decide (x ≠ c) := by
  rw [neq_sv (f := .f64) (x := x) (c := c) (by show rg D x ≤ D.infRung; rw [rg_small h]; omega) (by show rg D c ≤ D.infRung; rw [rg_small hc]; omega)]
  rw [show sv FloatKind.f64.format x = _ from sv_word h, show sv FloatKind.f64.format c = _ from sv_word hc, Bool.eq_iff_iff]
  simp only [decide_eq_true_eq, ne_eq, Int.ofNat_inj]
  exact ⟨fun hn he => hn (by rw [he]), fun hn he => hn (Mg_inj D he)⟩
theorem eql_word {x c : Nat} (h : x < D.infRung) (hc : c < D.infRung) : (FloatKind.f64.format.order x c == some Ordering.eq) = decide (x = c) := by
  have := neq_word h hc
  unfold bne at this
  cases he : (FloatKind.f64.format.order x c == some Ordering.eq) <;> simp_all
theorem log_s1 {x : Nat} (h : LogIn x) : (FloatKind.f64.format.order x x != some Ordering.eq) = false := by rw [neq_word h.inf h.inf]; simp
theorem zero_inf : 0 < D.infRung := by decide +kernel
theorem max_inf : 9218868437227405311 < D.infRung := by decide +kernel
theorem log_s2 {x : Nat} (h : LogIn x) : (FloatKind.f64.format.order x 0 == some Ordering.lt) = false := by rw [lss_word h.inf zero_inf]; simp
theorem log_s3 {x : Nat} (h : LogIn x) : (FloatKind.f64.format.order x 0 == some Ordering.eq) = false := by
  rw [eql_word h.inf zero_inf]
  have := h.lo
  exact decide_eq_false (by omega)
theorem log_s4 {x : Nat} (h : LogIn x) : (FloatKind.f64.format.order x 9218868437227405311 == some Ordering.gt) = false := by
  rw [gtr_word h.inf max_inf]
  have := h.hi
  exact decide_eq_false (by omega)
theorem w64in {n : Int} (h : -9223372036854775808 ≤ n ∧ n ≤ 9223372036854775807) : wrap64 n = n := by unfold wrap64; omega
theorem bits_float (k : FloatKind) (x : Nat) : bitsOfV (.float k x) = x := rfl
theorem eF_zero : eF 0 = 0 := by decide +kernel
end Go.Proofs.Fl
/-
  The angle of a point in float64, as both texts compute it: its numbers, and their bounds. Over no program.
-/
namespace Go.Proofs.Fl
open Go Ieee Go.RowKit

/-- a quotient of a number by one that is no less -/
theorem quo_le {x y : Nat} (hx : rg D x < D.infRung) (hy : rg D y < D.infRung) (h : rg D x ≤ rg D y) (h0 : 0 < rg D y) : F2 1 (fop .quo .f64 x y) := by
  refine ⟨by omega, ?_⟩
  obtain ⟨a, i, e1, hi, ha, _⟩ := read_fin D x hx
  obtain ⟨b, j, e2, hj, hb, _⟩ := read_fin D y hy
  have hab : a * 2 ^ (i - D.leastPlace).toNat ≤ b * 2 ^ (j - D.leastPlace).toNat := by
    rw [ha, hb]
    exact Mg_mono D h
  have hb0 : b ≠ 0 := by
    intro h1
    rw [h1, Nat.zero_mul] at hb
    have := Mg_smono D h0
    omega
  obtain ⟨more, q, hq1, hq2⟩ : ∃ more q : Nat, (Datum.number (sg D x) a i).quotient (D.fractionBits + 2) (Datum.number (sg D y) b j) = some (.number (sg D x ^^ sg D y) q (i - j - more - 1)) ∧ q * b ≤ 4 * (a * 2 ^ more) := by
    simp only [Datum.quotient]
    rw [if_neg hb0]
    refine ⟨_, _, rfl, ?_⟩
    rw [Nat.shiftLeft_eq]
    generalize hN : a * 2 ^ (D.fractionBits + 2 + b.log2 - a.log2) = N
    have hdm := Nat.div_add_mod N b
    have hr := Nat.mod_lt N (Nat.pos_of_ne_zero hb0)
    by_cases ha0 : a = 0
    · have hN0 : N = 0 := by rw [← hN, ha0, Nat.zero_mul]
      subst hN0
      simp
    · have hNb : b ≤ N := by
        rw [← hN]
        have l1 := Nat.log2_self_le ha0
        have l2 := Nat.lt_log2_self (n := b)
        have l3 : 2 ^ a.log2 * 2 ^ (D.fractionBits + 2 + b.log2 - a.log2) ≤ a * 2 ^ (D.fractionBits + 2 + b.log2 - a.log2) := Nat.mul_le_mul_right _ l1
        rw [← Nat.pow_add] at l3
        have l4 := Nat.pow_le_pow_right (n := 2) (by omega) (show b.log2 + 1 ≤ a.log2 + (D.fractionBits + 2 + b.log2 - a.log2) by omega)
        omega
      have hs : (N % b != 0).toNat ≤ 1 := by cases (N % b != 0) <;> simp
      have e : (2 * (N / b) + (N % b != 0).toNat) * b ≤ 2 * (b * (N / b)) + b := by
        rw [Nat.add_mul, Nat.mul_assoc, Nat.mul_comm (N / b) b]
        have := Nat.mul_le_mul_right b hs
        omega
      omega
  have hf : fop .quo .f64 x y = D.write (.number (sg D x ^^ sg D y) q (i - j - more - 1)) := by
    have e0 : fop .quo .f64 x y = (((D.read x).quotient (D.fractionBits + 2) (D.read y)).map D.write).getD (qn .f64) := rfl
    rw [e0, e1, e2, hq1, Option.map_some, Option.getD_some]
  rw [hf]
  refine write_le D _ _ _ _ ?_
  rw [Mg_P2]
  rw [least64] at *
  obtain ⟨I, hI⟩ : ∃ I : Nat, (i - -1074).toNat = I := ⟨_, rfl⟩
  obtain ⟨J, hJ⟩ : ∃ J : Nat, (j - -1074).toNat = J := ⟨_, rfl⟩
  simp only [pw_is] at *
  rw [hI, hJ] at hab
  have g3 : q * pw I ≤ 4 * (pw J * pw more) := by
    have s1 : q * pw I * b ≤ 4 * (pw J * pw more) * b := by
      calc q * pw I * b = q * b * pw I := by rw [Nat.mul_right_comm]
        _ ≤ 4 * (a * pw more) * pw I := Nat.mul_le_mul_right _ hq2
        _ = 4 * (a * pw I * pw more) := by simp only [Nat.mul_assoc, Nat.mul_comm (pw more)]
        _ ≤ 4 * (b * pw J * pw more) := Nat.mul_le_mul_left _ (Nat.mul_le_mul_right _ hab)
        _ = 4 * (pw J * pw more) * b := by simp only [Nat.mul_assoc, Nat.mul_comm b]
    exact Nat.le_of_mul_le_mul_right s1 (Nat.pos_of_ne_zero hb0)
  have g4 : q * pw (I + 1074) ≤ pw (1074 + 1) * pw (J + more + 1) := by
    rw [pw_add I, ← Nat.mul_assoc, pw_add 1074 1, pw_add (J + more) 1, pw_add J more, show pw 1 = 2 from rfl]
    have := Nat.mul_le_mul_right (pw 1074) g3
    generalize pw J * pw more = u at *
    have e : pw 1074 * 2 * (u * 2) = 4 * u * pw 1074 := by
      rw [show (4 : Nat) = 2 * 2 from rfl]
      simp only [Nat.mul_assoc, Nat.mul_left_comm, Nat.mul_comm]
    rw [e]
    exact this
  by_cases hs : J + more + 1 ≤ I + 1074
  · rw [show (-1074 - (i - j - more - 1)).toNat = 0 by omega, show (i - j - more - 1 - -1074).toNat = I + 1074 - (J + more + 1) by omega]
    rw [show I + 1074 = (I + 1074 - (J + more + 1)) + (J + more + 1) by omega, pw_add _ (J + more + 1), ← Nat.mul_assoc] at g4
    have := Nat.le_of_mul_le_mul_right g4 (pw_pos _)
    rw [show pw 0 = 1 from rfl, Nat.mul_one]
    exact this
  · rw [show (i - j - more - 1 - -1074).toNat = 0 by omega, show (-1074 - (i - j - more - 1)).toNat = J + more + 1 - (I + 1074) by omega]
    rw [show J + more + 1 = (J + more + 1 - (I + 1074)) + (I + 1074) by omega, pw_add (J + more + 1 - (I + 1074)), ← Nat.mul_assoc] at g4
    have := Nat.le_of_mul_le_mul_right g4 (pw_pos _)
    rw [show pw 0 = 1 from rfl, Nat.mul_one]
    exact this

theorem quo_nn {x y : Nat} (hx : rg D x < D.infRung) (hy : rg D y < D.infRung) (h0 : 0 < rg D x) : nan .f64 (fop .quo .f64 x y) = false := by
  by_cases hz : 0 < rg D y
  · exact nn_div hx hy hz
  · obtain ⟨a, i, e1, hi, ha, _⟩ := read_fin D x hx
    obtain ⟨b, j, e2, hj, hb, _⟩ := read_fin D y hy
    have ha0 : a ≠ 0 := by
      intro h1
      rw [h1, Nat.zero_mul] at ha
      have := Mg_smono D h0
      omega
    have hb0 : b = 0 := by
      rw [show rg D y = 0 by omega, Mg_zero] at hb
      rcases Nat.mul_eq_zero.1 hb with h | h
      · exact h
      · have := Nat.two_pow_pos (j - D.leastPlace).toNat
        omega
    have hq : (Datum.number (sg D x) a i).quotient (D.fractionBits + 2) (Datum.number (sg D y) b j) = some (.infinity (sg D x ^^ sg D y)) := by
      simp only [Datum.quotient]
      rw [if_pos hb0, if_neg ha0]
    have e0 : fop .quo .f64 x y = (((D.read x).quotient (D.fractionBits + 2) (D.read y)).map D.write).getD (qn .f64) := rfl
    rw [e0, e1, e2, hq, Option.map_some, Option.getD_some]
    cases (sg D x ^^ sg D y) <;> decide +kernel
theorem sg_square {x : Nat} (hx : rg D x < D.infRung) : sg D (fop .mul .f64 x x) = false := by
  obtain ⟨m, i, e1, _⟩ := read_fin D x hx
  have e0 : fop .mul .f64 x x = (((D.read x).product (D.read x)).map D.write).getD (qn .f64) := rfl
  rw [e0, e1, product_numbers, Option.map_some, Option.getD_some, sg_write, Bool.xor_self]
theorem sv_nonneg {x : Nat} (h : sg D x = false) : 0 ≤ sv D x := by
  unfold sv
  rw [h]
  simp
theorem sg_one {x : Nat} (hx : rg D x < D.infRung) (h : sg D x = false) : sg D (fop .add .f64 C1 x) = false := by
  obtain ⟨s, m, e, h1, _, _, _, h4, _⟩ := sum_fin D C1 x C1_fin hx
  have e0 : fop .add .f64 C1 x = (((D.read C1).sum (D.read x)).map D.write).getD (qn .f64) := rfl
  rw [e0, h1, Option.map_some, Option.getD_some, sg_write]
  refine h4 ?_
  have := sv_nonneg h
  rw [sv_C1]
  have := pw_pos 1074
  omega
theorem ge_one {x : Nat} (hx : rg D x < D.infRung) (h : sg D x = false) : P2 0 ≤ rg D (fop .add .f64 C1 x) := by
  refine ge_add C1_fin hx (Nat.le_of_lt (P2_inf (by omega))) ?_
  have := sv_nonneg h
  rw [sv_C1, Mg_P2, Nat.add_zero]
  omega
/-- the root of a number that is not negative is one -/
theorem root_good {x : Nat} (hx : rg D x < D.infRung) (h : sg D x = false) : nan .f64 (froot x) = false ∧ sg D (froot x) = false ∧ D.sqrt x = some (froot x) := by
  obtain ⟨m, i, e1, _⟩ := read_fin D x hx
  have : ∃ n j, (D.read x).root (D.fractionBits + 2) = some (.number false n j) := by
    rw [e1, h]
    simp only [Datum.root, Bool.false_eq_true, if_false]
    by_cases h0 : m = 0
    · rw [if_pos h0]
      exact ⟨_, _, rfl⟩
    · rw [if_neg h0]
      exact ⟨_, _, rfl⟩
  obtain ⟨n, j, hr⟩ := this
  have hs : D.sqrt x = some (D.write (.number false n j)) := by
    unfold Format.sqrt
    first | rw [hr, Option.map_some] | (have := hr; simp_all)
  have e : froot x = D.write (.number false n j) := by unfold froot; rw [hs, Option.getD_some]
  rw [e]
  exact ⟨nn_write _ _ _, sg_write _ _ _ _, hs⟩
/-- a round of halving the angle -/
def angA (t : Nat) : Nat := fop .mul .f64 t t
def angB (t : Nat) : Nat := fop .add .f64 C1 (angA t)
def angD (t : Nat) : Nat := fop .add .f64 C1 (froot (angB t))
def angS (t : Nat) : Nat := fop .quo .f64 t (angD t)
structure AngStep (n t : Nat) : Prop where
  a : nan .f64 (angA t) = false
  b : nan .f64 (angB t) = false
  r : D.sqrt (angB t) = some (froot (angB t))
  d : nan .f64 (angD t) = false
  s : F2 (n + 1) (angS t)
theorem ang_step {n t : Nat} (h : F2 n t) (hn : n ≤ 100) : AngStep n t := by
  have ha : F2 (2 * n) (angA t) := h.mul h (2 * n) (by omega) (by omega)
  have hb : F2 (2 * n + 1) (angB t) := F2_C1.add ha (2 * n + 1) (by omega) (by omega) (by omega)
  have hsb : sg D (angB t) = false := sg_one ha.lt (sg_square h.lt)
  have hr := root_good hb.lt hsb
  have hr2 : F2 (n + 2) (froot (angB t)) := F2.of (hb.b.root (j := n + 1) (k := n + 2) (by omega) (by omega) (by omega)) hr.1 (by omega)
  have hd : F2 (n + 3) (angD t) := F2_C1.add hr2 (n + 3) (by omega) (by omega) (by omega)
  exact ⟨ha.nn, hb.nn, hr.2.2, hd.nn, h.div hd (ge_one hr2.lt hr.2.1) (n + 1) (by omega) (by omega)⟩
def angT (t : Nat) : Nat → Nat
  | 0 => t
  | j + 1 => angS (angT t j)
theorem angT_F2 {t : Nat} (h : F2 1 t) : ∀ j, j ≤ 3 → F2 (1 + j) (angT t j)
  | 0, _ => h
  | j + 1, hj => (ang_step (angT_F2 h j (by omega)) (by omega)).s
/-! the polynomial -/
def ak (j : Nat) : Nat := floatOfInt .f64 (15 - 2 * (j : Int))
def ar (j : Nat) : Nat := fop .quo .f64 C1 (ak j)
def aktabB (j : Nat) : Bool :=
  (FloatKind.f64.format.order (ak j) C1 == some Ordering.gt || FloatKind.f64.format.order (ak j) C1 == some Ordering.eq) &&
  !nan .f64 (ar j) && (fop .sub .f64 (ak j) C2 == ak (j + 1)) && !nan .f64 (ak (j + 1)) && decide (rg D (ar j) ≤ P2 0) && (fint (ak j) == 15 - 2 * (j : Int)) && (fint (ak (j + 1)) == 15 - 2 * ((j + 1 : Nat) : Int))
theorem aktab_all : (List.range 8).all aktabB = true := by decide +kernel
structure ATab (j : Nat) : Prop where
  test : (FloatKind.f64.format.order (ak j) 4607182418800017408 == some Ordering.gt || FloatKind.f64.format.order (ak j) 4607182418800017408 == some Ordering.eq) = true
  nR : nan .f64 (ar j) = false
  eK : fop .sub .f64 (ak j) C2 = ak (j + 1)
  nK : nan .f64 (ak (j + 1)) = false
  bR : rg D (ar j) ≤ P2 0
  iK : fint (ak j) = 15 - 2 * (j : Int)
  iK' : fint (ak (j + 1)) = 15 - 2 * ((j + 1 : Nat) : Int)
theorem atabs {j : Nat} (h : j < 8) : ATab j := by
  have := List.all_eq_true.1 aktab_all j (List.mem_range.2 h)
  simp only [aktabB, Bool.and_eq_true, decide_eq_true_eq, Bool.not_eq_true', beq_iff_eq] at this
  obtain ⟨⟨⟨⟨⟨⟨h1, h2⟩, h3⟩, h4⟩, h5⟩, h6⟩, h7⟩ := this
  exact ⟨h1, h2, h3, h4, h5, h6, h7⟩
theorem ak_end : (FloatKind.f64.format.order (ak 8) 4607182418800017408 == some Ordering.gt || FloatKind.f64.format.order (ak 8) 4607182418800017408 == some Ordering.eq) = false := by decide +kernel
theorem ak_start : ak 0 = 4624633867356078080 := by decide +kernel
theorem ak_measure {j : Nat} (h : j < 8) : (fint (bitsOfV (.float .f64 (ak (j + 1))))).toNat < (fint (bitsOfV (.float .f64 (ak j)))).toNat := by
  rw [bits_float, bits_float]
  have := atabs h
  rw [this.iK, this.iK']
  omega
def angP (u : Nat) : Nat → Nat
  | 0 => 0
  | j + 1 => fop .sub .f64 (ar j) (fop .mul .f64 u (angP u j))
theorem angP_F2 {u : Nat} (hu : F2 8 u) : ∀ j, j ≤ 8 → F2 (9 * j) (angP u j)
  | 0, _ => ⟨by omega, by show rg D 0 ≤ P2 0; decide +kernel⟩
  | j + 1, h => by
    have ih := angP_F2 hu j (by omega)
    have h1 := hu.mul ih (8 + 9 * j) (Nat.le_refl _) (by omega)
    have h2 : F2 0 (ar j) := ⟨by omega, (atabs (show j < 8 by omega)).bR⟩
    exact h2.sub h1 (9 * (j + 1)) (by omega) (by omega) (by omega)
theorem angP_steps {u : Nat} (hu : F2 8 u) {j : Nat} (h : j < 8) : nan .f64 (fop .mul .f64 u (angP u j)) = false ∧ nan .f64 (angP u (j + 1)) = false :=
  ⟨(hu.mul (angP_F2 hu j (by omega)) (8 + 9 * j) (Nat.le_refl _) (by omega)).nn, (angP_F2 hu (j + 1) (by omega)).nn⟩
def C8 : Nat := 4620693217682128896
theorem F2_C8 : F2 3 C8 := ⟨by omega, by decide +kernel⟩
theorem F2_C025 : F2 0 C025 := ⟨by omega, by decide +kernel⟩
theorem turn_ge : P2 0 ≤ rg D Cturn := by decide +kernel
/-- the angle of a quotient, and its ways -/
def ang0 (t : Nat) : Nat := fop .quo .f64 (fop .mul .f64 C8 (fop .mul .f64 (angT t 3) (angP (angA (angT t 3)) 8))) Cturn
def ang1 (T : Bool) (e : Nat) : Nat := if T = true then fop .sub .f64 C025 e else e
def ang2 (X : Bool) (e : Nat) : Nat := if X = true then fop .sub .f64 C05 e else e
def ang3 (Y : Bool) (e : Nat) : Nat := if Y = true then fneg .f64 e else e
def angQ (a b : Nat) : Nat := if b < a then fop .quo .f64 b a else fop .quo .f64 a b
def angF (T X Y : Bool) (t : Nat) : Nat := ang3 Y (ang2 X (ang1 T (ang0 t)))
theorem angU_F2 {t : Nat} (h : F2 1 t) : F2 8 (angA (angT t 3)) := (angT_F2 h 3 (by omega)).mul (angT_F2 h 3 (by omega)) 8 (by omega) (by omega)
theorem angM_F2 {t : Nat} (h : F2 1 t) : F2 76 (fop .mul .f64 (angT t 3) (angP (angA (angT t 3)) 8)) := (angT_F2 h 3 (by omega)).mul (angP_F2 (angU_F2 h) 8 (by omega)) 76 (by omega) (by omega)
theorem angM8_F2 {t : Nat} (h : F2 1 t) : F2 79 (fop .mul .f64 C8 (fop .mul .f64 (angT t 3) (angP (angA (angT t 3)) 8))) := F2_C8.mul (angM_F2 h) 79 (by omega) (by omega)
theorem ang0_F2 {t : Nat} (h : F2 1 t) : F2 80 (ang0 t) := (angM8_F2 h).div F2_Cturn turn_ge 80 (by omega) (by omega)
theorem angs1_F2 {t : Nat} (h : F2 1 t) : F2 81 (fop .sub .f64 C025 (ang0 t)) := F2_C025.sub (ang0_F2 h) 81 (by omega) (by omega) (by omega)
theorem ang1_F2 {t : Nat} (h : F2 1 t) (T : Bool) : F2 81 (ang1 T (ang0 t)) := by
  unfold ang1
  split
  · exact angs1_F2 h
  · exact (ang0_F2 h).mono (by omega) (by omega)
theorem angs2_F2 {e : Nat} (h : F2 81 e) : F2 82 (fop .sub .f64 C05 e) := F2_C05.sub h 82 (by omega) (by omega) (by omega)
theorem ang2_F2 {e : Nat} (h : F2 81 e) (X : Bool) : F2 82 (ang2 X e) := by
  unfold ang2
  split
  · exact angs2_F2 h
  · exact h.mono (by omega) (by omega)
theorem ang3_F2 {e : Nat} (h : F2 82 e) (Y : Bool) : F2 82 (ang3 Y e) := by
  unfold ang3
  split
  · exact h.neg
  · exact h
theorem angF_F2 {t : Nat} (h : F2 1 t) (T X Y : Bool) : F2 82 (angF T X Y t) := ang3_F2 (ang2_F2 (ang1_F2 h T) X) Y
/-- the quotient at first: the two numbers are words without a sign -/
theorem angQ_F2 {a b : Nat} (ha : a < D.infRung) (hb : b < D.infRung) (h0 : a ≠ 0 ∨ b ≠ 0) : F2 1 (angQ a b) := by
  unfold angQ
  split
  · exact quo_le (by rw [rg_small hb]; exact hb) (by rw [rg_small ha]; exact ha) (by rw [rg_small ha, rg_small hb]; omega) (by rw [rg_small ha]; omega)
  · exact quo_le (by rw [rg_small ha]; exact ha) (by rw [rg_small hb]; exact hb) (by rw [rg_small ha, rg_small hb]; omega) (by rw [rg_small hb]; omega)
end Go.Proofs.Fl
/-
  The sine of turns, by the program: the fraction, the two foldings, eight rounds of the polynomial.
-/
namespace Go.Proofs.YtkbfhooiloaokaaGreatDoor.Num
open Go.RowKit Go.Proofs.Fl
set_option linter.unusedVariables false

theorem run_fint (x : Nat) (h : F2 52 x) (w : World) : (convert 46 2 (.float .f64 x)).run Tryz.prog w = .ok (.int .i64 (fint x)) w :=
  run_convert_float_int w _ _ .f64 .i64 x _ (by kernel_rfl) Tryz.underlying2 (fint_some h.b (by omega) h.nn).1
@[go_sem] theorem neg_float (k : FloatKind) (x : Nat) : Op.unary .neg (.float k x) = pure (.float k (fneg k x)) := rfl

theorem fraction_calls (x : Nat) (h : F2 52 x) (w : World) : Calls Tryz.prog 83 #[.float .f64 x] w (Ret (.float .f64 (fracF x)) w) := by
  have hcv := run_fint x h
  have hf := less_F2 h
  have e1 := fun w => run_fop_det (P := Tryz.prog) hf.nn 46 w
  have Hd := hid (show fracF x = if (D.order (fop .sub .f64 x (floatOfInt .f64 (fint x))) 0 == some Ordering.lt) = true then fop .add .f64 (fop .sub .f64 x (floatOfInt .f64 (fint x))) C1 else fop .sub .f64 x (floatOfInt .f64 (fint x)) from rfl)
  have hn := nn_add hf.lt (show rg D C1 < D.infRung by decide +kernel)
  have e2 := fun w => run_fop_det (P := Tryz.prog) hn 46 w
  clear hf hn
  generalize fop .sub .f64 x (floatOfInt .f64 (fint x)) = f at *
  generalize hg : fop .add .f64 f C1 = g at *
  clear hg
  unfold C1 at e2
  cases ho : (FloatKind.f64.format.order f 0 == some Ordering.lt)
  all_goals
    have Ho := hid (show (D.order f 0 == some Ordering.lt) = _ from ho)
    go_enter Tryz.func83, Tryz.ntmps83
    go_wp2
    go_ret
    exact ⟨ret_float (by rw [Hd.out, Ho.out]; rfl), 0, rfl⟩

set_option maxHeartbeats 1600000 in
theorem sine_core (x f f1 f2 z u : Nat) (T G : Bool) (hx : F2 52 x) (hf : fracF x = f) (hu : F2 10 u) (hr : nan .f64 (fop .mul .f64 z (sineP u 8)) = false)
    (hT : (FloatKind.f64.format.order f 4602678819172646912 == some Ordering.gt || FloatKind.f64.format.order f 4602678819172646912 == some Ordering.eq) = T)
    (h1 : if T = true then ∀ w, (binOp .sub 46 (.float .f64 f) (.float .f64 4602678819172646912)).run Tryz.prog w = .ok (.float .f64 f1) w else f1 = f)
    (hG : (FloatKind.f64.format.order f1 4598175219545276416 == some Ordering.gt) = G)
    (h2 : if G = true then ∀ w, (binOp .sub 46 (.float .f64 4602678819172646912) (.float .f64 f1)).run Tryz.prog w = .ok (.float .f64 f2) w else f2 = f1)
    (hz : ∀ w, (binOp .mul 46 (.float .f64 f2) (.float .f64 4618760256179416344)).run Tryz.prog w = .ok (.float .f64 z) w)
    (hzz : ∀ w, (binOp .mul 46 (.float .f64 z) (.float .f64 z)).run Tryz.prog w = .ok (.float .f64 u) w) (w : World) :
    Calls Tryz.prog 67 #[.float .f64 x] w (Ret (.float .f64 (if T = true then fneg .f64 (fop .mul .f64 z (sineP u 8)) else fop .mul .f64 z (sineP u 8))) w) := by
  have HF := hid hf
  have HX := hid hx
  have hend := fun w => run_fop_det (P := Tryz.prog) hr 46 w
  have HU := hid hu
  have hke := kf_end
  have HKS := hid kf_start
  clear hf hx hr hu
  generalize hres : fop .mul .f64 z (sineP u 8) = res at *
  clear hres
  cases T <;> cases G
  all_goals
    simp only [if_true, Bool.false_eq_true, if_false] at h1 h2 ⊢
    first | subst h1 | skip
    first | subst h2 | skip
    go_enter Tryz.func67, Tryz.ntmps67
    go_wp2_with (go_at_call 83; refine (fraction_calls _ HX.out _).mono ?_; rw [HF.out]; rintro e w' ⟨rfl, n0, rfl⟩)
    go_loop [7, 8] (fun p k => ∃ j : Nat, j ≤ 8 ∧ k = .float .f64 (kf j) ∧ p = .float .f64 (sineP u j)) (fun p k => (fint (bitsOfV k)).toNat)
    case atStart => exact ⟨0, by omega, by rw [HKS.out], rfl⟩
    case round =>
      obtain ⟨j, hj, rfl, rfl⟩ := hrel
      by_cases hlt : j < 8
      · have ht := ktabs hlt
        have hst := sineP_steps HU.out hlt
        have c1 := ht.test
        have c2 := fun w => run_fop_det (P := Tryz.prog) (show nan .f64 (fop .mul .f64 C2 (kf j)) = false from ht.nA) 46 w
        have c3 := fun w => run_fop_det (P := Tryz.prog) (show nan .f64 (fop .add .f64 (kA j) C1) = false from ht.nB) 46 w
        have c4 := fun w => run_fop_det (P := Tryz.prog) (show nan .f64 (fop .mul .f64 (kA j) (kB j)) = false by rw [ht.eD]; exact ht.nD) 46 w
        have c5 := fun w => run_fop_det (P := Tryz.prog) hst.1 46 w
        have c6 := fun w => run_fop_det (P := Tryz.prog) hst.2.1 46 w
        have c7 := fun w => run_fop_det (P := Tryz.prog) (show nan .f64 (fop .sub .f64 C1 (fop .quo .f64 (fop .mul .f64 u (sineP u j)) (kD j))) = false from hst.2.2) 46 w
        have c8 := fun w => run_fop_det (P := Tryz.prog) (show nan .f64 (fop .sub .f64 (kf j) C1) = false by rw [ht.eK]; exact ht.nK) 46 w
        rw [show fop .mul .f64 C2 (kf j) = kA j from rfl] at c2
        rw [show fop .add .f64 (kA j) C1 = kB j from rfl] at c3
        rw [ht.eD] at c4
        rw [show fop .sub .f64 C1 (fop .quo .f64 (fop .mul .f64 u (sineP u j)) (kD j)) = sineP u (j + 1) from rfl] at c7
        rw [ht.eK] at c8
        have HM := hid (kf_measure hlt)
        clear ht hst
        unfold C1 at c3 c7 c8
        unfold C2 at c2
        generalize fop .quo .f64 (fop .mul .f64 u (sineP u j)) (kD j) = q at *
        generalize fop .mul .f64 u (sineP u j) = m at *
        go_wp2
        go_round
        case rel => exact ⟨j + 1, hlt, rfl, rfl⟩
        case measure => exact HM.out
      · obtain rfl : j = 8 := by omega
        go_wp2
        go_ret
        exact ⟨rfl, _, rfl⟩
theorem sine_calls (x : Nat) (h : F2 52 x) (w : World) : Calls Tryz.prog 67 #[.float .f64 x] w (Ret (.float .f64 (sineF (fracF x))) w) := by
  obtain ⟨f1, f2, z, u, T, G, hp⟩ := sine_parts (frac_F2 h)
  rw [hp.res]
  refine sine_core x (fracF x) f1 f2 z u T G h rfl hp.fu hp.nr hp.hT ?_ hp.hG ?_ ?_ ?_ w
  · have e := hp.h1
    cases T
    · simpa using e
    · simp only [if_true] at e ⊢
      intro w
      rw [e]
      exact run_fop_det hp.n1 _ w
  · have e := hp.h2
    cases G
    · simpa using e
    · simp only [if_true] at e ⊢
      intro w
      rw [e]
      exact run_fop_det hp.n2 _ w
  · intro w
    rw [hp.hz]
    exact run_fop_det hp.nz _ w
  · intro w
    rw [hp.hu]
    exact run_fop_det hp.nu _ w
end Go.Proofs.YtkbfhooiloaokaaGreatDoor.Num
/-
  The sine of turns, by the reference, of a number of turns that is finite and less than 2 to the power of 52.
-/
namespace Go.Proofs.YtkbfhooiloaokaaGreatDoor.Num
open Go.RowKit Go.Proofs.Fl
set_option linter.unusedVariables false

/-- what the reference's first tests say of such a number -/
structure Small (x : Nat) : Prop where
  fin : nan .f64 (fop .sub .f64 x x) = false
  zero : (FloatKind.f64.format.order (fop .sub .f64 x x) 0 != some Ordering.eq) = false
  low : (FloatKind.f64.format.order x 4841369599423283200 == some Ordering.gt || FloatKind.f64.format.order x 4841369599423283200 == some Ordering.eq) = false
  high : (FloatKind.f64.format.order x 14064741636278059008 == some Ordering.lt || FloatKind.f64.format.order x 14064741636278059008 == some Ordering.eq) = false

theorem wrap_kD {j : Nat} (h : j < 8) : floatOfInt .f64 (wrap64 (2 * (8 - (j : Int)) * (2 * (8 - (j : Int)) + 1))) = kD j := by
  have : j = 0 ∨ j = 1 ∨ j = 2 ∨ j = 3 ∨ j = 4 ∨ j = 5 ∨ j = 6 ∨ j = 7 := by omega
  unfold kD
  congr 1
  rcases this with rfl | rfl | rfl | rfl | rfl | rfl | rfl | rfl <;> decide +kernel
end Go.Proofs.YtkbfhooiloaokaaGreatDoor.Num
/-
  The sine of turns of every float64, by both texts, and math.NaN.
-/
namespace Go.Proofs.Fl
open Go Ieee Go.RowKit
/-- the sine of any turns -/
def sineW (y : Nat) : Nat := if nan .f64 (fop .sub .f64 y y) = true then qn .f64 else if bigB y = true then 0 else sineF (fracF y)
theorem sineW_congr {x y : Nat} (h : FEq .f64 x y) : sineW x = sineW y := by
  rcases h.cases with e | ⟨a, b⟩
  · rw [e]
  · unfold sineW
    rw [fop_nan_left a, fop_nan_left b, if_pos (nan_qn _), if_pos (nan_qn _)]
theorem good_lt {y : Nat} (h : nan .f64 (fop .sub .f64 y y) = false) : rg D y < D.infRung := by
  apply Classical.byContradiction
  intro hc
  rw [self_bad hc] at h
  cases h
theorem good_zero {y : Nat} (h : nan .f64 (fop .sub .f64 y y) = false) : fop .sub .f64 y y = 0 := self_zero .f64 y (good_lt h)
theorem lt_good {y : Nat} (h : rg D y < D.infRung) : nan .f64 (fop .sub .f64 y y) = false := by
  rw [self_zero .f64 y h]
  decide +kernel
theorem sineW_fits (y : Nat) : Fits (sineW y) := by
  unfold sineW
  split
  · exact .inl (nan_qn _)
  · split
    · exact fits_zero false
    · rename_i h
      exact (sineF_F2 (frac_F2 (F2_small (by simpa using h)))).fits (by omega)
theorem bad_neq {y v : Nat} (hv : FEq .f64 v (fop .sub .f64 y y)) (h : nan .f64 (fop .sub .f64 y y) = true) : (FloatKind.f64.format.order v 0 != some Ordering.eq) = true := by
  rw [order_nan_left (by rw [hv.nan_eq]; exact h)]
  rfl
theorem zero_neq : (FloatKind.f64.format.order 0 0 != some Ordering.eq) = false := by decide +kernel
theorem small_of {y : Nat} (h : nan .f64 (fop .sub .f64 y y) = false) (hb : bigB y = false) : ∀ a b, (FloatKind.f64.format.order y 4841369599423283200 == some Ordering.gt || FloatKind.f64.format.order y 4841369599423283200 == some Ordering.eq) = a →
    (FloatKind.f64.format.order y 14064741636278059008 == some Ordering.lt || FloatKind.f64.format.order y 14064741636278059008 == some Ordering.eq) = b → a = false ∧ b = false := by
  intro a b ha hb'
  have := big_two (Nat.le_of_lt (good_lt h))
  rw [ha, hb', hb] at this
  simpa using this
theorem nanW : FEq .f64 9221120237041090561 (qn .f64) := by show cn _ _ = cn _ _; decide +kernel
end Go.Proofs.Fl
namespace Go.Proofs.YtkbfhooiloaokaaGreatDoor.Num
open Go.RowKit Go.Proofs.Fl
set_option linter.unusedVariables false
theorem NaN_calls (w : World) : Calls Tryz.prog 66 #[] w (Ret (.float .f64 9221120237041090561) w) := by
  go_enter Tryz.func66, Tryz.ntmps66
  go_wp2
  go_ret
  exact ⟨rfl, 0, rfl⟩
/-- the reference's narrowing -/
theorem l01Narrow_calls (x : Nat) (hx : Fits x) (w : World) : Calls Tryz.prog 71 #[.float .f64 x] w (RetF .f32 (fnar x) w) := by
  go_enter Tryz.func71, Tryz.ntmps71
  go_wp2_with (refine wpList_narrow rfl rfl (by kernel_rfl) Tryz.underlying28 hx ?_; intro v n hv)
  go_ret
  exact ⟨v, _, rfl, hv, rfl⟩
end Go.Proofs.YtkbfhooiloaokaaGreatDoor.Num
/-
  Which float32 have a logarithm: the cases of a word, and what the tests say of it. Over no program.
-/
namespace Go.Proofs.Fl
open Go Ieee Go.RowKit

structure Neg32 (x : Nat) : Prop where
  fin : rg Ieee.single x < 2139095040
  pos : 0 < rg Ieee.single x
  sign : sg Ieee.single x = true
structure Pos32 (x : Nat) : Prop where
  fin : rg Ieee.single x < 2139095040
  pos : 0 < rg Ieee.single x
  sign : sg Ieee.single x = false
theorem cases32 {x : Nat} (hx : x < 4294967296) : nan .f32 x = true ∨ x = 0 ∨ x = 2147483648 ∨ x = 2139095040 ∨ x = 4286578688 ∨ Neg32 x ∨ Pos32 x := by
  have hw := word_parts Ieee.single x (by rw [sw32]; omega)
  rw [sw32] at hw
  cases hn : nan .f32 x
  · have hr := rg_le_of hn
    change rg Ieee.single x ≤ Ieee.single.infRung at hr
    rw [inf32] at hr
    rcases Nat.eq_zero_or_pos (rg Ieee.single x) with h0 | h0
    · rw [h0] at hw
      cases hs : sg Ieee.single x <;> rw [hs] at hw <;> simp at hw <;> omega
    · rcases Nat.lt_or_eq_of_le hr with h1 | h1
      · cases hs : sg Ieee.single x
        · exact .inr (.inr (.inr (.inr (.inr (.inr ⟨h1, h0, hs⟩)))))
        · exact .inr (.inr (.inr (.inr (.inr (.inl ⟨h1, h0, hs⟩)))))
      · rw [h1] at hw
        cases hs : sg Ieee.single x <;> rw [hs] at hw <;> simp at hw <;> omega
  · exact .inl rfl
theorem nn_fin {x : Nat} (h : rg Ieee.single x < 2139095040) : nan .f32 x = false := by
  rw [nan_eq]
  change decide (Ieee.single.infRung < rg Ieee.single x) = false
  rw [inf32]
  exact decide_eq_false (by omega)
theorem Mg32_pos {x : Nat} (h : 0 < rg Ieee.single x) : 1 ≤ Fl.Mg Ieee.single (rg Ieee.single x) := by
  have := Mg_smono Ieee.single h
  omega
theorem sv32_zero : sv Ieee.single 0 = 0 := by decide +kernel
theorem sv64_zero : sv D 0 = 0 := by decide +kernel
theorem rg0_32 : rg Ieee.single 0 ≤ Ieee.single.infRung := by decide +kernel
theorem rg0_64 : rg D 0 ≤ D.infRung := by decide +kernel
theorem lt32 (x : Nat) (h : rg Ieee.single x < 2139095040) : (FloatKind.f32.format.order x 0 == some Ordering.lt) = decide (sv Ieee.single x < 0) := by
  rw [lss_sv (f := .f32) (x := x) (c := 0) (by show rg Ieee.single x ≤ Ieee.single.infRung; rw [inf32]; omega) rg0_32]
  rw [show sv FloatKind.f32.format 0 = 0 from sv32_zero]
  rfl
theorem eq32 (x : Nat) (h : rg Ieee.single x < 2139095040) : (FloatKind.f32.format.order x 0 == some Ordering.eq) = decide (sv Ieee.single x = 0) := by
  have := neq_sv (f := .f32) (x := x) (c := 0) (by show rg Ieee.single x ≤ Ieee.single.infRung; rw [inf32]; omega) rg0_32
  rw [show sv FloatKind.f32.format 0 = 0 from sv32_zero] at this
  change _ = decide (sv Ieee.single x ≠ 0) at this
  unfold bne at this
  cases he : (FloatKind.f32.format.order x 0 == some Ordering.eq) <;> simp_all
theorem le32 (x : Nat) (h : rg Ieee.single x < 2139095040) : (FloatKind.f32.format.order x 0 == some Ordering.lt || FloatKind.f32.format.order x 0 == some Ordering.eq) = decide (sv Ieee.single x ≤ 0) := by
  rw [leq_sv (f := .f32) (x := x) (c := 0) (by show rg Ieee.single x ≤ Ieee.single.infRung; rw [inf32]; omega) rg0_32]
  rw [show sv FloatKind.f32.format 0 = 0 from sv32_zero]
  rfl
theorem Neg32.sv {x : Nat} (h : Neg32 x) : sv Ieee.single x < 0 := by
  have := Mg32_pos h.pos
  unfold Fl.sv
  rw [h.sign]
  simp only [if_true]
  omega
theorem Pos32.sv {x : Nat} (h : Pos32 x) : 0 < sv Ieee.single x := by
  have := Mg32_pos h.pos
  unfold Fl.sv
  rw [h.sign]
  simp only [Bool.false_eq_true, if_false]
  omega
theorem Neg32.wide_lt {x : Nat} (h : Neg32 x) : (FloatKind.f64.format.order (fwide x) 0 == some Ordering.lt) = true := by
  have hw := wide_fin x h.fin
  rw [lss_sv (f := .f64) (x := fwide x) (c := 0) (by show rg D (fwide x) ≤ D.infRung; rw [show D.infRung = _ from inf64]; exact Nat.le_of_lt hw.2.2.1) rg0_64]
  rw [show Fl.sv FloatKind.f64.format 0 = 0 from sv64_zero]
  apply decide_eq_true
  show Fl.sv D (fwide x) < 0
  unfold Fl.sv
  rw [hw.2.1, h.sign, if_pos rfl, hw.2.2.2]
  have := Nat.mul_pos (Mg32_pos h.pos) w925_pos
  omega
theorem Mg_874 : Fl.Mg D (873 * 4503599627370496) ≤ w925 := by decide +kernel
theorem Pos32.log {x : Nat} (h : Pos32 x) : LogIn (fwide x) := by
  have hw := wide_fin x h.fin
  have hp := word_parts D (fwide x) (by rw [sw64]; exact fwide_lt)
  rw [hw.2.1, h.sign] at hp
  simp only [Bool.false_eq_true, if_false, Nat.zero_add] at hp
  constructor
  · rw [hp]
    refine (Mg_le_iff D).1 (Nat.le_trans Mg_874 ?_)
    rw [hw.2.2.2]
    exact Nat.le_mul_of_pos_left _ (Mg32_pos h.pos)
  · have := (F2.wide h.fin).2
    rw [← hp] at this
    unfold P2 at this
    omega
theorem finB_fin {x : Nat} (h : rg Ieee.single x < 2139095040) : finB x = true := by rw [finB_told]; exact decide_eq_true h
theorem fw0 : fwide 0 = 0 := by decide +kernel
theorem fw1 : fwide 2147483648 = 9223372036854775808 := by decide +kernel
theorem fw2 : fwide 2139095040 = 9218868437227405312 := by decide +kernel
theorem fw3 : fwide 4286578688 = 18442240474082181120 := by decide +kernel
theorem fn_inf : fnar 9218868437227405312 = 2139095040 := by decide +kernel
theorem fits_qn : Fits (qn .f64) := .inl (nan_qn _)
theorem fits_pinf : Fits 9218868437227405312 := Fits_inf (by decide +kernel)
theorem fits_ninf : Fits 18442240474082181120 := Fits_inf (by decide +kernel)
theorem fin_nan {x : Nat} (h : nan .f32 x = true) : finB x = false := by
  rw [finB_told]
  rw [nan_eq] at h
  have h' : Ieee.single.infRung < rg Ieee.single x := of_decide_eq_true h
  rw [inf32] at h'
  exact decide_eq_false (by omega)
theorem nan_lt {k : FloatKind} {x c : Nat} (h : nan k x = true) : (k.format.order x c == some Ordering.lt) = false := by rw [order_nan_left h]; rfl
theorem nan_eql {k : FloatKind} {x c : Nat} (h : nan k x = true) : (k.format.order x c == some Ordering.eq) = false := by rw [order_nan_left h]; rfl
theorem nan_neq {k : FloatKind} {x c : Nat} (h : nan k x = true) : (k.format.order x c != some Ordering.eq) = true := by rw [order_nan_left h]; rfl
end Go.Proofs.Fl
/-
  Whether a float32 is finite: both texts take it from itself and look for zero.
-/
namespace Go.Proofs.YtkbfhooiloaokaaGreatDoor.Num
open Go.RowKit Go.Proofs.Fl
set_option linter.unusedVariables false

theorem l01Finite_calls (x : Nat) (w : World) : Calls Tryz.prog 62 #[.float .f32 x] w (Ret (.bool (finB x)) w) := by
  go_enter Tryz.func62, Tryz.ntmps62
  go_wp2_with (refine wpList_fop rfl rfl rfl rfl ?_; intro v n hv)
  go_ret
  exact ⟨ret_bool (finB_eq hv), _, rfl⟩
theorem IsFinite_calls (x : Nat) (w : World) : Calls Tryz.prog 61 #[.float .f32 x] w (Ret (.bool (finB x)) w) := by
  go_enter Tryz.func61, Tryz.ntmps61
  go_wp2_with (refine wpList_fop rfl rfl rfl rfl ?_; intro v n hv)
  go_ret
  exact ⟨ret_bool (finB_eq hv), _, rfl⟩
end Go.Proofs.YtkbfhooiloaokaaGreatDoor.Num
/-
  The angle of a point, by both texts: the lesser number over the greater, three times the half of the angle, eight rounds of the polynomial.
-/
namespace Go.Proofs.YtkbfhooiloaokaaGreatDoor.Num
open Go.RowKit Go.Proofs.Fl
set_option linter.unusedVariables false
set_option linter.unusedSimpArgs false
theorem sqrt_run (x r : Nat) (h : D.sqrt x = some r) (w : World) : (callFunc 70 #[.float .f64 x]).run Tryz.prog w = .ok (.value (.float .f64 r)) w := by
  rw [run_callFunc_extern (e := Extern.MathSqrt.sqrt) Tryz.func70 (by kernel_rfl) (by kernel_rfl) (by kernel_rfl) (by kernel_rfl)]
  obtain ⟨v, n, hv, hw⟩ : ∃ v n, v = r ∧ (Extern.MathSqrt.sqrt #[.float .f64 x]).run Tryz.prog w = .ok (.float .f64 v) (w.drewN n) ∧ n = 0 := by
    refine ⟨r, 0, rfl, ?_, rfl⟩
    have h' : FloatKind.f64.format.sqrt x = some r := h
    change Sem.run Tryz.prog (match FloatKind.f64.format.sqrt x with | some r => pure (Value.float .f64 r) | none => do pure (Value.float .f64 (← choose (.nanBits .f64 x x)))) w = _
    rw [h']
    rfl
  obtain ⟨hw, rfl⟩ := hw
  subst hv
  rw [hw]
  rfl
theorem Sqrt_det (x r : Nat) (h : D.sqrt x = some r) (w : World) : Calls Tryz.prog 44 #[.float .f64 x] w fun e w' => e = .returned (.float .f64 r) ∧ w' = w := by
  have hr := sqrt_run x r h
  clear h
  go_enter Tryz.func44, Tryz.ntmps44
  go_wp2
  go_ret
  exact ⟨rfl, rfl⟩
structure AStep (t A B R E S : Nat) : Prop where
  c1 : ∀ w, (binOp .mul 46 (.float .f64 t) (.float .f64 t)).run Tryz.prog w = .ok (.float .f64 A) w
  c2 : ∀ w, (binOp .add 46 (.float .f64 4607182418800017408) (.float .f64 A)).run Tryz.prog w = .ok (.float .f64 B) w
  c3 : D.sqrt B = some R
  c4 : ∀ w, (binOp .add 46 (.float .f64 4607182418800017408) (.float .f64 R)).run Tryz.prog w = .ok (.float .f64 E) w
  c5 : ∀ w, (binOp .quo 46 (.float .f64 t) (.float .f64 E)).run Tryz.prog w = .ok (.float .f64 S) w
theorem astep {n t : Nat} (h : F2 n t) (hn : n ≤ 100) : AStep t (angA t) (angB t) (froot (angB t)) (angD t) (angS t) := by
  have hs := ang_step h hn
  exact ⟨fun w => run_fop_det hs.a _ w, fun w => run_fop_det hs.b _ w, hs.r, fun w => run_fop_det hs.d _ w, fun w => run_fop_det hs.s.nn _ w⟩
structure PStep (u p k r m S k' : Nat) : Prop where
  c1 : ∀ w, (binOp .quo 46 (.float .f64 4607182418800017408) (.float .f64 k)).run Tryz.prog w = .ok (.float .f64 r) w
  c2 : ∀ w, (binOp .mul 46 (.float .f64 u) (.float .f64 p)).run Tryz.prog w = .ok (.float .f64 m) w
  c3 : ∀ w, (binOp .sub 46 (.float .f64 r) (.float .f64 m)).run Tryz.prog w = .ok (.float .f64 S) w
  c4 : ∀ w, (binOp .sub 46 (.float .f64 k) (.float .f64 4611686018427387904)).run Tryz.prog w = .ok (.float .f64 k') w
theorem pstep {u j : Nat} (hu : F2 8 u) (h : j < 8) : PStep u (angP u j) (ak j) (ar j) (fop .mul .f64 u (angP u j)) (angP u (j + 1)) (ak (j + 1)) := by
  have ht := atabs h
  have hs := angP_steps hu h
  refine ⟨fun w => run_fop_det ht.nR _ w, fun w => run_fop_det hs.1 _ w, fun w => run_fop_det hs.2 _ w, fun w => ?_⟩
  have := run_fop_det (P := Tryz.prog) (show nan .f64 (fop .sub .f64 (ak j) C2) = false by rw [ht.eK]; exact ht.nK) 46 w
  rw [ht.eK] at this
  exact this
structure AEnd (T X : Bool) (t3 u p M M8 e0 e1 e2 : Nat) : Prop where
  c0 : ∀ w, (binOp .mul 46 (.float .f64 t3) (.float .f64 t3)).run Tryz.prog w = .ok (.float .f64 u) w
  c1 : ∀ w, (binOp .mul 46 (.float .f64 t3) (.float .f64 p)).run Tryz.prog w = .ok (.float .f64 M) w
  c2 : ∀ w, (binOp .mul 46 (.float .f64 4620693217682128896) (.float .f64 M)).run Tryz.prog w = .ok (.float .f64 M8) w
  c3 : ∀ w, (binOp .quo 46 (.float .f64 M8) (.float .f64 4618760256179416344)).run Tryz.prog w = .ok (.float .f64 e0) w
  c4 : if T = true then ∀ w, (binOp .sub 46 (.float .f64 4598175219545276416) (.float .f64 e0)).run Tryz.prog w = .ok (.float .f64 e1) w else e1 = e0
  c5 : if X = true then ∀ w, (binOp .sub 46 (.float .f64 4602678819172646912) (.float .f64 e1)).run Tryz.prog w = .ok (.float .f64 e2) w else e2 = e1
theorem aend {t : Nat} (h : F2 1 t) (T X : Bool) : AEnd T X (angT t 3) (angA (angT t 3)) (angP (angA (angT t 3)) 8) (fop .mul .f64 (angT t 3) (angP (angA (angT t 3)) 8)) (fop .mul .f64 C8 (fop .mul .f64 (angT t 3) (angP (angA (angT t 3)) 8))) (ang0 t) (ang1 T (ang0 t)) (ang2 X (ang1 T (ang0 t))) := by
  refine ⟨fun w => run_fop_det (angU_F2 h).nn _ w, fun w => run_fop_det (angM_F2 h).nn _ w, fun w => run_fop_det (angM8_F2 h).nn _ w, fun w => run_fop_det (ang0_F2 h).nn _ w, ?_, ?_⟩
  · cases T
    · exact rfl
    · exact fun w => run_fop_det (angs1_F2 h).nn _ w
  · cases X
    · exact rfl
    · exact fun w => run_fop_det (angs2_F2 (ang1_F2 h T)).nn _ w
/-- all that a walk of the angle needs -/
structure AWalk (y x t u M M8 e0 e1 e2 : Nat) (X0 Y0 T X Y : Bool) : Prop where
  zero : (X0 && Y0) = false
  q : if T = true then ∀ w, (binOp .quo 46 (.float .f64 (rg Ieee.double x)) (.float .f64 (rg Ieee.double y))).run Tryz.prog w = .ok (.float .f64 t) w else ∀ w, (binOp .quo 46 (.float .f64 (rg Ieee.double y)) (.float .f64 (rg Ieee.double x))).run Tryz.prog w = .ok (.float .f64 t) w
  q2 : ∃ t', T = true → ∀ w, (binOp .quo 46 (.float .f64 (rg Ieee.double y)) (.float .f64 (rg Ieee.double x))).run Tryz.prog w = .ok (.float .f64 t') w
  hT : (FloatKind.f64.format.order (rg Ieee.double y) (rg Ieee.double x) == some Ordering.gt) = T
  step : ∀ j, j < 3 → ∃ A B R E, AStep (angT t j) A B R E (angT t (j + 1))
  poly : ∀ j, j < 8 → ∃ r m, PStep u (angP u j) (ak j) r m (angP u (j + 1)) (ak (j + 1))
  fin : AEnd T X (angT t 3) u (angP u 8) M M8 e0 e1 e2
set_option maxHeartbeats 6400000 in
theorem AngleTurns_core (y0 x0 y x : Nat) (t u M M8 e0 e1 e2 : Nat) (X0 Y0 T X Y : Bool) (gy : finB y0 = true) (gx : finB x0 = true) (wy : fwide y0 = y) (wx : fwide x0 = x) (ny : nan .f64 y = false) (nx : nan .f64 x = false)
    (h0 : (FloatKind.f32.format.order x0 0 == some Ordering.eq) = X0) (h0' : (FloatKind.f32.format.order y0 0 == some Ordering.eq) = Y0)
    (hX : (FloatKind.f32.format.order x0 0 == some Ordering.lt) = X) (hY : (FloatKind.f32.format.order y0 0 == some Ordering.lt) = Y) (hfit : Fits (ang3 Y e2))
    (ha : AWalk y x t u M M8 e0 e1 e2 X0 Y0 T X Y) (w : World) : Calls Tryz.prog 34 #[.float .f32 y0, .float .f32 x0] w (RetF .f32 (fnar (ang3 Y e2)) w) := by
  have GX := hid gx
  have GY := hid gy
  have WX := hid wx
  have WY := hid wy
  have NX := hid nx
  have NY := hid ny
  have HF := hid hfit
  clear gx gy wx wy nx ny hfit
  have HA := hid ha
  have hz := ha.zero
  have hq := ha.q
  obtain ⟨t', hq2⟩ := ha.q2
  have hT := ha.hT
  have d0 := ha.fin.c0
  have d1 := ha.fin.c1
  have d2 := ha.fin.c2
  have d3 := ha.fin.c3
  have d4 := ha.fin.c4
  have d5 := ha.fin.c5
  clear ha
  have hxy : X0 = false ∨ (X0 = true ∧ Y0 = false) := by
    cases X0
    · exact .inl rfl
    · exact .inr ⟨rfl, by simpa using hz⟩
  clear hz
  rcases hxy with rfl | ⟨rfl, rfl⟩ <;> cases T
  all_goals
    simp only [if_true, Bool.false_eq_true, if_false] at hq d4
    try have hq3 := hq2 rfl
    clear hq2
    first | subst d4 | skip
    generalize hay : rg Ieee.double y = a at *
    generalize hax : rg Ieee.double x = b at *
    go_enter Tryz.func34, Tryz.ntmps34
    go_wp2_with (first | (go_at_call 65; refine (Abs_calls _ _).mono ?_; (first | rw [hay] | rw [hax]); rintro e9 w9 ⟨rfl, n9, rfl⟩) | (go_at_call 61; refine (IsFinite_calls _ _).mono ?_; (first | rw [GX.out] | rw [GY.out]); rintro e9 w9 ⟨rfl, n9, rfl⟩) | (refine wpList_wide rfl rfl (by kernel_rfl) Tryz.underlying46 ?_; intro v9 q9 hv9; first | (rw [WX.out] at hv9; obtain rfl := hv9.eq NX.out; clear hv9) | (rw [WY.out] at hv9; obtain rfl := hv9.eq NY.out; clear hv9)) | (go_at_call 65; refine (Abs_calls _ _).mono ?_; rintro e9 w9 ⟨rfl, n9, rfl⟩))
    go_loop [7, 43] (fun s k => ∃ j : Nat, j ≤ 3 ∧ k = .int .i64 (j : Int) ∧ s = .float .f64 (angT t j)) (fun s k => 3 - (intOf k).toNat)
    case atStart => exact ⟨0, by omega, rfl, rfl⟩
    case round =>
      obtain ⟨j, hj, rfl, rfl⟩ := hrel
      by_cases hlt : j < 3
      · obtain ⟨A, B, R, E, hst⟩ := HA.out.step j hlt
        have c1 := hst.c1
        have c2 := hst.c2
        have HR := hid hst.c3
        have c4 := hst.c4
        have c5 := hst.c5
        clear hst
        go_wp2_with (go_at_call 44; refine (Sqrt_det _ _ HR.out _).mono ?_; rintro e9 w9 ⟨rfl, rfl⟩)
        go_round
        case rel => exact ⟨j + 1, hlt, by go_num, rfl⟩
        case measure => simp [intOf]; omega
      · obtain rfl : j = 3 := by omega
        skip
        go_wp2
        go_loop [9, 10] (fun p k => ∃ j : Nat, j ≤ 8 ∧ k = .float .f64 (ak j) ∧ p = .float .f64 (angP u j)) (fun p k => (fint (bitsOfV k)).toNat)
        case atStart => exact ⟨0, by omega, by rw [ak_start], rfl⟩
        case round =>
          clear hj hlt
          obtain ⟨j, hj, rfl, rfl⟩ := hrel
          by_cases hlt : j < 8
          · obtain ⟨r, m, hst⟩ := HA.out.poly j hlt
            have c1 := hst.c1
            have c2 := hst.c2
            have c3 := hst.c3
            have c4 := hst.c4
            clear hst
            have c0 := (atabs hlt).test
            have HM := hid (ak_measure hlt)
            go_wp2
            go_round
            case rel => exact ⟨j + 1, hlt, rfl, rfl⟩
            case measure => exact HM.out
          · obtain rfl : j = 8 := by omega
            have ce := ak_end
            cases X <;> cases Y
            all_goals
              simp only [if_true, Bool.false_eq_true, if_false] at d5
              first | subst d5 | skip
              unfold ang3 at HF
              simp only [if_true, Bool.false_eq_true, if_false] at HF
              go_wp2_with (refine wpList_narrow rfl rfl (by kernel_rfl) Tryz.underlying28 HF.out ?_; intro v3 n3 hv3)
              go_ret
              exact ⟨v3, _, rfl, hv3, rfl⟩
end Go.Proofs.YtkbfhooiloaokaaGreatDoor.Num
/-
  The laws' sameFloat: true of two float64 that are the same, up to which NaN.
-/
namespace Go.Proofs.YtkbfhooiloaokaaGreatDoor.Num
open Go.RowKit Go.Proofs.Fl
set_option linter.unusedVariables false

theorem gt_same {v v' c : Nat} (h : FEq .f64 v c) (h' : FEq .f64 v' c) : ((FloatKind.f64.format.order v 0 == some Ordering.gt) == (FloatKind.f64.format.order v' 0 == some Ordering.gt)) = true := by
  rw [order_congr h (FEq.refl _ _), order_congr h' (FEq.refl _ _)]
  simp
end Go.Proofs.YtkbfhooiloaokaaGreatDoor.Num
/-
  The program's AngleTurns.
-/
namespace Go.Proofs.YtkbfhooiloaokaaGreatDoor.fnExactAngleTurns
open Go.RowKit Go.Proofs.Fl Go.Proofs.YtkbfhooiloaokaaGreatDoor.Num
set_option linter.unusedVariables false
theorem wide_good (x : Nat) : nan .f64 (fop .sub .f64 (fwide x) (fwide x)) = !finB x := by
  rw [finB_told]
  by_cases h : rg Ieee.single x < 2139095040
  · rw [lt_good (F2.wide h).lt]
    simp [h]
  · rw [self_bad]
    · simp [h]
    · intro hc
      rcases Nat.lt_or_eq_of_le (Nat.le_of_not_lt h) with h1 | h1
      · have hn : nan .f32 x = true := by
          rw [nan_eq]
          change decide (Ieee.single.infRung < rg Ieee.single x) = true
          rw [inf32]
          simpa using h1
        have := nan_wide x
        rw [hn, nan_eq] at this
        simp only [decide_eq_true_eq] at this
        change D.infRung < rg D (fwide x) at this
        omega
      · have := wide_inf x h1.symm
        have h2 : rg D (fwide x) = D.infRung := by rw [show D.infRung = 9218868437227405312 from inf64]; exact this.2.2
        omega
theorem sv_wide {x : Nat} (h : rg Ieee.single x < 2139095040) : sv D (fwide x) = sv Ieee.single x * (w925 : Nat) := by
  have hw := wide_fin x h
  unfold sv
  rw [hw.2.1, hw.2.2.2]
  cases sg Ieee.single x
  · simp
  · simp [Int.neg_mul]
theorem sv_wide_lt {x : Nat} (h : rg Ieee.single x < 2139095040) : sv D (fwide x) < 0 ↔ sv Ieee.single x < 0 := by
  rw [sv_wide h]
  have hp : (0 : Int) < (w925 : Nat) := by have := w925_pos; omega
  constructor
  · intro h1
    refine Int.not_le.1 fun h2 => ?_
    have := Int.mul_nonneg h2 (Int.le_of_lt hp)
    omega
  · intro h1
    exact Int.mul_neg_of_neg_of_pos h1 hp
theorem sv_wide_eq {x : Nat} (h : rg Ieee.single x < 2139095040) : sv D (fwide x) = 0 ↔ sv Ieee.single x = 0 := by
  rw [sv_wide h, Int.mul_eq_zero]
  have := w925_pos
  constructor
  · rintro (h1 | h1)
    · exact h1
    · omega
  · exact .inl
theorem fin_le {x : Nat} (h : rg Ieee.single x < 2139095040) : rg D (fwide x) ≤ D.infRung := Nat.le_of_lt (F2.wide h).lt
theorem lt64 {x : Nat} (h : rg Ieee.single x < 2139095040) : (FloatKind.f64.format.order (fwide x) 0 == some Ordering.lt) = (FloatKind.f32.format.order x 0 == some Ordering.lt) := by
  rw [lt32 x h, lss_sv (f := .f64) (x := fwide x) (c := 0) (fin_le h) rg0_64]
  rw [show sv FloatKind.f64.format 0 = 0 from sv64_zero, Bool.eq_iff_iff]
  simp only [decide_eq_true_eq]
  exact sv_wide_lt h
theorem eq64 {x : Nat} (h : rg Ieee.single x < 2139095040) : (FloatKind.f64.format.order (fwide x) 0 == some Ordering.eq) = (FloatKind.f32.format.order x 0 == some Ordering.eq) := by
  have := neq_sv (f := .f64) (x := fwide x) (c := 0) (fin_le h) rg0_64
  rw [show sv FloatKind.f64.format 0 = 0 from sv64_zero] at this
  rw [eq32 x h]
  have e : decide (sv FloatKind.f64.format (fwide x) ≠ 0) = !decide (sv Ieee.single x = 0) := by
    have := sv_wide_eq h
    rw [← decide_not]
    exact decide_eq_decide.2 (not_congr this)
  rw [e] at this
  unfold bne at this
  cases h1 : (FloatKind.f64.format.order (fwide x) 0 == some Ordering.eq) <;> rw [h1] at this <;> cases h2 : decide (sv Ieee.single x = 0) <;> rw [h2] at this <;> simp_all
def IL (y x r : Nat) : Prop := ∀ w, Calls Tryz.prog 34 #[.float .f32 y, .float .f32 x] w (RetF .f32 r w)
theorem nanN : Fits 9221120237041090561 := fits_qn.congr nanW
theorem il_bad1 (y x : Nat) (h : finB x = false) : IL y x (fnar (qn .f64)) := by
  intro w
  have H := hid h
  clear h
  go_enter Tryz.func34, Tryz.ntmps34
  go_wp2_with (first | (go_at_call 61; refine (IsFinite_calls _ _).mono ?_; rw [H.out]; rintro e w' ⟨rfl, n, rfl⟩) | (go_at_call 66; refine (NaN_calls _).mono ?_; rintro e w' ⟨rfl, n, rfl⟩) | (refine wpList_narrow rfl rfl (by kernel_rfl) Tryz.underlying28 nanN ?_; intro v3 n3 hv3))
  go_ret
  exact ⟨v3, _, rfl, by rw [← fnar_congr nanW]; exact hv3, rfl⟩
theorem il_bad2 (y x : Nat) (h : finB x = true) (h' : finB y = false) : IL y x (fnar (qn .f64)) := by
  intro w
  have H := hid h
  have H' := hid h'
  clear h h'
  go_enter Tryz.func34, Tryz.ntmps34
  go_wp2_with (first | (go_at_call 61; refine (IsFinite_calls _ _).mono ?_; (first | rw [H.out] | rw [H'.out]); rintro e w' ⟨rfl, n, rfl⟩) | (go_at_call 66; refine (NaN_calls _).mono ?_; rintro e w' ⟨rfl, n, rfl⟩) | (refine wpList_narrow rfl rfl (by kernel_rfl) Tryz.underlying28 nanN ?_; intro v3 n3 hv3))
  go_ret
  exact ⟨v3, _, rfl, by rw [← fnar_congr nanW]; exact hv3, rfl⟩
theorem il_zero (y x : Nat) (h : finB x = true) (h' : finB y = true) (h0 : (FloatKind.f32.format.order x 0 == some Ordering.eq) = true) (h0' : (FloatKind.f32.format.order y 0 == some Ordering.eq) = true) : IL y x 0 := by
  intro w
  have H := hid h
  have H' := hid h'
  clear h h'
  go_enter Tryz.func34, Tryz.ntmps34
  go_wp2_with (go_at_call 61; refine (IsFinite_calls _ _).mono ?_; (first | rw [H.out] | rw [H'.out]); rintro e w' ⟨rfl, n, rfl⟩)
  go_ret
  exact ⟨_, _, rfl, FEq.refl _ _, rfl⟩
theorem awalk {y x : Nat} (hy : rg D y < D.infRung) (hx : rg D x < D.infRung) (h0 : rg D y ≠ 0 ∨ rg D x ≠ 0) (X0 Y0 X Y : Bool) (hz : (X0 && Y0) = false) :
    ∃ t u M M8 e0 e1 e2, AWalk y x t u M M8 e0 e1 e2 X0 Y0 (decide (rg D x < rg D y)) X Y ∧ Fits (ang3 Y e2) := by
  have ht := angQ_F2 hy hx h0
  refine ⟨angQ (rg D y) (rg D x), _, _, _, _, _, _, ⟨hz, ?_, ?_, ?_, ?_, ?_, aend ht _ X⟩, (ang3_F2 (ang2_F2 (ang1_F2 ht _) X) Y).fits (by omega)⟩
  · by_cases hlt : rg D x < rg D y
    · rw [decide_eq_true hlt, if_pos rfl]
      have e : angQ (rg D y) (rg D x) = fop .quo .f64 (rg D x) (rg D y) := by unfold angQ; rw [if_pos hlt]
      intro w
      rw [e]
      exact run_fop_det (by rw [← e]; exact ht.nn) _ w
    · rw [decide_eq_false hlt, if_neg (by decide)]
      have e : angQ (rg D y) (rg D x) = fop .quo .f64 (rg D y) (rg D x) := by unfold angQ; rw [if_neg hlt]
      intro w
      rw [e]
      exact run_fop_det (by rw [← e]; exact ht.nn) _ w
  · refine ⟨fop .quo .f64 (rg D y) (rg D x), fun h w => run_fop_det (quo_nn ?_ ?_ ?_) _ w⟩
    · rw [rg_rg]; exact hy
    · rw [rg_rg]; exact hx
    · rw [rg_rg]
      have := of_decide_eq_true h
      omega
  · exact gtr_word hy hx
  · exact fun j hj => ⟨_, _, _, _, astep (angT_F2 ht j (by omega)) (by omega)⟩
  · exact fun j hj => ⟨_, _, pstep (angU_F2 ht) hj⟩
theorem run_self {y : Nat} (hy : rg D y < D.infRung) (w : World) : (binOp .sub 46 (.float .f64 y) (.float .f64 y)).run Tryz.prog w = .ok (.float .f64 0) w := by
  have := run_fop_det (P := Tryz.prog) (lt_good hy) 46 w
  rw [self_zero .f64 y hy] at this
  exact this
theorem rg_of_sv {y : Nat} (h : sv D y ≠ 0) : rg D y ≠ 0 := by
  intro h0
  apply h
  unfold sv
  rw [h0, Mg_zero]
  simp
theorem il_any (y x : Nat) (hb : ∀ z, fnar z < 4294967296) : ∃ r, r < 4294967296 ∧ IL y x r := by
  cases hx : finB x with
  | false => exact ⟨_, hb _, il_bad1 y x hx⟩
  | true =>
    cases hy : finB y with
    | false => exact ⟨_, hb _, il_bad2 y x hx hy⟩
    | true =>
      have fx : rg Ieee.single x < 2139095040 := by rw [finB_told] at hx; exact of_decide_eq_true hx
      have fy : rg Ieee.single y < 2139095040 := by rw [finB_told] at hy; exact of_decide_eq_true hy
      have nx : nan .f64 (fwide x) = false := by rw [nan_wide]; exact nn_fin fx
      have ny : nan .f64 (fwide y) = false := by rw [nan_wide]; exact nn_fin fy
      have lx := (F2.wide fx).lt
      have ly := (F2.wide fy).lt
      cases hz : ((FloatKind.f32.format.order x 0 == some Ordering.eq) && (FloatKind.f32.format.order y 0 == some Ordering.eq)) with
      | true =>
        rw [Bool.and_eq_true] at hz
        exact ⟨0, by decide, il_zero y x hx hy hz.1 hz.2⟩
      | false =>
        have h0 : rg D (fwide y) ≠ 0 ∨ rg D (fwide x) ≠ 0 := by
          rw [eq32 x fx, eq32 y fy, Bool.and_eq_false_iff] at hz
          rcases hz with h | h
          · exact .inr (rg_of_sv (fun h1 => of_decide_eq_false h ((sv_wide_eq fx).1 h1)))
          · exact .inl (rg_of_sv (fun h1 => of_decide_eq_false h ((sv_wide_eq fy).1 h1)))
        obtain ⟨t, u, M, M8, e0, e1, e2, hw, hf⟩ := awalk ly lx h0 _ _ (FloatKind.f32.format.order x 0 == some Ordering.lt) (FloatKind.f32.format.order y 0 == some Ordering.lt) hz
        exact ⟨_, hb _, AngleTurns_core y x _ _ t u M M8 e0 e1 e2 _ _ _ _ _ hy hx rfl rfl ny nx rfl rfl rfl rfl hf hw⟩
end Go.Proofs.YtkbfhooiloaokaaGreatDoor.fnExactAngleTurns
/-
  The law on SineTurns: both texts take the sine of the number, made a float64, and narrow it.
-/
namespace Go.Proofs.YtkbfhooiloaokaaGreatDoor.fnExactSineTurns
open Go.RowKit Go.Proofs.Fl Go.Proofs.YtkbfhooiloaokaaGreatDoor.Num
set_option linter.unusedVariables false
set_option linter.unusedSimpArgs false
/-- what is not finite as a float32 is not finite as a float64, and the other way round -/
theorem wide_good (x : Nat) : nan .f64 (fop .sub .f64 (fwide x) (fwide x)) = !finB x := by
  rw [finB_told]
  by_cases h : rg Ieee.single x < 2139095040
  · rw [lt_good (F2.wide h).lt]
    simp [h]
  · rw [self_bad]
    · simp [h]
    · intro hc
      rcases Nat.lt_or_eq_of_le (Nat.le_of_not_lt h) with h1 | h1
      · have hn : nan .f32 x = true := by
          rw [nan_eq]
          change decide (Ieee.single.infRung < rg Ieee.single x) = true
          rw [inf32]
          simpa using h1
        have := nan_wide x
        rw [hn, nan_eq] at this
        simp only [decide_eq_true_eq] at this
        change D.infRung < rg D (fwide x) at this
        omega
      · have := wide_inf x h1.symm
        have h2 : rg D (fwide x) = D.infRung := by rw [show D.infRung = 9218868437227405312 from inf64]; exact this.2.2
        omega
set_option maxRecDepth 100000 in
theorem impl_calls (x : Nat) (w : World) : Calls Tryz.prog 37 #[.float .f32 x] w (RetF .f32 (fnar (sineW (fwide x))) w) := by
  have HF := hid (sineW_fits (fwide x))
  have hg := wide_good x
  cases hf : finB x
  · rw [hf] at hg
    have hsw : sineW (fwide x) = qn .f64 := by unfold sineW; rw [hg, Bool.not_false, if_pos rfl]
    rw [hsw] at HF ⊢
    have HQ := hid (fnar_congr nanW)
    have HN := hid (HF.out.congr nanW)
    have Hf := hid hf
    clear hf hg hsw HF
    go_enter Tryz.func37, Tryz.ntmps37
    go_wp2_with (first | (go_at_call 61; refine (IsFinite_calls _ _).mono ?_; rw [Hf.out]; rintro e w' ⟨rfl, n, rfl⟩) | (go_at_call 66; refine (NaN_calls _).mono ?_; rintro e w' ⟨rfl, n, rfl⟩) | (refine wpList_narrow rfl rfl (by kernel_rfl) Tryz.underlying28 HN.out ?_; intro v3 n3 hv3))
    go_ret
    exact ⟨v3, _, rfl, by rw [← HQ.out]; exact hv3, rfl⟩
  · rw [hf] at hg
    have hnn : nan .f64 (fwide x) = false := by
      rw [nan_wide]
      cases hn : nan .f32 x
      · rfl
      · rw [← nan_wide] at hn
        rw [fop_nan_left hn, nan_qn] at hg
        cases hg
    have hba := big_abs (rg_le_of hnn)
    have Hf := hid hf
    have Hnn := hid hnn
    cases hb : bigB (fwide x)
    · rw [hb] at hba
      have hsw : sineW (fwide x) = sineF (fracF (fwide x)) := by unfold sineW; rw [hg, hb]; simp only [Bool.not_true, Bool.false_eq_true, if_true, if_false]
      rw [hsw] at HF ⊢
      have HB := hid (F2_small hb)
      clear hf hg hsw hnn hb
      go_enter Tryz.func37, Tryz.ntmps37
      generalize hy : fwide x = y at *
      have HY := hid hy
      clear hy
      go_wp2_with (first | (go_at_call 61; refine (IsFinite_calls _ _).mono ?_; rw [Hf.out]; rintro e w' ⟨rfl, n, rfl⟩) | (refine wpList_wide rfl rfl (by kernel_rfl) Tryz.underlying46 ?_; intro v q hv; rw [HY.out] at hv; obtain rfl := hv.eq Hnn.out; clear hv) | (go_at_call 65; refine (Abs_calls _ _).mono ?_; rintro e w' ⟨rfl, n, rfl⟩) | (go_at_call 67; refine (sine_calls _ HB.out _).mono ?_; rintro e w' ⟨rfl, n, rfl⟩) | (refine wpList_narrow rfl rfl (by kernel_rfl) Tryz.underlying28 HF.out ?_; intro v3 n3 hv3))
      go_ret
      exact ⟨v3, _, rfl, hv3, rfl⟩
    · rw [hb] at hba
      have hsw : sineW (fwide x) = 0 := by unfold sineW; rw [hg, hb]; simp only [Bool.not_true, Bool.false_eq_true, if_true, if_false]
      rw [hsw] at HF ⊢
      have HZ := hid (show fnar 0 = 0 from nar_zero false)
      clear hf hg hsw hnn hb HF
      go_enter Tryz.func37, Tryz.ntmps37
      generalize hy : fwide x = y at *
      have HY := hid hy
      clear hy
      go_wp2_with (first | (go_at_call 61; refine (IsFinite_calls _ _).mono ?_; rw [Hf.out]; rintro e w' ⟨rfl, n, rfl⟩) | (refine wpList_wide rfl rfl (by kernel_rfl) Tryz.underlying46 ?_; intro v q hv; rw [HY.out] at hv; obtain rfl := hv.eq Hnn.out; clear hv) | (go_at_call 65; refine (Abs_calls _ _).mono ?_; rintro e w' ⟨rfl, n, rfl⟩))
      go_ret
      exact ⟨0, _, rfl, by rw [HZ.out]; exact FEq.refl _ _, rfl⟩
end Go.Proofs.YtkbfhooiloaokaaGreatDoor.fnExactSineTurns
/-
  What FnNumbers calls of the program besides: NarrowNumber, AngleOf, SineTurns at a quarter.
-/
namespace Go.Proofs.YtkbfhooiloaokaaGreatDoor.Num
open Go.RowKit Go.Proofs.Fl
set_option linter.unusedVariables false
theorem NarrowNumber_is (x v : Nat) (hx : x < 4294967296) (hv : FEq .f64 v (fwide x)) (w : World) : Calls Tryz.prog 36 #[.float .f64 v] w (RetF .f32 x w) := by
  obtain ⟨h1, h2⟩ := fnar_back hx
  have HF := hid (h1.congr hv)
  have HE := hid (show FEq .f32 (fnar v) x by rw [fnar_congr hv]; exact h2)
  clear h1 h2 hv
  go_enter Tryz.func36, Tryz.ntmps36
  go_wp2_with (refine wpList_narrow rfl rfl (by kernel_rfl) Tryz.underlying28 HF.out ?_; intro v3 n3 hv3)
  go_ret
  exact ⟨v3, _, rfl, hv3.trans HE.out, rfl⟩
theorem AngleOf_is (x y r : Nat) (h : ∀ w, Calls Tryz.prog 34 #[.float .f32 y, .float .f32 x] w (RetF .f32 r w)) (w : World) : Calls Tryz.prog 35 #[.complex .f32 x y] w (RetF .f32 r w) := by
  have H := hid h
  clear h
  go_enter Tryz.func35, Tryz.ntmps35
  go_wp2_with fail
  refine (H.out _).mono ?_
  rintro e w' ⟨v, n, rfl, hv, rfl⟩
  have HV := hid hv
  clear hv
  go_wp2
  go_ret
  exact ⟨v, _, rfl, HV.out, rfl⟩
theorem sine_quarter : fnar (sineW (fwide 1048576000)) = 1065353216 := by decide +kernel
theorem Sine_is (w : World) : Calls Tryz.prog 37 #[.float .f32 1048576000] w (Ret (.float .f32 1065353216) w) :=
  (fnExactSineTurns.impl_calls 1048576000 w).mono (by
    rintro e w' ⟨v, n, rfl, hf, rfl⟩
    rw [sine_quarter] at hf
    obtain rfl := hf.eq (by decide +kernel)
    exact ⟨rfl, n, rfl⟩)
end Go.Proofs.YtkbfhooiloaokaaGreatDoor.Num
/-
  The reference's source of choices: a struct of three cells that is read and moved on.
-/
namespace Go.Proofs.YtkbfhooiloaokaaGreatDoor.Num
open Go.RowKit Go.Proofs.Fl
set_option linter.unusedVariables false
/-- block g is a source over the bytes xs, a steps on -/
structure SrcIs (w : World) (g : Nat) (A : Option Addr) (n c : Nat) (xs : List Int) (a : Nat) : Prop where
  lt : g < w.heap.size
  len : xs.length = n
  byte : ∀ z ∈ xs, 0 ≤ z ∧ z ≤ 255
  bytes : Rd w g A (xs.map (Value.int .u8))
  own : ∃ s : Nat, s < 18446744073709551616 ∧ w.ownsRow g 87 3 (.slice (some ⟨g, 0, none⟩) 1 1) 1 [.slice A n c, .int .i64 (a : Int), .int .u64 (s : Int)]
/-- what a choice leaves: the source at most k steps on, all else as it was -/
structure SrcTo (w : World) (g : Nat) (A : Option Addr) (n c : Nat) (xs : List Int) (a k : Nat) (w' : World) : Prop where
  src : ∃ a', a' ≤ a + k ∧ SrcIs w' g A n c xs a'
  kept : Kept w w' [some g]
theorem SrcTo.trans {w w1 w2 : World} {g : Nat} {A : Option Addr} {n c : Nat} {xs : List Int} {a a1 k l : Nat} (h : SrcTo w g A n c xs a k w1) (hk : Kept w1 w2 [some g]) (h2 : ∃ a', a' ≤ a + l ∧ SrcIs w2 g A n c xs a') : SrcTo w g A n c xs a l w2 :=
  ⟨h2, h.kept.trans hk⟩
/-- returned a number below N -/
def RetPick (N g : Nat) (A : Option Addr) (n c : Nat) (xs : List Int) (a k : Nat) (w : World) (e : Ending) (w' : World) : Prop := (∃ i : Nat, i < N ∧ e = .returned (.int .i64 (i : Int))) ∧ SrcTo w g A n c xs a k w'
theorem shr_and (z : Nat) (h : z < 18446744073709551616) : ∃ b : Nat, b < 256 ∧ bits .and .u64 ((z : Int) / 1099511627776) 255 = (b : Int) := by
  have e : ((z : Int) / 1099511627776) = ((z / 1099511627776 : Nat) : Int) := by
    have := Int.natCast_ediv z 1099511627776
    rw [this]
    rfl
  have hle : z / 1099511627776 ≤ z := Nat.div_le_self _ _
  refine ⟨z / 1099511627776 &&& 255, ?_, ?_⟩
  · exact Nat.lt_of_le_of_lt Nat.and_le_right (by decide)
  · rw [e]
    exact bits_and_u64_nat (z / 1099511627776) 255 (by omega) (by omega)
theorem src_kept {w : World} {g : Nat} {A : Option Addr} {n c : Nat} {xs : List Int} {a a' s : Nat} (h : SrcIs w g A n c xs a) (hs : s < 18446744073709551616) :
    SrcIs ((w.setCell ⟨g, 1, none⟩ (.int .i64 (a' : Int))).setCell ⟨g, 2, none⟩ (.int .u64 (s : Int))) g A n c xs a' ∧ Kept w ((w.setCell ⟨g, 1, none⟩ (.int .i64 (a' : Int))).setCell ⟨g, 2, none⟩ (.int .u64 (s : Int))) [some g] := by
  have hk := ((Kept.refl w [some g]).set (p := ⟨g, 1, none⟩) (by simp) (.int .i64 (a' : Int))).set (p := ⟨g, 2, none⟩) (by simp) (.int .u64 (s : Int))
  obtain ⟨s0, _, ho⟩ := h.own
  have h1 := (World.ownsRow.stored ho 1 (.int .i64 (a' : Int))).1
  have h2 := (World.ownsRow.stored h1 2 (.int .u64 (s : Int))).1
  refine ⟨⟨Nat.lt_of_lt_of_le h.lt hk.size, h.len, h.byte, ?_, s, hs, h2⟩, hk⟩
  rcases h.bytes with h0 | ⟨b, o, rfl, hb, hc⟩
  · exact .inl h0
  · exact .inr ⟨b, o, rfl, hb, fun j u hj => by
      rw [hk.cell (Nat.lt_trans hb h.lt) (by
        intro r hr e
        simp only [List.mem_cons, List.not_mem_nil, or_false] at hr
        rw [hr] at e
        cases e
        omega) (o + j)]
      exact hc j u hj⟩
theorem SrcIs.drewN {w : World} {g : Nat} {A : Option Addr} {n c : Nat} {xs : List Int} {a : Nat} (h : SrcIs w g A n c xs a) (m : Nat) : SrcIs (w.drewN m) g A n c xs a := ⟨h.lt, h.len, h.byte, h.bytes, h.own⟩
theorem Kept.drewN {w w' : World} {R : List (Option Nat)} (h : Kept w w' R) (m : Nat) : Kept w (w'.drewN m) R := ⟨h.os, h.tape, h.output, h.size, h.block⟩
theorem u64w (z : Int) : ∃ m : Nat, m < 18446744073709551616 ∧ IntKind.u64.wrap z = (m : Int) := by
  refine ⟨(IntKind.u64.wrap z).toNat, ?_, ?_⟩
  · rw [IntKind.wrap_u64]; omega
  · rw [IntKind.wrap_u64]; omega
theorem u64and (z : Int) : ∃ i : Nat, i < 256 ∧ wrap64 (bits .and .u64 (IntKind.u64.wrap z / 1099511627776) 255) = (i : Int) := by
  obtain ⟨m, hm, em⟩ := u64w z
  obtain ⟨i, hi, ei⟩ := shr_and m hm
  refine ⟨i, hi, ?_⟩
  rw [em, ei]
  unfold wrap64
  omega
theorem src_done {w : World} {g : Nat} {A : Option Addr} {n c : Nat} {xs : List Int} {a N m1 m2 : Nat} {z : Int} {e : Ending} (h : SrcIs w g A n c xs a) (hi : ∃ i : Nat, i < N ∧ e = .returned (.int .i64 (i : Int))) :
    RetPick N g A n c xs a 1 w e ((((w.drewN m1).setCell ⟨g, 1, none⟩ (.int .i64 ((a : Int) + 1))).setCell ⟨g, 2, none⟩ (.int .u64 (IntKind.u64.wrap z))).drewN m2) := by
  obtain ⟨s, hs, es⟩ := u64w z
  rw [es]
  obtain ⟨h1, h2⟩ := src_kept (a' := a + 1) (h.drewN m1) hs
  exact ⟨hi, ⟨a + 1, Nat.le_refl _, h1.drewN m2⟩, ((Kept.refl w _).drewN m1).trans (h2.drewN m2)⟩
set_option maxRecDepth 100000 in
set_option maxHeartbeats 1600000 in
theorem next_calls (g : Nat) (A : Option Addr) (n c : Nat) (xs : List Int) (a : Nat) (ha : a < 1000000000) (hn : n ≤ maxLen) (w : World) (h : SrcIs w g A n c xs a) :
    Calls Tryz.prog 68 #[.pointer (some ⟨g, 0, none⟩)] w (RetPick 256 g A n c xs a 1 w) := by
  have H := hid h
  have hlt := h.lt
  obtain ⟨s, hs, ho⟩ := h.own
  have c0 := World.ownsRow.cellAt ho 0 (by decide)
  have c1 := World.ownsRow.cellAt ho 1 (by decide)
  have c2 := World.ownsRow.cellAt ho 2 (by decide)
  have f1 := World.ownsRow.frozenAt ho 1
  have f2 := World.ownsRow.frozenAt ho 2
  simp only [List.getElem?_cons_zero, List.getElem?_cons_succ] at c0 c1 c2
  unfold maxLen at hn
  clear ho
  by_cases hin : a < n
  · have hkx : a < xs.length := by have := h.len; omega
    have h8 := h.byte _ (List.getElem_mem hkx)
    rcases h.bytes with h0 | ⟨b, o, rfl, hb, hc⟩
    · have : (xs.map (Value.int .u8)).length = 0 := by rw [h0]; rfl
      rw [List.length_map] at this
      omega
    · have hc1 := hc a (.int .u8 xs[a]) (by rw [List.getElem?_map, List.getElem?_eq_getElem hkx]; rfl)
      generalize xs[a] = z at *
      obtain ⟨u, rfl⟩ : ∃ u : Nat, z = (u : Int) := ⟨z.toNat, by omega⟩
      clear hc h hkx
      have hin' : (a : Int) < (n : Int) := by omega
      go_enter Tryz.func68, Tryz.ntmps68
      go_wp2
      go_quiet (fail)
      go_wp2
      go_quiet (fail)
      go_wp2
      go_quiet (fail)
      go_wp2
      go_ret
      exact src_done H.out ⟨u, by omega, rfl⟩
  · clear h
    have hin' : ((a : Int) < (n : Int)) = False := by simp; omega
    go_enter Tryz.func68, Tryz.ntmps68
    go_wp2
    go_quiet (fail)
    go_wp2
    go_quiet (fail)
    go_wp2
    go_ret
    obtain ⟨i, hi, ei⟩ := u64and (IntKind.u64.wrap (IntKind.u64.wrap ((s : Int) * 6364136223846793005)) + 1442695040888963407)
    refine src_done H.out ⟨i, hi, ?_⟩
    rw [← ei]
    rfl
theorem tmod_nat (x N : Nat) : ((x : Int)).tmod (N : Int) = ((x % N : Nat) : Int) := rfl
set_option maxRecDepth 100000 in
set_option maxHeartbeats 1600000 in
theorem pick_calls (N g : Nat) (A : Option Addr) (n c : Nat) (xs : List Int) (a : Nat) (ha : a < 900000000) (hn : n ≤ maxLen) (h1 : 1 < N) (hN : N ≤ 65536) (w : World) (h : SrcIs w g A n c xs a) :
    Calls Tryz.prog 39 #[.pointer (some ⟨g, 0, none⟩), .int .i64 (N : Int)] w (RetPick N g A n c xs a 2 w) := by
  have HC := hid (next_calls g A n c xs a (by omega) hn w h)
  have HM := hid (fun x : Nat => Nat.mod_lt x (show 0 < N by omega))
  have HN := hid hn
  clear h hn
  by_cases h200 : N ≤ 200
  · go_enter Tryz.func39, Tryz.ntmps39
    go_wp2_with fail
    refine HC.out.mono ?_
    rintro e w1 ⟨⟨i, hi, rfl⟩, ⟨a1, ha1, hs1⟩, hk1⟩
    have HS := hid hs1
    have HK := hid hk1
    clear hs1 hk1 HC
    go_wp2
    go_ret
    exact ⟨⟨i % N, HM.out i, rfl⟩, ⟨a1, by omega, HS.out⟩, HK.out⟩
  · go_enter Tryz.func39, Tryz.ntmps39
    go_wp2_with fail
    refine HC.out.mono ?_
    rintro e w1 ⟨⟨i, hi, rfl⟩, ⟨a1, ha1, hs1⟩, hk1⟩
    have HC2 := hid (next_calls g A n c xs a1 (by omega) HN.out w1 hs1)
    have HK := hid hk1
    clear hs1 hk1 HC
    go_wp2_with fail
    refine HC2.out.mono ?_
    rintro e w2 ⟨⟨j, hj, rfl⟩, ⟨a2, ha2, hs2⟩, hk2⟩
    have HS := hid hs2
    have HK2 := hid (HK.out.trans hk2)
    clear hs2 hk2 HC2 HK
    go_wp2
    go_ret
    exact ⟨⟨(i * 256 + j) % N, HM.out _, rfl⟩, ⟨a2, by omega, HS.out⟩, HK2.out⟩
/-- returned a truth -/
def RetOne (g : Nat) (A : Option Addr) (n c : Nat) (xs : List Int) (a k : Nat) (w : World) (e : Ending) (w' : World) : Prop := (∃ b : Bool, e = .returned (.bool b)) ∧ SrcTo w g A n c xs a k w'
theorem one_calls (N g : Nat) (A : Option Addr) (n c : Nat) (xs : List Int) (a : Nat) (ha : a < 900000000) (hn : n ≤ maxLen) (h1 : 1 < N) (hN : N ≤ 65536) (w : World) (h : SrcIs w g A n c xs a) :
    Calls Tryz.prog 51 #[.pointer (some ⟨g, 0, none⟩), .int .i64 (N : Int)] w (RetOne g A n c xs a 2 w) := by
  have HC := hid (pick_calls N g A n c xs a ha hn h1 hN w h)
  clear h hn
  go_enter Tryz.func51, Tryz.ntmps51
  go_wp2_with fail
  refine HC.out.mono ?_
  rintro e w1 ⟨⟨i, hi, rfl⟩, ⟨a1, ha1, hs1⟩, hk1⟩
  have HS := hid hs1
  have HK := hid hk1
  clear hs1 hk1 HC
  go_wp2
  go_ret
  exact ⟨⟨_, rfl⟩, ⟨a1, by omega, HS.out⟩, HK.out⟩
/-- a new source over bytes -/
def RetSrc (A : Option Addr) (n c : Nat) (xs : List Int) (w : World) (e : Ending) (w' : World) : Prop := ∃ g, w.heap.size ≤ g ∧ e = .returned (.pointer (some ⟨g, 0, none⟩)) ∧ SrcIs w' g A n c xs 0 ∧ Below w.heap.size w w'
theorem l00From_calls (A : Option Addr) (n c : Nat) (xs : List Int) (hx : xs.length = n) (h8 : ∀ z ∈ xs, 0 ≤ z ∧ z ≤ 255) (w : World) (ha : Rd w w.heap.size A (xs.map (Value.int .u8))) :
    Calls Tryz.prog 38 #[.slice A n c] w (RetSrc A n c xs w) := by
  have HX := hid hx
  have H8 := hid h8
  have HA := hid ha
  clear hx h8 ha
  go_enter Tryz.func38, Tryz.ntmps38
  go_wp2
  go_ret
  refine ⟨w.heap.size, Nat.le_refl _, rfl, ⟨by simp, HX.out, H8.out, ?_, 0, by decide, ?_⟩, (Below.refl _ _).alloc (Nat.le_refl _) _⟩
  · exact HA.out.below ((Below.refl _ _).alloc (Nat.le_refl _) _)
  · exact ⟨by simp, .inr ⟨w.heap.size, 1, _, rfl, Nat.le_refl _, heap_alloc_new w _, Nat.le_refl _, by simp [maxLen], by simp, by simp⟩⟩
end Go.Proofs.YtkbfhooiloaokaaGreatDoor.Num
/-
  The reference's draws of float32: l01DrawPlain, l01DrawFloat.
-/
namespace Go.Proofs.YtkbfhooiloaokaaGreatDoor.Num
open Go.RowKit Go.Proofs.Fl
set_option linter.unusedVariables false
theorem lFrom_calls (n : Nat) (hn : n < 4294967296) (w : World) : Calls Tryz.prog 52 #[.int .i64 (n : Int)] w (fun e w' => e = .returned (.float .f32 n) ∧ w' = w) := by
  have hw : IntKind.u32.wrap (n : Int) = (n : Int) := by rw [IntKind.wrap_u32]; omega
  go_enter Tryz.func52, Tryz.ntmps52
  go_wp2
  go_ret
  exact ⟨rfl, rfl⟩
theorem SrcIs.step {w w' : World} {g : Nat} {A : Option Addr} {n c : Nat} {xs : List Int} {a : Nat} (h : SrcIs w g A n c xs a) (hb : Below w.heap.size w w') : SrcIs w' g A n c xs a := by
  obtain ⟨s, hs, ho⟩ := h.own
  exact ⟨Nat.lt_of_lt_of_le h.lt hb.size, h.len, h.byte, by
    rcases h.bytes with h0 | ⟨b, o, rfl, hbb, hc⟩
    · exact .inl h0
    · exact .inr ⟨b, o, rfl, hbb, fun j u hj => by
        rw [World.cell?_of_block (w := w) (hb.block b (Nat.lt_trans hbb h.lt))]
        exact hc j u hj⟩, s, hs, own_keep ho (hb.block g h.lt)⟩
theorem Kept.alloc {w w' : World} {R : List (Option Nat)} (h : Kept w w' R) (o : Obj) : Kept w (w'.alloc o) R :=
  h.trans (Kept.of_below ((Below.refl _ _).alloc (Nat.le_refl _) o) R)
/-- returned one of the list -/
def RetAmong (zs : List Nat) (g : Nat) (A : Option Addr) (n c : Nat) (xs : List Int) (a k : Nat) (w : World) (e : Ending) (w' : World) : Prop := (∃ z, z ∈ zs ∧ e = .returned (.int .i64 (z : Int))) ∧ SrcTo w g A n c xs a k w'
theorem among_calls (m d b : Nat) (zs : List Nat) (hz : zs.length = m) (g : Nat) (A : Option Addr) (n c : Nat) (xs : List Int) (a : Nat) (ha : a < 900000000) (hn : n ≤ maxLen) (h1 : 1 < m) (hN : m ≤ 65536) (w : World) (h : SrcIs w g A n c xs a)
    (hb : b < w.heap.size) (hg : b ≠ g) (hc : ∀ (j z : Nat), zs[j]? = some z → w.cell? ⟨b, j, none⟩ = some (.int .i64 (z : Int))) :
    Calls Tryz.prog 78 #[.pointer (some ⟨g, 0, none⟩), .slice (some ⟨b, 0, none⟩) m d] w (RetAmong zs g A n c xs a 2 w) := by
  have HC := hid (pick_calls m g A n c xs a ha hn h1 hN w h)
  have HZ := hid hz
  have HB := hid hc
  clear h hn hc hz
  go_enter Tryz.func78, Tryz.ntmps78
  go_wp2_with fail
  refine HC.out.mono ?_
  rintro e w1 ⟨⟨i, hi, rfl⟩, ⟨a1, ha1, hs1⟩, hk1⟩
  have hkx : i < zs.length := by have := HZ.out; omega
  have hc1 := HB.out i zs[i] (List.getElem?_eq_getElem hkx)
  rw [← hk1.cell hb (by
    intro r hr e
    simp only [List.mem_cons, List.not_mem_nil, or_false] at hr
    rw [hr] at e
    cases e
    exact hg rfl) i] at hc1
  have HM := hid (List.getElem_mem hkx)
  have HS := hid hs1
  have HK := hid hk1
  clear hs1 hk1 HC
  generalize zs[i] = z at *
  go_wp2
  go_ret
  exact ⟨⟨z, HM.out, rfl⟩, ⟨a1, by omega, HS.out⟩, HK.out⟩
/-! the plain draws, told -/
def plC (b : Bool) : Nat := if b then 1088421888 else 1098907648
def plT (i : Nat) (b : Bool) : Nat := fop .quo .f32 (floatOfInt .f32 ((i : Int) - 64)) (plC b)
def plB (i : Nat) (b : Bool) : Bool := !nan .f32 (plT i b) && decide (plT i b < 4294967296) && [8388608, 2130706432, 1610612736, 536870912].all fun m => !nan .f32 (fop .mul .f32 (plT i b) m) && decide (fop .mul .f32 (plT i b) m < 4294967296)
theorem pl_all : (List.range 129).all (fun i => plB i true && plB i false) = true := by decide +kernel
theorem pl_at {i : Nat} (h : i < 129) (b : Bool) : nan .f32 (plT i b) = false ∧ plT i b < 4294967296 ∧ ∀ m ∈ [8388608, 2130706432, 1610612736, 536870912], nan .f32 (fop .mul .f32 (plT i b) m) = false ∧ fop .mul .f32 (plT i b) m < 4294967296 := by
  have h0 := List.all_eq_true.1 pl_all i (List.mem_range.2 h)
  rw [Bool.and_eq_true] at h0
  have h1 : plB i b = true := by cases b; exact h0.2; exact h0.1
  unfold plB at h1
  simp only [Bool.and_eq_true, Bool.not_eq_true', decide_eq_true_eq, List.all_eq_true] at h1
  exact ⟨h1.1.1, h1.1.2, h1.2⟩
def RetPlain (g : Nat) (A : Option Addr) (n c : Nat) (xs : List Int) (a k : Nat) (w : World) (e : Ending) (w' : World) : Prop := (∃ i b, i < 129 ∧ e = .returned (.float .f32 (plT i b))) ∧ SrcTo w g A n c xs a k w'
set_option maxHeartbeats 800000 in
theorem plain_calls (g : Nat) (A : Option Addr) (n c : Nat) (xs : List Int) (a : Nat) (ha : a < 800000000) (hn : n ≤ maxLen) (w : World) (h : SrcIs w g A n c xs a) :
    Calls Tryz.prog 77 #[.pointer (some ⟨g, 0, none⟩)] w (RetPlain g A n c xs a 4 w) := by
  have HC := hid (pick_calls 129 g A n c xs a (by omega) hn (by decide) (by decide) w h)
  have HN := hid hn
  clear h hn
  go_enter Tryz.func77, Tryz.ntmps77
  go_wp2_with fail
  refine HC.out.mono ?_
  rintro e w1 ⟨⟨i, hi, rfl⟩, ⟨a1, ha1, hs1⟩, hk1⟩
  have HC2 := hid (one_calls 4 g A n c xs a1 (by omega) HN.out (by decide) (by decide) w1 hs1)
  have HK := hid hk1
  clear hs1 hk1 HC
  go_wp2_with fail
  refine HC2.out.mono ?_
  rintro e w2 ⟨⟨b, rfl⟩, ⟨a2, ha2, hs2⟩, hk2⟩
  have HS := hid hs2
  have HK2 := hid (HK.out.trans hk2)
  clear hs2 hk2 HC2 HK
  have q := fun w => run_fop_det (P := Tryz.prog) (show nan .f32 (fop .quo .f32 (floatOfInt .f32 ((i : Int) - 64)) (plC b)) = false from (pl_at hi b).1) 28 w
  rw [show fop .quo .f32 (floatOfInt .f32 ((i : Int) - 64)) (plC b) = plT i b from rfl] at q
  have HT : Hid (∃ b', plT i b = plT i b') := hid ⟨b, rfl⟩
  cases b
  · unfold plC at q
    simp only [Bool.false_eq_true, if_false] at q
    generalize plT i false = x at *
    go_wp2
    go_ret
    obtain ⟨b', e⟩ := HT.out
    exact ⟨⟨i, b', hi, by rw [← e]; rfl⟩, ⟨a2, by omega, HS.out⟩, HK2.out⟩
  · unfold plC at q
    simp only [if_true] at q
    generalize plT i true = x at *
    go_wp2
    go_ret
    obtain ⟨b', e⟩ := HT.out
    exact ⟨⟨i, b', hi, by rw [← e]; rfl⟩, ⟨a2, by omega, HS.out⟩, HK2.out⟩
/-- returned a float32 -/
def RetDraw (g : Nat) (A : Option Addr) (n c : Nat) (xs : List Int) (a k : Nat) (w : World) (e : Ending) (w' : World) : Prop := (∃ x : Nat, x < 4294967296 ∧ e = .returned (.float .f32 x)) ∧ SrcTo w g A n c xs a k w'
theorem i64_cells (zs : List Nat) (w : World) (T : Nat) : ∀ (j z : Nat), zs[j]? = some z → (w.alloc (.cells (zs.map fun (z : Nat) => Value.int .i64 (z : Int)).toArray T)).cell? ⟨w.heap.size, j, none⟩ = some (.int .i64 (z : Int)) := by
  intro j z h
  rw [cell_of_row _ w.heap.size j _ _ _ (heap_alloc_new w _)]
  simp [h]
def amA : List Nat := [0, 2147483648, 2139095040, 4286578688, 2143289344, 1, 2139095039, 8388608, 8388607, 2147483649]
def amB : List Nat := [8388608, 2130706432, 1610612736, 536870912]
theorem amA_lt : ∀ z ∈ amA, z < 4294967296 := by decide
theorem amB_lt : ∀ z ∈ amB, z < 4294967296 := by decide
set_option maxRecDepth 100000 in
set_option maxHeartbeats 3200000 in
theorem float_calls (g : Nat) (A : Option Addr) (n c : Nat) (xs : List Int) (a : Nat) (ha : a < 700000000) (hn : n ≤ maxLen) (w : World) (h : SrcIs w g A n c xs a) :
    Calls Tryz.prog 53 #[.pointer (some ⟨g, 0, none⟩)] w (RetDraw g A n c xs a 12 w) := by
  have HC := hid (one_calls 12 g A n c xs a (by omega) hn (by decide) (by decide) w h)
  have HN := hid hn
  clear h hn
  go_enter Tryz.func53, Tryz.ntmps53
  go_wp2_with fail
  refine HC.out.mono ?_
  rintro e w1 ⟨⟨b, rfl⟩, ⟨a1, ha1, hs1⟩, hk1⟩
  have HS1 := hid hs1
  have HK := hid hk1
  clear hs1 hk1 HC
  cases b
  · have HC := hid (plain_calls g A n c xs a1 (by omega) HN.out w1 HS1.out)
    go_wp2_with fail
    refine HC.out.mono ?_
    rintro e w2 ⟨⟨i, b, hi, rfl⟩, ⟨a2, ha2, hs2⟩, hk2⟩
    have HS := hid hs2
    have HK2 := hid (HK.out.trans hk2)
    have HX := hid (pl_at hi b).2.1
    clear hs2 hk2 HC HK
    generalize plT i b = x at *
    go_wp2
    go_ret
    exact ⟨⟨x, HX.out, rfl⟩, ⟨a2, by omega, HS.out⟩, HK2.out⟩
  · have HC := hid (pick_calls 4 g A n c xs a1 (by omega) HN.out (by decide) (by decide) w1 HS1.out)
    go_wp2_with fail
    refine HC.out.mono ?_
    rintro e w2 ⟨⟨q, hq, rfl⟩, ⟨a2, ha2, hs2⟩, hk2⟩
    have HS := hid hs2
    have HK2 := hid (HK.out.trans hk2)
    clear hs2 hk2 HC HK HS1
    rcases (show q = 0 ∨ q = 1 ∨ q = 2 ∨ q = 3 by omega) with rfl | rfl | rfl | rfl
    · go_wp2_with fail
      refine (among_calls 10 10 w2.heap.size amA rfl g A n c xs a2 (by omega) HN.out (by decide) (by decide) _ (HS.out.step ((Below.refl _ _).alloc (Nat.le_refl _) _)) (by simp) (by have := HS.out.lt; omega) (fun j z hj => i64_cells amA w2 2 j z hj)).mono ?_
      rintro e w3 ⟨⟨z, hz, rfl⟩, ⟨a3, ha3, hs3⟩, hk3⟩
      have HS3 := hid hs3
      have HK3 := hid ((HK2.out.alloc _).trans hk3)
      have HF := hid (lFrom_calls z (amA_lt z hz))
      have HX := hid (amA_lt z hz)
      clear hs3 hk3 hz
      go_wp2_with fail
      refine (HF.out _).mono ?_
      rintro e w' ⟨rfl, rfl⟩
      go_wp2
      go_ret
      exact ⟨⟨z, HX.out, rfl⟩, ⟨a3, by omega, HS3.out⟩, HK3.out⟩
    · have HC := hid (pick_calls 65536 g A n c xs a2 (by omega) HN.out (by decide) (by decide) w2 HS.out)
      go_wp2_with fail
      refine HC.out.mono ?_
      rintro e w3 ⟨⟨i, hi, rfl⟩, ⟨a3, ha3, hs3⟩, hk3⟩
      have HC2 := hid (pick_calls 65536 g A n c xs a3 (by omega) HN.out (by decide) (by decide) w3 hs3)
      have HK3 := hid (HK2.out.trans hk3)
      clear hs3 hk3 HC HK2 HS
      go_wp2_with fail
      refine HC2.out.mono ?_
      rintro e w4 ⟨⟨j, hj, rfl⟩, ⟨a4, ha4, hs4⟩, hk4⟩
      have HS := hid hs4
      have HK4 := hid (HK3.out.trans hk4)
      clear hs4 hk4 HC2 HK3
      have HF := hid (lFrom_calls (i * 65536 + j) (by omega))
      go_wp2_with fail
      have HX := hid (show i * 65536 + j < 4294967296 by omega)
      refine (show Calls Tryz.prog 52 #[.int .i64 ((i : Int) * 65536 + (j : Int))] w4 _ from HF.out _).mono ?_
      rintro e w' ⟨rfl, rfl⟩
      go_wp2
      go_ret
      exact ⟨⟨_, HX.out, rfl⟩, ⟨a4, by omega, HS.out⟩, HK4.out⟩
    · have HC := hid (pick_calls 65536 g A n c xs a2 (by omega) HN.out (by decide) (by decide) w2 HS.out)
      go_wp2_with fail
      refine HC.out.mono ?_
      rintro e w3 ⟨⟨i, hi, rfl⟩, ⟨a3, ha3, hs3⟩, hk3⟩
      have HS3 := hid hs3
      have HK3 := hid (HK2.out.trans hk3)
      clear hs3 hk3 HC HK2 HS
      have HF := hid (lFrom_calls (i * 65536) (by omega))
      go_wp2_with fail
      have HX := hid (show i * 65536 < 4294967296 by omega)
      refine (show Calls Tryz.prog 52 #[.int .i64 ((i : Int) * 65536)] w3 _ from HF.out _).mono ?_
      rintro e w' ⟨rfl, rfl⟩
      go_wp2
      go_ret
      exact ⟨⟨_, HX.out, rfl⟩, ⟨a3, by omega, HS3.out⟩, HK3.out⟩
    · have HC := hid (plain_calls g A n c xs a2 (by omega) HN.out w2 HS.out)
      go_wp2_with fail
      refine HC.out.mono ?_
      rintro e w3 ⟨⟨i, b, hi, rfl⟩, ⟨a3, ha3, hs3⟩, hk3⟩
      have HS3 := hid hs3
      have HK3 := hid (HK2.out.trans hk3)
      have HX := hid (pl_at hi b).2.2
      clear hs3 hk3 HC HK2 HS
      generalize plT i b = x at *
      go_wp2_with fail
      refine (among_calls 4 4 w3.heap.size amB rfl g A n c xs a3 (by omega) HN.out (by decide) (by decide) _ (HS3.out.step ((Below.refl _ _).alloc (Nat.le_refl _) _)) (by simp) (by have := HS3.out.lt; omega) (fun j z hj => i64_cells amB w3 2 j z hj)).mono ?_
      rintro e w4 ⟨⟨z, hz, rfl⟩, ⟨a4, ha4, hs4⟩, hk4⟩
      have HS4 := hid hs4
      have HK4 := hid ((HK3.out.alloc _).trans hk4)
      have HF := hid (lFrom_calls z (amB_lt z hz))
      have HX2 := hid (HX.out z hz).2
      have q := fun w => run_fop_det (P := Tryz.prog) (HX.out z hz).1 28 w
      clear hs4 hk4 hz HX
      generalize fop .mul .f32 x z = y at *
      go_wp2_with fail
      refine (HF.out _).mono ?_
      rintro e w' ⟨rfl, rfl⟩
      go_wp2
      go_ret
      exact ⟨⟨y, HX2.out, rfl⟩, ⟨a4, by omega, HS4.out⟩, HK4.out⟩
end Go.Proofs.YtkbfhooiloaokaaGreatDoor.Num
/-
  The reference's draws of lists of float32: l01DrawFloats, B10Number, B10Numbers.
-/
namespace Go.Proofs.YtkbfhooiloaokaaGreatDoor.Num
open Go.RowKit Go.Proofs.Fl
set_option linter.unusedVariables false
theorem own_kept {w w' : World} {B e k c g : Nat} {A : Option Addr} {xs : List Value} (h : w.ownsRow B e 1 (.slice A k c) k xs) (hk : Kept w w' [some g]) (hg : g < B) : w'.ownsRow B e 1 (.slice A k c) k xs := by
  refine ⟨h.1, ?_⟩
  rcases h.2 with h0 | ⟨g', cap, cur, hv, hb, hh, rest⟩
  · exact .inl h0
  · have hlt : g' < w.heap.size := by
      rcases Nat.lt_or_ge g' w.heap.size with h | h
      · exact h
      · rw [Array.getElem?_eq_none h] at hh; cases hh
    refine .inr ⟨g', cap, cur, hv, hb, ?_, rest⟩
    rw [hk.block g' hlt (by
      intro r hr e
      simp only [List.mem_cons, List.not_mem_nil, or_false] at hr
      rw [hr] at e
      cases e
      omega)]
    exact hh
theorem SrcIs.stepB {w w' : World} {B g : Nat} {A : Option Addr} {n c : Nat} {xs : List Int} {a : Nat} (h : SrcIs w g A n c xs a) (hb : Below B w w') (hg : g < B) : SrcIs w' g A n c xs a := by
  obtain ⟨s, hs, ho⟩ := h.own
  exact ⟨Nat.lt_of_lt_of_le h.lt hb.size, h.len, h.byte, by
    rcases h.bytes with h0 | ⟨b, o, rfl, hbb, hc⟩
    · exact .inl h0
    · exact .inr ⟨b, o, rfl, hbb, fun j u hj => by
        rw [World.cell?_of_block (w := w) (hb.block b (Nat.lt_trans hbb hg))]
        exact hc j u hj⟩, s, hs, own_keep ho (hb.block g hg)⟩
theorem Kept.below_after {w w1 w2 : World} {R : List (Option Nat)} (h : Kept w w1 R) (hb : Below w.heap.size w1 w2) : Kept w w2 R :=
  ⟨hb.os.trans h.os, hb.tape.trans h.tape, hb.output.trans h.output, Nat.le_trans h.size hb.size, fun b hlt hr => (hb.block b hlt).trans (h.block b hlt hr)⟩
theorem grown_belowB {wr w' : World} {B : Nat} {o : Obj} {A : Option Addr} {k c : Nat} {xs : List Value} {e : Nat} (hB : B ≤ wr.heap.size) (ho : wr.ownsRow B e 1 (.slice A k c) k xs) (hg : (wr.alloc o).grownBy w' (Value.slice A k c).ownBlock) : Below B wr w' :=
  ((Below.refl B wr).alloc hB o).grown hg (by simp; omega) fun k hk => (World.ownsRow.lt ho k hk).1
/-- returned a new list of n float32 -/
def RetDraws (g : Nat) (A : Option Addr) (n c : Nat) (xs : List Int) (m : Nat) (w : World) (e : Ending) (w' : World) : Prop :=
  ∃ A1 c1 ys, ys.length = m ∧ (∀ y ∈ ys, y < 4294967296) ∧ e = .returned (.slice A1 m c1) ∧ w'.ownsRow w.heap.size 28 1 (.slice A1 m c1) m (f32s ys) ∧ Kept w w' [some g]
set_option maxRecDepth 100000 in
set_option maxHeartbeats 3200000 in
theorem floats_calls (m g : Nat) (A : Option Addr) (n c : Nat) (xs : List Int) (hn : n ≤ maxLen) (hm : m ≤ 1000) (w : World) (h : SrcIs w g A n c xs 0) :
    Calls Tryz.prog 64 #[.pointer (some ⟨g, 0, none⟩), .int .i64 (m : Int)] w (RetDraws g A n c xs m w) := by
  obtain ⟨i0, hi0, hz0, hz1, hz2⟩ := info_parts1 f32_info
  have hgB := h.lt
  have HN := hid hn
  have HS0 := hid (h.step ((Below.refl w.heap.size w).alloc (Nat.le_refl _) (.cells #[] 28)))
  have HC := hid (one_calls 4 g A n c xs 0 (by omega) hn (by decide) (by decide) (w.alloc (.cells #[] 28)) HS0.out)
  have HO0 := hid (own_none (w := w) (base := w.heap.size) (e := 28) (Nat.le_refl _))
  have HK0 := hid ((Kept.refl w [some g]).alloc (.cells #[] 28))
  clear h hn
  go_enter Tryz.func64, Tryz.ntmps64
  go_wp2_with fail
  refine HC.out.mono ?_
  rintro e w1 ⟨⟨b, rfl⟩, ⟨a1, ha1, hs1⟩, hk1⟩
  have HS1 := hid hs1
  have HK1 := hid (HK0.out.trans hk1)
  have HO1 := hid (own_kept HO0.out hk1 hgB)
  clear hs1 hk1 HC HK0 HO0 HS0
  go_wp2_with fail
  go_loopw [1, 5] (fun q o wr => ∃ (k c3 a3 : Nat) (A3 : Option Addr) (ys : List Nat), k ≤ m ∧ a3 ≤ 2 + 12 * k ∧ q = .int .i64 ((m : Int) - (k : Int)) ∧ o = .slice A3 k c3 ∧ Hid (∀ y ∈ ys, y < 4294967296) ∧ Hid (wr.ownsRow w.heap.size 28 1 (.slice A3 k c3) k (f32s ys)) ∧ Hid (SrcIs wr g A n c xs a3) ∧ Hid (Kept w wr [some g])) (fun q _ _ => (intOf q).toNat)
  case atStart => exact ⟨0, 0, a1, _, [], Nat.zero_le _, by omega, by simp, rfl, hid (by simp), HO1, HS1, HK1⟩
  case round =>
    obtain ⟨k, c3, a3, A3, ys, hk, ha3, rfl, rfl, hys, hown, hsrc, hkept⟩ := hrel
    clear HS1 HK1 HO1
    by_cases hlt : k < m
    · have hc0 : (0 : Int) < (m : Int) - (k : Int) := by omega
      cases b
      · have HC := hid (plain_calls g A n c xs a3 (by omega) HN.out wr hsrc.out)
        go_wp2_with fail
        refine HC.out.mono ?_
        rintro e w2 ⟨⟨i, b, hi, rfl⟩, ⟨a2, ha2, hs2⟩, hk2⟩
        have HX := hid (pl_at hi b).2.1
        generalize plT i b = x at *
        have HS2 := hid hs2
        have HO2 := hid (own_kept hown.out hk2 hgB)
        have HK2 := hid (hkept.out.trans hk2)
        have hsz := HK2.out.size
        clear hs2 hk2 HC hown hsrc hkept
        go_wp2_with (at_builtin; refine wpList_append_lies _ rfl _ _ 52 rfl w.heap.size 28 i0 (Value.float .f32 0) 1 4 Tryz.underlying52 hi0 hz0 hz1 hz2 rfl (by decide) (.slice A3 k c3) k (f32s ys) rfl (HO2.out.alloc _) ⟨_, 0, none⟩ 1 1 [.float .f32 x] rfl rfl (any_new _ _ _) (f32s_oneCell [x]) (by decide) (by unfold maxLen; omega) (by omega) (by simp; omega) _ rfl ?_; intro g2 c4 w5 hown3 hgrow hat hlt2; rw [f32s_snoc] at hown3; have OW2 := hid hown3; have BL2 := hid (grown_belowB hsz HO2.out hgrow); clear hown3 hgrow hat hlt2)
        go_roundw
        case rel =>
          refine ⟨k + 1, c4, a2, _, ys ++ [x], hlt, by omega, by go_num, rfl, ?_, OW2, hid (HS2.out.stepB BL2.out hgB), hid (HK2.out.below_after BL2.out)⟩
          exact hid (by
            intro y hy
            rcases List.mem_append.1 hy with h | h
            · exact hys.out y h
            · rw [List.mem_singleton.1 h]; exact HX.out)
        case measure => simp [intOf]; omega
      · have HC := hid (float_calls g A n c xs a3 (by omega) HN.out wr hsrc.out)
        go_wp2_with fail
        refine HC.out.mono ?_
        rintro e w2 ⟨⟨x, hx, rfl⟩, ⟨a2, ha2, hs2⟩, hk2⟩
        have HX := hid hx
        have HS2 := hid hs2
        have HO2 := hid (own_kept hown.out hk2 hgB)
        have HK2 := hid (hkept.out.trans hk2)
        have hsz := HK2.out.size
        clear hs2 hk2 HC hown hsrc hkept hx
        go_wp2_with (at_builtin; refine wpList_append_lies _ rfl _ _ 52 rfl w.heap.size 28 i0 (Value.float .f32 0) 1 4 Tryz.underlying52 hi0 hz0 hz1 hz2 rfl (by decide) (.slice A3 k c3) k (f32s ys) rfl (HO2.out.alloc _) ⟨_, 0, none⟩ 1 1 [.float .f32 x] rfl rfl (any_new _ _ _) (f32s_oneCell [x]) (by decide) (by unfold maxLen; omega) (by omega) (by simp; omega) _ rfl ?_; intro g2 c4 w5 hown3 hgrow hat hlt2; rw [f32s_snoc] at hown3; have OW2 := hid hown3; have BL2 := hid (grown_belowB hsz HO2.out hgrow); clear hown3 hgrow hat hlt2)
        go_roundw
        case rel =>
          refine ⟨k + 1, c4, a2, _, ys ++ [x], hlt, by omega, by go_num, rfl, ?_, OW2, hid (HS2.out.stepB BL2.out hgB), hid (HK2.out.below_after BL2.out)⟩
          exact hid (by
            intro y hy
            rcases List.mem_append.1 hy with h | h
            · exact hys.out y h
            · rw [List.mem_singleton.1 h]; exact HX.out)
        case measure => simp [intOf]; omega
    · obtain rfl : k = m := by omega
      have hyl : ys.length = k := by have := hown.out.1; rwa [f32s_length, Nat.mul_one] at this
      go_wp2
      go_ret
      exact ⟨A3, c3, ys, hyl, hys.out, rfl, hown.out, hkept.out⟩
/-- returned a float32; what was there is as it was -/
def RetNum (w : World) (e : Ending) (w' : World) : Prop := (∃ x : Nat, x < 4294967296 ∧ e = .returned (.float .f32 x)) ∧ Below w.heap.size w w'
theorem src_below {w w1 w2 : World} {g : Nat} (hb : Below w.heap.size w w1) (hg : w.heap.size ≤ g) (hk : Kept w1 w2 [some g]) : Below w.heap.size w w2 :=
  hb.trans (hk.below hb.size (fun r hr g' e => by
    simp only [List.mem_cons, List.not_mem_nil, or_false] at hr
    rw [hr] at e
    cases e
    exact hg))
set_option maxHeartbeats 800000 in
theorem B10Number_calls (A : Option Addr) (n c : Nat) (xs : List Int) (hx : xs.length = n) (h8 : ∀ z ∈ xs, 0 ≤ z ∧ z ≤ 255) (hn : n ≤ maxLen) (w : World) (ha : Rd w w.heap.size A (xs.map (Value.int .u8))) :
    Calls Tryz.prog 19 #[.slice A n c] w (RetNum w) := by
  have HC := hid (l00From_calls A n c xs hx h8 w ha)
  have HN := hid hn
  clear hx h8 ha hn
  go_enter Tryz.func19, Tryz.ntmps19
  go_wp2_with fail
  refine HC.out.mono ?_
  rintro e w1 ⟨g, hg, rfl, hs1, hb1⟩
  have HO := hid (one_calls 2 g A n c xs 0 (by omega) HN.out (by decide) (by decide) w1 hs1)
  have HB := hid hb1
  clear hs1 hb1 HC
  go_wp2_with fail
  refine HO.out.mono ?_
  rintro e w2 ⟨⟨b, rfl⟩, ⟨a2, ha2, hs2⟩, hk2⟩
  have HS2 := hid hs2
  have HK2 := hid hk2
  clear hs2 hk2 HO
  cases b
  · have HC := hid (float_calls g A n c xs a2 (by omega) HN.out w2 HS2.out)
    go_wp2_with fail
    refine HC.out.mono ?_
    rintro e w3 ⟨⟨x, hx, rfl⟩, ⟨a3, ha3, hs3⟩, hk3⟩
    have HX := hid hx
    have HK3 := hid (HK2.out.trans hk3)
    clear hs3 hk3 HC hx
    go_wp2
    go_ret
    exact ⟨⟨x, HX.out, rfl⟩, src_below HB.out hg HK3.out⟩
  · have HC := hid (pick_calls 65536 g A n c xs a2 (by omega) HN.out (by decide) (by decide) w2 HS2.out)
    go_wp2_with fail
    refine HC.out.mono ?_
    rintro e w3 ⟨⟨i, hi, rfl⟩, ⟨a3, ha3, hs3⟩, hk3⟩
    have HC2 := hid (pick_calls 65536 g A n c xs a3 (by omega) HN.out (by decide) (by decide) w3 hs3)
    have HK3 := hid (HK2.out.trans hk3)
    clear hs3 hk3 HC HK2
    go_wp2_with fail
    refine HC2.out.mono ?_
    rintro e w4 ⟨⟨j, hj, rfl⟩, ⟨a4, ha4, hs4⟩, hk4⟩
    have HK4 := hid (HK3.out.trans hk4)
    clear hs4 hk4 HC2 HK3
    have HF := hid (lFrom_calls (i * 65536 + j) (by omega))
    have HX := hid (show i * 65536 + j < 4294967296 by omega)
    go_wp2_with fail
    refine (show Calls Tryz.prog 52 #[.int .i64 ((i : Int) * 65536 + (j : Int))] w4 _ from HF.out _).mono ?_
    rintro e w' ⟨rfl, rfl⟩
    go_wp2
    go_ret
    exact ⟨⟨_, HX.out, rfl⟩, src_below HB.out hg HK4.out⟩
/-- returned a new list of m float32; what was there is as it was -/
def RetNums (m : Nat) (w : World) (e : Ending) (w' : World) : Prop := ∃ A1 c1 ys, ys.length = m ∧ (∀ y ∈ ys, y < 4294967296) ∧ e = .returned (.slice A1 m c1) ∧ OwnV w' 28 A1 m c1 (f32s ys) ∧ Below w.heap.size w w'
theorem B10Numbers_calls (m : Nat) (hm : m ≤ 1000) (A : Option Addr) (n c : Nat) (xs : List Int) (hx : xs.length = n) (h8 : ∀ z ∈ xs, 0 ≤ z ∧ z ≤ 255) (hn : n ≤ maxLen) (w : World) (ha : Rd w w.heap.size A (xs.map (Value.int .u8))) :
    Calls Tryz.prog 29 #[.slice A n c, .int .i64 (m : Int)] w (RetNums m w) := by
  have HC := hid (l00From_calls A n c xs hx h8 w ha)
  have HN := hid hn
  clear hx h8 ha hn
  go_enter Tryz.func29, Tryz.ntmps29
  go_wp2_with fail
  refine HC.out.mono ?_
  rintro e w1 ⟨g, hg, rfl, hs1, hb1⟩
  have HF := hid (floats_calls m g A n c xs HN.out hm w1 hs1)
  have HB := hid hb1
  clear hs1 hb1 HC
  go_wp2_with fail
  refine HF.out.mono ?_
  rintro e w2 ⟨A1, c1, ys, hl, hy, rfl, ho, hk⟩
  have HL := hid hl
  have HY := hid hy
  have HO := hid (ownV_any ho).1
  have HK := hid hk
  clear hl hy ho hk
  go_wp2
  go_ret
  exact ⟨A1, c1, ys, HL.out, HY.out, rfl, HO.out, src_below HB.out hg HK.out⟩
end Go.Proofs.YtkbfhooiloaokaaGreatDoor.Num
/-
  The laws' b10Long, b10At.
-/
namespace Go.Proofs.YtkbfhooiloaokaaGreatDoor.Num
open Go.RowKit Go.Proofs.Fl
set_option linter.unusedVariables false
def RetAB (w : World) (e : Ending) (w' : World) : Prop := (∃ b : Bool, e = .returned (.bool b)) ∧ w' = w
def RetUpTo (N : Nat) (w : World) (e : Ending) (w' : World) : Prop := (∃ i : Nat, i < N ∧ e = .returned (.int .i64 (i : Int))) ∧ w' = w
theorem b10Long_calls (A B : Option Addr) (n c m d : Nat) (w : World) : Calls Tryz.prog 5 #[.slice A n c, .slice B m d] w (RetAB w) := by
  go_enter Tryz.func5, Tryz.ntmps5
  go_wp2
  all_goals go_ret
  all_goals exact ⟨⟨_, rfl⟩, rfl⟩
/-- a number from 0 to N - 1 -/
theorem b10At_calls (A : Option Addr) (n c : Nat) (xs : List Int) (hx : xs.length = n) (hw8 : ∀ z ∈ xs, (Lit.int .u8 z).wf = true) (k N : Nat) (hk : k < 1000) (hN : 1 < N) (hN2 : N < 1000000) (w : World) (ha : Rd w w.heap.size A (xs.map (Value.int .u8))) :
    Calls Tryz.prog 16 #[.slice A n c, .int .i64 (k : Int), .int .i64 (N : Int)] w (RetUpTo N w) := by
  by_cases hlt : k < n
  · have hkx : k < xs.length := by omega
    have h8 := hw8 _ (List.getElem_mem hkx)
    rcases ha with h0 | ⟨b, o, rfl, hb, hc⟩
    · have : (xs.map (Value.int .u8)).length = 0 := by rw [h0]; rfl
      rw [List.length_map] at this
      omega
    · have hc1 := hc k (.int .u8 xs[k]) (by rw [List.getElem?_map, List.getElem?_eq_getElem hkx]; rfl)
      have h8' : IntKind.u8.min ≤ xs[k] ∧ xs[k] ≤ IntKind.u8.max := by simpa [Lit.wf] using h8
      have hz : 0 ≤ xs[k] ∧ xs[k] ≤ 255 := h8'
      clear h8'
      clear hc h8 hw8
      generalize xs[k] = z at *
      obtain ⟨u, rfl⟩ : ∃ u : Nat, z = (u : Int) := ⟨z.toNat, by omega⟩
      have hmod : (u : Int).tmod (N : Int) = ((u % N : Nat) : Int) := rfl
      have hml : u % N < N := Nat.mod_lt _ (by omega)
      go_enter Tryz.func16, Tryz.ntmps16
      go_wp2
      go_ret
      exact ⟨⟨u % N, hml, by first | rfl | (congr 2; omega) | skip⟩, rfl⟩
  · clear ha hw8
    have hml : (k * 37 + 11) % N < N := Nat.mod_lt _ (by omega)
    go_enter Tryz.func16, Tryz.ntmps16
    go_wp2
    go_ret
    exact ⟨⟨(k * 37 + 11) % N, hml, by first | rfl | (congr 2; omega) | skip⟩, rfl⟩
theorem byte_wf {xs : List Int} (h : ∀ z ∈ xs, (Lit.int .u8 z).wf = true) : ∀ z ∈ xs, 0 ≤ z ∧ z ≤ 255 := by
  intro z hz
  have h8 : IntKind.u8.min ≤ z ∧ z ≤ IntKind.u8.max := by simpa [Lit.wf] using h z hz
  exact h8
end Go.Proofs.YtkbfhooiloaokaaGreatDoor.Num
/-
  The sum of a list of float32, from left to right, by both texts.
-/
namespace Go.Proofs.YtkbfhooiloaokaaGreatDoor.Num
open Go.RowKit Go.Proofs.Fl
set_option linter.unusedVariables false

def sumF (xs : List Nat) : Nat := xs.foldl (fop .add .f32) 0
theorem sumF_snoc (xs : List Nat) (k : Nat) (h : k < xs.length) : sumF (xs.take (k + 1)) = fop .add .f32 (sumF (xs.take k)) xs[k] := by
  rw [List.take_succ_eq_append_getElem h]
  unfold sumF
  rw [List.foldl_append]
  rfl
theorem sumF_end (xs : List Nat) (n k : Nat) (hn : xs.length = n) (hk : n ≤ k) : sumF (xs.take k) = sumF xs := by rw [List.take_of_length_le (by omega)]
theorem sumF_step {xs : List Nat} {k v u : Nat} (hk : k < xs.length) (hv : FEq .f32 v (sumF (xs.take k))) (hu : FEq .f32 u (fop .add .f32 v xs[k])) : FEq .f32 u (sumF (xs.take (k + 1))) := by
  rw [sumF_snoc xs k hk, ← fop_congr hv (FEq.refl _ _)]
  exact hu

set_option maxHeartbeats 400000 in
theorem SumNumbers_yes (A : Option Addr) (n c : Nat) (xs : List Nat) (hx : xs.length = n) (hn : n ≤ 256) (w : World) (ha : Rd w w.heap.size A (f32s xs)) :
    Calls Tryz.prog 30 #[.slice A n c] w (RetFB .f32 (sumF xs) true w) := by
  have HX := hid hx
  clear hx
  go_enter Tryz.func30, Tryz.ntmps30
  go_wp2
  go_loopw [4, 12] (fun s i wr => ∃ k m v : Nat, k ≤ n ∧ i = .int .i64 k ∧ wr = w.drewN m ∧ s = .float .f32 v ∧ FEq .f32 v (sumF (xs.take k))) (fun _ i _ => n - (intOf i).toNat)
  case atStart => exact ⟨0, 0, 0, Nat.zero_le _, rfl, rfl, rfl, FEq.refl _ _⟩
  case round =>
    obtain ⟨k, m, v, hk, rfl, rfl, rfl, hv⟩ := hrel
    by_cases hlt : k < n
    · have hkx : k < xs.length := by have := HX.out; omega
      have HF := hid fun u hu => sumF_step (u := u) hkx hv hu
      obtain ⟨b1, o1, rfl, hb1, hc1⟩ := f32s_at ha hkx
      generalize xs[k] = x at *
      clear hv
      go_wp2_with (refine wpList_fop rfl rfl rfl rfl ?_; intro u q hu)
      go_roundw
      case rel => exact ⟨k + 1, _, _, hlt, by go_num, rfl, rfl, HF.out _ ‹_›⟩
      case measure => simp [intOf]; omega
    · have HE := hid (sumF_end xs n k HX.out (by omega))
      have HV := hid hv
      clear hv
      go_wp2
      go_ret2
      exact ⟨v, _, rfl, by rw [← HE.out]; exact HV.out, rfl⟩
theorem SumNumbers_no (A : Option Addr) (n c : Nat) (hn : 256 < n) (w : World) :
    Calls Tryz.prog 30 #[.slice A n c] w (RetFB .f32 0 false w) := by
  go_enter Tryz.func30, Tryz.ntmps30
  go_wp2
  go_ret2
  exact ⟨0, 0, rfl, FEq.refl _ _, rfl⟩
end Go.Proofs.YtkbfhooiloaokaaGreatDoor.Num
/-
  The library's ParseUint at base 16 and 32 bits, of texts of 8 bytes, walked: there is no contract at that base.
-/
namespace Go.Proofs.YtkbfhooiloaokaaGreatDoor.Num
open Go.RowKit Go.Proofs.Fl Go.Proofs.Hx
set_option linter.unusedVariables false
set_option linter.unusedSimpArgs false
def lowOk (c : Fin 256) : Bool :=
  match digU (UInt8.ofNat c.val) with
  | some d => decide ((48 ≤ c.val ∧ c.val ≤ 57 ∧ d = c.val - 48) ∨ (¬ (48 ≤ c.val ∧ c.val ≤ 57) ∧ 97 ≤ c.val ||| 32 ∧ c.val ||| 32 ≤ 102 ∧ d = (c.val ||| 32) - 87))
  | none => decide (¬ (48 ≤ c.val ∧ c.val ≤ 57) ∧ (c.val ||| 32 < 97 ∨ 102 < c.val ||| 32))
theorem lowTab : ∀ c : Fin 256, lowOk c = true := by decide +kernel
theorem low_some {c : UInt8} {d : Nat} (h : digU c = some d) : (48 ≤ c.toNat ∧ c.toNat ≤ 57 ∧ d = c.toNat - 48) ∨ (¬ (48 ≤ c.toNat ∧ c.toNat ≤ 57) ∧ 97 ≤ c.toNat ||| 32 ∧ c.toNat ||| 32 ≤ 102 ∧ d = (c.toNat ||| 32) - 87) := by
  have := lowTab ⟨c.toNat, c.toNat_lt⟩
  unfold lowOk at this
  rw [show UInt8.ofNat c.toNat = c by simp, h] at this
  exact of_decide_eq_true this
theorem low_none {c : UInt8} (h : digU c = none) : ¬ (48 ≤ c.toNat ∧ c.toNat ≤ 57) ∧ (c.toNat ||| 32 < 97 ∨ 102 < c.toNat ||| 32) := by
  have := lowTab ⟨c.toNat, c.toNat_lt⟩
  unfold lowOk at this
  rw [show UInt8.ofNat c.toNat = c by simp, h] at this
  exact of_decide_eq_true this
theorem or32 (c : UInt8) : bits .or .u8 (c.toNat : Int) 32 = ((c.toNat ||| 32 : Nat) : Int) ∧ c.toNat ||| 32 < 256 := by
  have : ∀ c : Fin 256, bits .or .u8 ((c.val : Nat) : Int) 32 = ((c.val ||| 32 : Nat) : Int) ∧ c.val ||| 32 < 256 := by decide +kernel
  exact this ⟨c.toNat, c.toNat_lt⟩
theorem lower_is (c : Int) (w : World) : Calls Tryz.prog 106 #[.int .u8 c] w (fun e w' => e = .returned (.int .u8 (bits .or .u8 c 32)) ∧ w' = w) := by
  go_enter Tryz.func106, Tryz.ntmps106
  go_wp2
  go_ret
  exact ⟨rfl, rfl⟩
/-- how the parse ends: the number, or the form's error -/
def puEnd (o : Option Nat) : Value :=
  match o with
  | some u => .tuple #[.int .u64 (u : Int), .nilIface]
  | none => .tuple #[.int .u64 0, .iface 129 (.int .i64 2)]
set_option maxHeartbeats 32000000 in
set_option maxRecDepth 100000 in
theorem iParseUint_16 (t : ByteArray) (h8 : t.size = 8) (w : World) :
    Calls Tryz.prog 92 #[.string t, .int .i64 16, .int .i64 32] w fun e w' => e = .returned (puEnd (rdU t.data.toList)) ∧ w' = Lib.bytesWorld w 5 t := by
  have hemp : (t.toList.isEmpty) = false := by
    rw [ByteArray.toList_eq]
    have : t.data.toList.length = 8 := by simpa using h8
    cases h : t.data.toList with
    | nil => rw [h] at this; cases this
    | cons => rfl
  have hcv := Lib.run_convert_string_bytes (P := Tryz.prog) w 9 22 5 t (u := .string) Tryz.underlying9 Tryz.underlying22 Tryz.underlying5
  have hB : ∀ j, j < t.size → (Lib.bytesWorld w 5 t).cell? ⟨w.heap.size, j, none⟩ = some (.int .u8 (t.data.toList.getD j 0).toNat) := fun j hj => Lib.bytesWorld_cell w 5 t j hj
  obtain ⟨W1, hW1⟩ : ∃ W1, W1 = Lib.bytesWorld w 5 t := ⟨_, rfl⟩
  rw [← hW1] at hcv hB ⊢
  clear hW1
  obtain ⟨bs, hL⟩ : ∃ bs, bs = t.data.toList := ⟨_, rfl⟩
  have hLn : bs.length = 8 := by rw [hL]; simpa using h8
  rw [← hL] at hB ⊢
  clear hL
  rw [h8] at hcv hB
  have HB := hid hB
  clear hB
  have hmv : IntKind.u64.wrap (IntKind.u64.wrap 4294967296 - 1) = 4294967295 := by
    rw [IntKind.wrap_u64, IntKind.wrap_u64]
    decide
  unfold rdU
  go_enter Tryz.func92, Tryz.ntmps92
  go_wp2_with fail
  go_loop [12, 13, 101] (fun vu vn vi => ∃ (k acc : Nat) (a : Int), vu = .bool false ∧ vn = .int .u64 a ∧ vi = .int .i64 k ∧ k ≤ 8 ∧ Hid (a = (acc : Int) ∧ acc < 16 ^ k ∧ numBy digU 0 bs = numBy digU acc (bs.drop k)))
    (fun _ _ vi => 8 - (intOf vi).toNat)
  case atStart => exact ⟨0, 0, 0, rfl, rfl, rfl, by omega, rfl, by simp, rfl⟩
  case round =>
    obtain ⟨k, acc, a, rfl, rfl, rfl, hk, hh⟩ := hrel
    obtain ⟨ha, hacc, hdec⟩ := hh.out
    clear hh
    have a0 : 0 ≤ a := by omega
    by_cases hkn : k < 8
    · have hc := HB.out k hkn
      have hdrop : bs.drop k = bs[k]'(by omega) :: bs.drop (k + 1) := List.drop_eq_getElem_cons (by omega)
      have hget : bs.getD k 0 = bs[k]'(by omega) := by simp [List.getD, List.getElem?_eq_getElem (show k < bs.length by omega)]
      rw [hdrop] at hdec
      rw [hget] at hc
      generalize bs[k]'(by omega) = c at hc hdec
      have hc256 : c.toNat < 256 := c.toNat_lt
      obtain ⟨ho, ho256⟩ := or32 c
      simp only [numBy] at hdec
      cases hd : digU c with
      | some d =>
        rw [hd] at hdec
        have hs := low_some hd
        have h95 : 97 ≤ c.toNat ||| 32 → c.toNat ||| 32 ≤ 102 → ¬ (c.toNat : Int) = 95 := by
          intro _ h2 e
          have e2 : c.toNat = 95 := by omega
          rw [e2] at h2
          exact absurd h2 (by decide)
        have hnx : 16 * acc + d < 16 ^ (k + 1) := by
          have := digU_lt hd
          rw [Nat.pow_succ]
          omega
        have hp8 : 16 ^ (k + 1) ≤ 4294967296 := Nat.le_trans (Nat.pow_le_pow_right (by decide) (show k + 1 ≤ 8 by omega)) (by decide)
        have HN := hid (And.intro (show a * 16 + (d : Int) = ((16 * acc + d : Nat) : Int) by omega) (And.intro hnx hdec))
        have hb1 : 16 * acc + d ≤ 4294967295 := by omega
        have ha1 : a ≤ 268435455 := by omega
        have iov : a * 16 + (d : Int) ≤ 4294967295 := by omega
        clear hd hdrop hget hdec hnx hp8 hacc hb1
        generalize c.toNat ||| 32 = v at *
        rcases hs with ⟨h48, h57, hdd⟩ | ⟨hno, h97, h102, hdd⟩
        · clear h95
          have hdi : (d : Int) = (c.toNat : Int) - 48 := by omega
          rw [hdi] at iov HN
          have Hd := hid hdd
          clear hdd hdi ha ho ho256
          go_wp2_with fail
          refine ⟨⟨k + 1, 16 * acc + d, _, rfl, rfl, by go_num, by omega, HN.out⟩, by simp [intOf]; omega⟩
        · have hdi : (d : Int) = (v : Int) - 97 + 10 := by omega
          rw [hdi] at iov HN
          clear hdd hdi ha
          have h95' := h95 h97 h102
          clear h95
          by_cases h48 : 48 ≤ c.toNat
          · have h57 : ¬ c.toNat ≤ 57 := fun h => hno ⟨h48, h⟩
            clear hno
            go_wp2_with (go_at_call 106; refine (lower_is _ _).mono ?_; rintro e w' ⟨rfl, rfl⟩)
            refine ⟨⟨k + 1, 16 * acc + d, _, rfl, rfl, by go_num, by omega, HN.out⟩, by simp [intOf]; omega⟩
          · clear hno
            go_wp2_with (go_at_call 106; refine (lower_is _ _).mono ?_; rintro e w' ⟨rfl, rfl⟩)
            refine ⟨⟨k + 1, 16 * acc + d, _, rfl, rfl, by go_num, by omega, HN.out⟩, by simp [intOf]; omega⟩
      | none =>
        rw [hd] at hdec
        obtain ⟨hno, hlow⟩ := low_none hd
        have HD := hid hdec
        clear hd hdrop hget ha hacc hdec
        generalize c.toNat ||| 32 = v at *
        go_wp2_with (go_at_call 106; refine (lower_is _ _).mono ?_; rintro e w' ⟨rfl, rfl⟩)
        all_goals first | (exfalso; omega) | skip
        all_goals go_ret2
        all_goals exact ⟨by rw [HD.out]; rfl, rfl⟩
    · obtain rfl : k = 8 := by omega
      rw [List.drop_eq_nil_of_le (by omega)] at hdec
      simp only [numBy] at hdec
      have HD := hid hdec
      clear hdec hacc
      go_wp2_with fail
      go_ret2
      exact ⟨by rw [HD.out]; rfl, rfl⟩
end Go.Proofs.YtkbfhooiloaokaaGreatDoor.Num
/-
  DERIVED: THE SHELF's CONTRACTS AT THIS DUMP, IN PLAIN WORDS (tools/lay-plain.mjs out of 'TryzShelfOf.lean', which tools/lay-shelf.mjs wrote): THE SAME DECLARATIONS UNDER THE SAME NAMES: 'import', 'namespace', 'open', 'def', 'theorem' AND NOTHING ELSE: no command of the shelf's: FOR A HAND-IN. Each laying: the table of numbers ('.._ren') and one theorem, a field a fact of the dump's own or the kernel's comparison; each contract: ONE APPLICATION.
-/
namespace Go.Proofs
open Go.Shelf
def Tryz.laysC245_ren : Go.Shelf.Ren := ⟨fun | 245 => 93 | 279 => 108 | 280 => 109 | 281 => 110 | 282 => 111 | 316 => 123 | 171 => 125 | 205 => 124 | 243 => 133 | 246 => 84 | 283 => 94 | 284 => 95 | 285 => 96 | 286 => 97 | 129 => 113 | 317 => 112 | 318 => 114 | 319 => 115 | 320 => 116 | 337 => 126 | 338 => 127 | n => n, fun | 9 => 9 | 3 => 3 | 75 => 94 | 167 => 129 | 4 => 4 | 168 => 132 | 210 => 150 | 37 => 22 | 0 => 0 | 127 => 126 | 145 => 155 | 143 => 153 | 2 => 2 | 171 => 117 | 53 => 85 | 5 => 5 | 173 => 120 | 212 => 137 | 51 => 79 | 20 => 20 | 213 => 138 | 46 => 102 | 232 => 156 | 233 => 157 | 80 => 113 | n => n, fun | 15 => 2 | 16 => 3 | 17 => 1 | 18 => 5 | 19 => 6 | n => n⟩
theorem Tryz.laysC245 : Go.Proofs.LaysC.n245 Tryz.prog Tryz.laysC245_ren := {
  mixed := by kernel_rfl
  f129 := Tryz.func113.trans (congrArg some (by kernel_rfl))
  f171 := Tryz.func125.trans (congrArg some (by kernel_rfl))
  f205 := Tryz.func124.trans (congrArg some (by kernel_rfl))
  f243 := Tryz.func133.trans (congrArg some (by kernel_rfl))
  f245 := Tryz.func93.trans (congrArg some (by kernel_rfl))
  f246 := Tryz.func84.trans (congrArg some (by kernel_rfl))
  f279 := Tryz.func108.trans (congrArg some (by kernel_rfl))
  f280 := Tryz.func109.trans (congrArg some (by kernel_rfl))
  f281 := Tryz.func110.trans (congrArg some (by kernel_rfl))
  f282 := Tryz.func111.trans (congrArg some (by kernel_rfl))
  f283 := Tryz.func94.trans (congrArg some (by kernel_rfl))
  f284 := Tryz.func95.trans (congrArg some (by kernel_rfl))
  f285 := Tryz.func96.trans (congrArg some (by kernel_rfl))
  f286 := Tryz.func97.trans (congrArg some (by kernel_rfl))
  f316 := Tryz.func123.trans (congrArg some (by kernel_rfl))
  f317 := Tryz.func112.trans (congrArg some (by kernel_rfl))
  f318 := Tryz.func114.trans (congrArg some (by kernel_rfl))
  f319 := Tryz.func115.trans (congrArg some (by kernel_rfl))
  f320 := Tryz.func116.trans (congrArg some (by kernel_rfl))
  f337 := Tryz.func126.trans (congrArg some (by kernel_rfl))
  f338 := Tryz.func127.trans (congrArg some (by kernel_rfl))
  t0 := Tryz.underlying0
  a0 := Tryz.isAgg0
  z0 := Tryz.sizeOf0
  v0 := Tryz.zeroValue0
  t2 := Tryz.underlying2
  a2 := Tryz.isAgg2
  z2 := Tryz.sizeOf2
  v2 := Tryz.zeroValue2
  t3 := Tryz.underlying3
  a3 := Tryz.isAgg3
  z3 := Tryz.sizeOf3
  v3 := Tryz.zeroValue3
  t4 := Tryz.underlying4
  a4 := Tryz.isAgg4
  z4 := Tryz.sizeOf4
  v4 := Tryz.zeroValue4
  t5 := Tryz.underlying5
  a5 := Tryz.isAgg5
  z5 := Tryz.sizeOf5
  v5 := Tryz.zeroValue5
  t9 := Tryz.underlying9
  a9 := Tryz.isAgg9
  z9 := Tryz.sizeOf9
  v9 := Tryz.zeroValue9
  t20 := Tryz.underlying20
  a20 := Tryz.isAgg20
  z20 := Tryz.sizeOf20
  v20 := Tryz.zeroValue20
  t37 := Tryz.underlying22
  a37 := Tryz.isAgg22
  z37 := Tryz.sizeOf22
  v37 := Tryz.zeroValue22
  t46 := Tryz.underlying102
  a46 := Tryz.isAgg102
  z46 := Tryz.sizeOf102
  v46 := Tryz.zeroValue102
  t51 := Tryz.underlying79
  a51 := Tryz.isAgg79
  z51 := Tryz.sizeOf79
  v51 := Tryz.zeroValue79
  t53 := Tryz.underlying85
  a53 := Tryz.isAgg85
  z53 := Tryz.sizeOf85
  v53 := Tryz.zeroValue85
  t75 := Tryz.underlying94
  a75 := Tryz.isAgg94
  z75 := Tryz.sizeOf94
  v75 := Tryz.zeroValue94
  t127 := Tryz.underlying126
  a127 := Tryz.isAgg126
  z127 := Tryz.sizeOf126
  v127 := Tryz.zeroValue126
  t143 := Tryz.underlying153
  a143 := Tryz.isAgg153
  z143 := Tryz.sizeOf153
  v143 := Tryz.zeroValue153
  t145 := Tryz.underlying155
  a145 := Tryz.isAgg155
  z145 := Tryz.sizeOf155
  v145 := Tryz.zeroValue155
  t167 := Tryz.underlying129
  a167 := Tryz.isAgg129
  z167 := Tryz.sizeOf129
  v167 := Tryz.zeroValue129
  t168 := Tryz.underlying132
  a168 := Tryz.isAgg132
  z168 := Tryz.sizeOf132
  v168 := Tryz.zeroValue132
  t171 := Tryz.underlying117
  a171 := Tryz.isAgg117
  z171 := Tryz.sizeOf117
  v171 := Tryz.zeroValue117
  t173 := Tryz.underlying120
  a173 := Tryz.isAgg120
  z173 := Tryz.sizeOf120
  v173 := Tryz.zeroValue120
  t210 := Tryz.underlying150
  a210 := Tryz.isAgg150
  z210 := Tryz.sizeOf150
  v210 := Tryz.zeroValue150
  t212 := Tryz.underlying137
  a212 := Tryz.isAgg137
  z212 := Tryz.sizeOf137
  v212 := Tryz.zeroValue137
  t213 := Tryz.underlying138
  a213 := Tryz.isAgg138
  z213 := Tryz.sizeOf138
  t232 := Tryz.underlying156
  a232 := Tryz.isAgg156
  z232 := Tryz.sizeOf156
  v232 := Tryz.zeroValue156
  t233 := Tryz.underlying157
  a233 := Tryz.isAgg157
  z233 := Tryz.sizeOf157
  v233 := Tryz.zeroValue157
  g15 := by kernel_rfl
  g16 := by kernel_rfl
  g17 := by kernel_rfl
  g18 := by kernel_rfl
  g19 := by kernel_rfl
  t80 := Tryz.underlying113
  a80 := Tryz.isAgg113
  z80 := Tryz.sizeOf113
  v80 := Tryz.zeroValue113
  i0 := by kernel_rfl
  i2 := by kernel_rfl
  i3 := by kernel_rfl
  i4 := by kernel_rfl
  i5 := by kernel_rfl
  i9 := by kernel_rfl
  i20 := by kernel_rfl
  i37 := by kernel_rfl
  i46 := by kernel_rfl
  i51 := by kernel_rfl
  i53 := by kernel_rfl
  i75 := by kernel_rfl
  i80 := by kernel_rfl
  i127 := by kernel_rfl
  i143 := by kernel_rfl
  i145 := by kernel_rfl
  i167 := by kernel_rfl
  i168 := by kernel_rfl
  i171 := by kernel_rfl
  i173 := by kernel_rfl
  i210 := by kernel_rfl
  i212 := by kernel_rfl
  i232 := by kernel_rfl
  i233 := by kernel_rfl
  m15 := by kernel_rfl
  m16 := by kernel_rfl
  m17 := by kernel_rfl
  m18 := by kernel_rfl
  m19 := by kernel_rfl
  c0 := by kernel_rfl
  c2 := by kernel_rfl
  c3 := by kernel_rfl
  c4 := by kernel_rfl
  c5 := by kernel_rfl
  c9 := by kernel_rfl
  c20 := by kernel_rfl
  c37 := by kernel_rfl
  c46 := by kernel_rfl
  c51 := by kernel_rfl
  c53 := by kernel_rfl
  c75 := by kernel_rfl
  c80 := by kernel_rfl
  c127 := by kernel_rfl
  c143 := by kernel_rfl
  c145 := by kernel_rfl
  c167 := by kernel_rfl
  c168 := by kernel_rfl
  c171 := by kernel_rfl
  c173 := by kernel_rfl
  c210 := by kernel_rfl
  c212 := by kernel_rfl
  c213 := by kernel_rfl
  c232 := by kernel_rfl
  c233 := by kernel_rfl }
open Go.RowKit in
/-- strconv.toError, at the inner package's ErrSyntax: 'syntaxError(fn, s)' as an error: A *NumError IN A NEW BLOCK. (LAID: no walk: one application.) -/
theorem Tryz.strconv_toError_syntax (fn s : ByteArray) (base bits : Int) (ev : Value) (w : World) (hlim : s.size ≤ 281474976710656) (hv : w.cell? ⟨2, 0, none⟩ = some ev) (hev : ev = .nilIface ∨ ∃ te pe, ev = .iface te pe) :
    Calls Tryz.prog 93 #[.string fn, .string s, .int .i64 base, .int .i64 bits, .iface 129 (.int .i64 2)] w fun e w' => ∃ N, e = .returned (.iface 132 (.pointer (some ⟨N, 0, none⟩))) ∧ w.heap.size ≤ N ∧ w'.heap[N]? = some (.cells #[.string fn, .string s, ev] 150 (0, 0)) ∧ Below w.heap.size w w' := Any.strconv_toError_syntax Tryz.laysC245 fn s base bits ev w hlim hv hev
end Go.Proofs
/-
  A float32 from its 8 hexadecimal digits (the program's readHex).
-/
namespace Go.Proofs.YtkbfhooiloaokaaGreatDoor.Num
open Go.RowKit Go.Proofs.Fl Go.Proofs.Hx
set_option linter.unusedVariables false
set_option linter.unusedSimpArgs false
theorem gErrSyn : Tryz.prog.globalNamed "strconv.ErrSyntax" = some 2 := by kernel_rfl
theorem Errs.cell {B : Nat} {w : World} (h : Errs B w) : ∃ a : Addr, ∀ w', Below B w w' → w'.cell? ⟨2, 0, none⟩ = some (.iface 153 (.pointer (some a))) :=
  h.synt.imp fun a ha w' hb => by simpa using World.var?_cell gErrSyn (ha w' hb) 0
theorem ParseUint_16 (t : ByteArray) (h8 : t.size = 8) (w : World) {B : Nat} (hB : B ≤ w.heap.size) (hE : Errs B w) :
    Calls Tryz.prog 76 #[.string t, .int .i64 16, .int .i64 32] w fun e w' => (∃ v, e = .returned (.tuple #[.int .u64 (((rdU t.data.toList).getD 0 : Nat) : Int), v])) ∧ Below w.heap.size w w' := by
  have HC := hid (iParseUint_16 t h8 w)
  have HW := hid (Lib.bytesWorld_below w 5 t)
  obtain ⟨a, ha⟩ := hE.cell
  have HE := hid (Tryz.strconv_toError_syntax ⟨#[80, 97, 114, 115, 101, 85, 105, 110, 116]⟩ t 16 32 _ (Lib.bytesWorld w 5 t) (by omega) (ha _ (HW.out.mono hB)) (.inr ⟨_, _, rfl⟩))
  clear hE ha
  generalize Lib.bytesWorld w 5 t = W1 at *
  cases hr : rdU t.data.toList with
  | some u =>
    rw [hr] at HC
    have HC2 := hid (show Calls Tryz.prog 92 #[.string t, .int .i64 16, .int .i64 32] w fun e w' => e = .returned (.tuple #[.int .u64 (u : Int), .nilIface]) ∧ w' = W1 from HC.out)
    clear hr HC HE
    go_enter Tryz.func76, Tryz.ntmps76
    go_wp2_with (go_at_call 92; refine HC2.out.mono ?_; rintro e w1 ⟨rfl, rfl⟩)
    go_ret2
    exact ⟨⟨_, rfl⟩, HW.out⟩
  | none =>
    rw [hr] at HC
    have HC2 := hid (show Calls Tryz.prog 92 #[.string t, .int .i64 16, .int .i64 32] w fun e w' => e = .returned (.tuple #[.int .u64 0, .iface 129 (.int .i64 2)]) ∧ w' = W1 from HC.out)
    clear hr HC
    go_enter Tryz.func76, Tryz.ntmps76
    go_wp2_with (first | (go_at_call 92; refine HC2.out.mono ?_; rintro e w1 ⟨rfl, rfl⟩) | (go_at_call 93; refine HE.out.mono ?_; rintro e w2 ⟨N, rfl, h1, h2, h3⟩; have H3 := hid h3; clear h1 h2 h3))
    go_ret2
    exact ⟨⟨_, rfl⟩, HW.out.trans (H3.out.mono HW.out.size)⟩
theorem readHex_calls (t : ByteArray) (h8 : t.size = 8) (w : World) {B : Nat} (hB : B ≤ w.heap.size) (hE : Errs B w) :
    Calls Tryz.prog 50 #[.string t] w fun e w' => e = .returned (.float .f32 ((rdU t.data.toList).getD 0)) ∧ Below w.heap.size w w' := by
  have HC := hid (ParseUint_16 t h8 w hB hE)
  have hu : (rdU t.data.toList).getD 0 < 4294967296 := by
    cases hr : rdU t.data.toList with
    | some u => exact rdU_lt (by simpa using h8) hr
    | none => exact Nat.zero_lt_of_lt (by decide : 0 < 4294967296)
  clear hE
  generalize (rdU t.data.toList).getD 0 = u at *
  go_enter Tryz.func50, Tryz.ntmps50
  go_wp2_with (go_at_call 76; refine HC.out.mono ?_; rintro e w1 ⟨⟨v, rfl⟩, hb⟩; have HB := hid hb; clear hb)
  go_ret
  exact ⟨rfl, HB.out⟩
end Go.Proofs.YtkbfhooiloaokaaGreatDoor.Num
/-
  The text of a list of float32: the program (NumbersText).
-/
namespace Go.Proofs.YtkbfhooiloaokaaGreatDoor.Num
open Go.RowKit Go.Proofs.Fl Go.Proofs.Hx Go.Proofs.Tx
open Go.Lib (join)
set_option linter.unusedVariables false
set_option linter.unusedSimpArgs false
set_option maxRecDepth 100000 in
set_option maxHeartbeats 1600000 in
theorem NumbersText_calls (A : Option Addr) (n c : Nat) (xs : List Nat) (hz : xs.length = n) (hn : n ≤ 1048576) (hok : ∀ x ∈ xs, x < 4294967296) (w : World) {B : Nat} (hB : B ≤ w.heap.size) (ha : Rd w w.heap.size A (f32s xs)) (hD : Deb B w) :
    Calls Tryz.prog 31 #[.slice A n c] w (RetText (numText xs) w) := by
  by_cases h256 : n ≤ 256
  · obtain ⟨i0, hi0, hz0, hz1, hz2⟩ := info_parts1 str_info
    have HNT := hid (show numText xs = some (textJ (xs.map hexT)) by unfold numText; rw [if_pos (by omega)])
    have HZ := hid hz
    have HR := hid ha
    have HM := hid hok
    have HL := hid (join_le 8 (xs.map hexT) (hexT_le xs))
    have HDB := hid (fun w' (h : Below w.heap.size w w') => hD.on (h.mono hB))
    have HBs := hid hB
    clear hz ha hok hD hB
    go_enter Tryz.func31, Tryz.ntmps31
    go_wp2_with fail
    go_loopw [4, 6, 13] (fun o q i wr => ∃ (k : Nat) (A2 : Option Addr) (c2 : Nat), k ≤ n ∧ i = .int .i64 k ∧ o = .slice A2 k c2 ∧ Hid (OwnT wr w.heap.size (.slice A2 k c2) k ((xs.map hexT).take k)) ∧ Hid (Below w.heap.size w wr)) (fun _ _ i _ => n - (intOf i).toNat)
    case atStart => exact ⟨0, _, 0, Nat.zero_le _, rfl, rfl, own_none (Nat.le_refl _), (Below.refl _ _).alloc (Nat.le_refl _) _⟩
    case round =>
      obtain ⟨k, A2, c2, hk, rfl, rfl, hown, hbel⟩ := hrel
      by_cases hlt : k < n
      · have hkx : k < xs.length := by have := HZ.out; omega
        have hm := HM.out _ (List.getElem_mem hkx)
        obtain ⟨b1, o1, rfl, hb1, hc1⟩ := f32s_at (HR.out.below hbel.out) hkx
        have hsn : (xs.map hexT).take (k + 1) = (xs.map hexT).take k ++ [hexT xs[k]] := by
          rw [List.take_succ_eq_append_getElem (by simpa using hkx)]
          simp
        have HSN := hid hsn
        clear hsn
        generalize xs[k] = z at *
        have hBw := Nat.le_trans HBs.out hbel.out.size
        have HD := hid (hexOf_calls z hm wr (B := B) hBw (HDB.out wr hbel.out))
        rw [show hex8 (cn .f32 z) = hexT z from rfl] at HD
        clear hm hBw
        generalize hexT z = li at *
        go_wp2_with (first
          | (go_at_call 47; refine HD.out.mono ?_; rintro e w2 ⟨rfl, hb⟩; have HB2 := hid hb; clear hb)
          | (at_builtin; refine wpList_append_lies _ rfl _ _ 69 rfl w.heap.size 9 i0 (Value.string ByteArray.empty) 1 16 Tryz.underlying69 hi0 hz0 hz1 hz2 rfl (by decide) (.slice A2 k c2) k (strs ((xs.map hexT).take k)) rfl ((own_step hown.out HB2.out).alloc _) ⟨_, 0, none⟩ 1 1 [.string ⟨li.toArray⟩] rfl rfl (str_new _ w.heap.size _) (strs_oneCell [li]) (by decide) (by unfold maxLen; omega) (by omega) (by simp; have := hbel.out.size; have := HB2.out.size; omega) _ rfl ?_; intro g2 c3 w5 hown2 hgrow hat hlt2; rw [strs_snoc, ← HSN.out] at hown2; have OW2 := hid hown2; have BL2 := hid (grown_below (hbel.out.trans (HB2.out.mono hbel.out.size)) (own_step hown.out HB2.out) hgrow); clear hown2 hgrow hat hlt2))
        go_roundw
        case rel => exact ⟨k + 1, _, c3, hlt, by go_num, rfl, OW2, BL2⟩
        case measure => simp [intOf]; omega
      · obtain rfl : k = n := by omega
        have hj := HL.out
        rw [List.length_map, HZ.out] at hj
        have ho := hown.out
        rw [List.take_of_length_le (by rw [List.length_map, HZ.out]; omega)] at ho
        clear hlt hk
        have HJ := hid (joined_calls A2 c2 (xs.map hexT) k w.heap.size wr ho (by omega) (by omega))
        clear ho hj
        go_wp2_with (go_at_call 48; refine HJ.out.mono ?_; rintro e w2 ⟨rfl, hb⟩; have HB2 := hid hb; clear hb)
        go_ret2
        exact ⟨by rw [HNT.out]; rfl, hbel.out.trans (HB2.out.mono hbel.out.size)⟩
  · have HNT := hid (show numText xs = none by unfold numText; rw [if_neg (by omega)])
    clear ha hok hD hB hz
    go_enter Tryz.func31, Tryz.ntmps31
    go_wp2
    go_ret2
    exact ⟨by rw [HNT.out]; rfl, Below.refl _ _⟩
end Go.Proofs.YtkbfhooiloaokaaGreatDoor.Num
/-
  The list with a text, by the reference (l01Numbers).
-/
namespace Go.Proofs.YtkbfhooiloaokaaGreatDoor.Num
open Go.RowKit Go.Proofs.Fl Go.Proofs.Tx Go.Proofs.Dc
set_option linter.unusedVariables false
set_option linter.unusedSimpArgs false
theorem readL_none {l : List UInt8} (h : l = none4) : readL l = some [] := by unfold readL; rw [if_pos h]
theorem readL_long {l : List UInt8} (h : l ≠ none4) (h64 : ¬ (cut l).length ≤ 64) : readL l = none := by unfold readL; rw [if_neg h, if_neg (fun e => h64 e.1)]
theorem readL_bad {l : List UInt8} (h : l ≠ none4) (hb : okAll rdDec (cut l) = false) : readL l = none := by unfold readL; rw [if_neg h, if_neg (fun e => by rw [hb] at e; cases e.2)]
theorem readL_yes {l : List UInt8} (h : l ≠ none4) (h64 : (cut l).length ≤ 64) (hb : okAll rdDec (cut l) = true) : readL l = some (vals rdDec 0 (cut l)) := by unfold readL; rw [if_neg h, if_pos ⟨h64, hb⟩]
theorem apart_low {w1 : World} {B N c2 g : Nat} {A2 : Option Addr} {P : List (List UInt8)} (h : OwnT w1 B (.slice A2 N c2) N P) (hg : g < B) : Apart (some ⟨g, 0, none⟩) A2 := by
  intro x y hx hy
  simp only [Option.some.injEq, Addr.mk.injEq, and_true] at hx
  subst hx
  subst hy
  have := own_base h
  omega
end Go.Proofs.YtkbfhooiloaokaaGreatDoor.Num
/-
  The list of float32 with a text, by the program (ReadNumbers).
-/
namespace Go.Proofs.YtkbfhooiloaokaaGreatDoor.Num
open Go.RowKit Go.Proofs.Fl Go.Proofs.Hx Go.Proofs.Tx
set_option linter.unusedVariables false
set_option linter.unusedSimpArgs false
/-- what the program reads of the library's variables stands, whatever is done from block B on -/
structure Lib4 (B : Nat) (w : World) : Prop where
  deb : Deb B w
  errs : Errs B w
  maxl : MaxL B w
theorem Lib4.on {B : Nat} {w w1 : World} (h : Lib4 B w) (hb : Below B w w1) : Lib4 B w1 := ⟨h.deb.on hb, h.errs.on hb, h.maxl.on hb⟩
/-- the program's number of a piece of 8 bytes, whatever they are -/
def anyNum (p : List UInt8) : Nat := (rdU p).getD 0
theorem anyNum_lt {p : List UInt8} (h8 : p.length = 8) : anyNum p < 4294967296 := by
  unfold anyNum
  cases hr : rdU p with
  | some u => exact rdU_lt h8 hr
  | none => exact Nat.zero_lt_of_lt (by decide : 0 < 4294967296)
theorem anyNum_of {p : List UInt8} {n : Nat} (h : rdNum p = some n) : anyNum p = n := by
  obtain ⟨_, h1, _, _⟩ := rdNum_some h
  unfold anyNum
  rw [rdU_of h1]
  rfl
theorem rdNum_of_hexT {p : List UInt8} (h8 : p.length = 8) (h : hexT (anyNum p) = p) : rdNum p = some (anyNum p) := by
  have h1 := rdNum_hexT (anyNum p) (anyNum_lt h8)
  rw [h] at h1
  obtain ⟨_, h2, _, _⟩ := rdNum_some h1
  have h3 : anyNum p = cn .f32 (anyNum p) := by
    conv => lhs; unfold anyNum
    rw [rdU_of h2]
    rfl
  rw [h1, ← h3]
/-- all pieces are of 8 bytes -/
def all8 (ps : List (List UInt8)) : Bool := ps.all fun p => p.length == 8
theorem all8_take {ps : List (List UInt8)} {k : Nat} (hk : k < ps.length) (h : all8 (ps.take k) = true) (h8 : ps[k].length = 8) : all8 (ps.take (k + 1)) = true := by
  unfold all8 at *
  rw [List.take_succ_eq_append_getElem hk, List.all_append, h]
  simp [h8]
theorem all8_mem {ps : List (List UInt8)} (h : all8 ps = true) : ∀ p ∈ ps, p.length = 8 := by
  intro p hp
  have := List.all_eq_true.1 h p hp
  simpa using this
theorem any_take {ps : List (List UInt8)} {k : Nat} (hk : k < ps.length) : (ps.take (k + 1)).map anyNum = (ps.take k).map anyNum ++ [anyNum ps[k]] := by
  rw [List.take_succ_eq_append_getElem hk, List.map_append]
  rfl
/-- what the program answers for the numbers of all pieces: theirs is the text, or it is not -/
theorem join_cut (l : List UInt8) : Go.Lib.join (cut l) [44] = l := by
  induction l with
  | nil => rfl
  | cons b l ih =>
    cases hc : cut l with
    | nil => exact absurd hc (cut_ne l)
    | cons x r =>
      rw [hc] at ih
      rw [Go.Lib.join_cons] at ih
      by_cases h : b = 44
      · simp only [cut, h, if_true, hc]
        rw [Go.Lib.join_cons]
        simp only [Go.Lib.joinTail, List.map_cons, List.flatten_cons, List.nil_append] at ih ⊢
        rw [← ih]
        rfl
      · simp only [cut, h, if_false, hc, glue]
        rw [Go.Lib.join_cons, List.cons_append, ih]
theorem readN_ps (l : List UInt8) (h8 : all8 (ps l) = true) (h256 : (ps l).length ≤ 256) :
    readN l = if textJ (((ps l).map anyNum).map hexT) = l then some ((ps l).map anyNum) else none := by
  unfold ps at *
  by_cases hn : l = none4
  · rw [if_pos hn] at h8 h256 ⊢
    rw [readN_none hn, if_pos (by rw [hn]; rfl)]
    rfl
  · rw [if_neg hn] at h8 h256 ⊢
    have hm := all8_mem h8
    by_cases hok : okAll rdNum (cut l) = true
    · rw [readN_yes hn h256 hok]
      have hv : ∀ p ∈ cut l, rdNum p = some (anyNum p) ∧ hexT (anyNum p) = p := by
        intro p hp
        have h1 := List.all_eq_true.1 hok p hp
        obtain ⟨n, hn2⟩ := Option.isSome_iff_exists.1 h1
        have := anyNum_of hn2
        rw [this]
        exact ⟨hn2, hexT_rdNum hn2⟩
      have e1 : vals rdNum 0 (cut l) = (cut l).map anyNum := by
        unfold vals
        refine List.map_congr_left fun p hp => ?_
        rw [(hv p hp).1]
        rfl
      have e2 : ((cut l).map anyNum).map hexT = cut l := by
        rw [List.map_map]
        conv => rhs; rw [← List.map_id (cut l)]
        refine List.map_congr_left fun p hp => ?_
        exact (hv p hp).2
      rw [e1, e2, if_pos]
      unfold textJ
      rw [if_neg (cut_ne l), join_cut]
    · have hf : okAll rdNum (cut l) = false := by simpa using hok
      rw [readN_bad hn hf, if_neg]
      intro ht
      refine hok (List.all_eq_true.2 fun p hp => ?_)
      have hne : ((cut l).map anyNum).map hexT ≠ [] := by
        intro e
        simp at e
        exact cut_ne l e
      unfold textJ at ht
      rw [if_neg hne] at ht
      have hj := join_inj 8 [44] _ (cut l) (fun t ht2 => by
        obtain ⟨z, _, rfl⟩ := List.mem_map.1 ht2
        exact hexT_len z) hm (by simp) (ht.trans (join_cut l).symm)
      rw [List.map_map] at hj
      have hq : hexT (anyNum p) = p := by
        have := (List.map_inj_left (f := hexT ∘ anyNum) (g := id) (l := cut l)).1 (by rw [hj, List.map_id]) p hp
        exact this
      rw [rdNum_of_hexT (hm p hp) hq]
      rfl
/-- a piece that is not of 8 bytes: none -/
theorem readN_not8 (l : List UInt8) {k : Nat} (hk : k < (ps l).length) (h8 : (ps l)[k].length ≠ 8) : readN l = none := by
  by_cases hn : l = none4
  · have e : ps l = [] := by unfold ps; rw [if_pos hn]
    simp [e] at hk
  · have e : ps l = cut l := by unfold ps; rw [if_neg hn]
    refine readN_bad hn ?_
    unfold okAll
    rw [List.all_eq_false]
    refine ⟨(ps l)[k], ?_, by rw [rdNum_len h8]; decide⟩
    rw [← e]
    exact List.getElem_mem hk
/-- more than 256 pieces: none -/
theorem readN_many (l : List UInt8) (h : 256 < (ps l).length) : readN l = none := by
  by_cases hn : l = none4
  · have e : ps l = [] := by unfold ps; rw [if_pos hn]
    simp [e] at h
  · have e : ps l = cut l := by unfold ps; rw [if_neg hn]
    exact readN_long hn (by rw [← e]; omega)
end Go.Proofs.YtkbfhooiloaokaaGreatDoor.Num
/-
  The list of float32 with a text, by the program (ReadNumbers), walked.
-/
namespace Go.Proofs.YtkbfhooiloaokaaGreatDoor.Num
open Go.RowKit Go.Proofs.Fl Go.Proofs.Hx Go.Proofs.Tx
set_option linter.unusedVariables false
set_option linter.unusedSimpArgs false
set_option maxRecDepth 100000 in
set_option maxHeartbeats 6400000 in
theorem ReadNumbers_calls (s : ByteArray) (hs : s.size ≤ 1048576) (w : World) {B : Nat} (hB : B ≤ w.heap.size) (hL : Lib4 B w) :
    Calls Tryz.prog 32 #[.string s] w (RetV 28 (f32s ((readN s.data.toList).getD [])) (readN s.data.toList).isSome w) := by
  obtain ⟨i0, hi0, hz0, hz1, hz2⟩ := info_parts1 f32_info
  have hsl : s.data.toList.length = s.size := by simp
  have HN8 := hid (fun k (hk : k < (ps s.data.toList).length) => readN_not8 s.data.toList hk)
  have HMany := hid (readN_many s.data.toList)
  have HEnd := hid (readN_ps s.data.toList)
  have hpl0 := ps_len s.data.toList
  have HLB := hid (fun w' (h : Below w.heap.size w w') => hL.on (h.mono hB))
  have HBs := hid hB
  have HC := hid (fun w' (h : Below w.heap.size w w') => pieces_calls s hs w' (hL.maxl.on (h.mono hB)))
  have HO := hid (own_none (w := w) (base := w.heap.size) (e := 28) (Nat.le_refl _))
  have HB0 := hid ((Below.refl w.heap.size w).alloc (Nat.le_refl _) (.cells #[] 28))
  generalize ps s.data.toList = P at *
  generalize readN s.data.toList = R at *
  clear hL hB
  go_enter Tryz.func32, Tryz.ntmps32
  go_wp2_with (go_at_call 49; refine (HC.out _ HB0.out).mono ?_; rintro e w1 ⟨A2, c2, rfl, hown, hbel⟩; have HP := hid hown; have HO1 := hid (own_step HO.out hbel); have HAP := hid (apart_low (g := w.heap.size) hown (by simp)); have HB1 := hid (HB0.out.trans (hbel.mono HB0.out.size)); clear hown hbel)
  obtain ⟨N, hN⟩ : ∃ N, P.length = N := ⟨_, rfl⟩
  have HN := hid hN
  rw [hN] at HP hpl0
  simp only [hN]
  clear hN
  go_loopw [4, 6, 13] (fun o _ i wr => ∃ (k c3 : Nat) (A3 : Option Addr), k ≤ N ∧ k ≤ 256 ∧ i = .int .i64 k ∧ o = .slice A3 k c3 ∧ Hid (all8 (P.take k) = true) ∧ Hid (wr.ownsRow w.heap.size 28 1 (.slice A3 k c3) k (f32s ((P.take k).map anyNum))) ∧ Hid (OwnT wr (w.alloc (.cells #[] 28)).heap.size (.slice A2 N c2) N P) ∧ Hid (Apart A3 A2) ∧ Hid (Below w.heap.size w wr)) (fun _ _ i _ => N - (intOf i).toNat)
  case atStart => exact ⟨0, 0, _, Nat.zero_le _, Nat.zero_le _, rfl, rfl, rfl, HO1.out, HP, HAP, HB1⟩
  case round =>
    obtain ⟨k, c3, A3, hk, hk256, rfl, rfl, hall, hown, hpt, hap, hbel⟩ := hrel
    have hsz := hbel.out.size
    clear HP HAP HB1 HO1 HB0 HO
    by_cases hlt : k < N
    · have hkp : k < P.length := by have := HN.out; omega
      obtain ⟨g, rfl, hg, _, hc⟩ := hpt.out.cell hlt
      have hT := hid (all8_take hkp hall.out)
      have hF := hid (HN8.out k hkp)
      have hA := hid (any_take hkp)
      clear hg
      generalize P[k] = p at *
      obtain ⟨S, hS⟩ : ∃ S : ByteArray, S = ⟨p.toArray⟩ := ⟨_, rfl⟩
      have hSz : S.size = p.length := by rw [hS]; exact mk_size p
      have hSl : S.data.toList = p := by simp [hS]
      rw [← hS] at hc
      clear hS
      by_cases hp8 : p.length = 8
      · rw [hp8] at hSz
        by_cases h256 : k = 256
        · subst h256
          obtain rfl := HMany.out (by have := HN.out; omega)
          clear hp8 hSl
          go_wp2_with fail
          go_ret2
          exact RetV.none hbel.out
        · have hT2 := hid (hT.out hp8)
          have hL := HLB.out wr hbel.out
          have hBw := Nat.le_trans HBs.out hsz
          have HV := hid (readHex_calls S hSz wr (B := B) hBw hL.errs)
          rw [hSl, show (rdU p).getD 0 = anyNum p from rfl] at HV
          have hke : ((k : Int) == 256) = false := by simp; omega
          clear hp8 hSl hL hBw hT hF
          generalize anyNum p = x0 at *
          go_wp2_with (first
            | (go_at_call 50; refine HV.out.mono ?_; rintro e w2 ⟨rfl, hb⟩; have HB2 := hid hb; clear hb)
            | (at_builtin; refine wpList_append_lies _ rfl _ _ 52 rfl w.heap.size 28 i0 (Value.float .f32 0) 1 4 Tryz.underlying52 hi0 hz0 hz1 hz2 rfl (by decide) (.slice A3 k c3) k (f32s ((P.take k).map anyNum)) rfl ((own_step hown.out HB2.out).alloc _) ⟨_, 0, none⟩ 1 1 [.float .f32 x0] rfl rfl (any_new _ _ _) (f32s_oneCell [x0]) (by decide) (by unfold maxLen; omega) (by omega) (by simp; have := HB2.out.size; omega) _ rfl ?_; intro g2 c4 w5 hown3 hgrow hat hlt2; rw [f32s_snoc, ← hA.out] at hown3; have OW2 := hid hown3; have BL2 := hid (grown_below (hbel.out.trans (HB2.out.mono hsz)) (own_step hown.out HB2.out) hgrow); have PT2 := hid (keep_texts (own_step hpt.out HB2.out) (own_step hown.out HB2.out) hgrow hap.out); have AP2 := hid (apart_new (own_step hpt.out HB2.out) (own_step hown.out HB2.out) hap.out hat); clear hown3 hgrow hat hlt2))
          go_roundw
          case rel => exact ⟨k + 1, c4, _, hlt, by omega, by go_num, rfl, hT2, OW2, PT2, AP2, BL2⟩
          case measure => simp [intOf]; omega
      · obtain rfl := hF.out hp8
        have hb8 : ((S.size : Int) != 8) = true := by rw [bne_iff_ne]; omega
        clear hSl
        go_wp2_with fail
        go_ret2
        exact RetV.none hbel.out
    · obtain rfl : k = N := by omega
      have hall2 := hall.out
      have ho := hown.out
      rw [List.take_of_length_le (by rw [HN.out]; omega)] at hall2 ho
      have he := HEnd.out hall2 (by have := HN.out; omega)
      have hm := all8_mem hall2
      have hx : ((P.map anyNum).length) = k := by rw [List.length_map]; exact HN.out
      have hwf : ∀ x ∈ P.map anyNum, x < 4294967296 := by
        intro x hx2
        obtain ⟨p, hp, rfl⟩ := List.mem_map.1 hx2
        exact anyNum_lt (hm p hp)
      clear hm hall2 hlt hk
      have hnt : numText (P.map anyNum) = some (textJ ((P.map anyNum).map hexT)) := by unfold numText; rw [if_pos (by omega)]
      have HO2 := hid ho
      have hD := (HLB.out wr hbel.out).deb
      have hBw := Nat.le_trans HBs.out hsz
      have HT := hid (NumbersText_calls A3 k c3 (P.map anyNum) hx (by omega) hwf wr (B := B) hBw (ownV_any ho).1.rd hD)
      rw [hnt] at HT
      clear ho hx hwf hnt hD hBw
      generalize textJ ((P.map anyNum).map hexT) = txt at *
      generalize P.map anyNum = xs at *
      by_cases htx : txt = s.data.toList
      · rw [if_pos htx] at he
        have hse : (txt == s.toList) = true := by rw [ByteArray.toList_eq, htx]; exact beq_self_eq_true _
        have HE := hid he
        clear he htx
        go_wp2_with (go_at_call 31; refine HT.out.mono ?_; rintro e w2 ⟨rfl, hb⟩; have HB2 := hid hb; clear hb)
        go_ret2
        rw [HE.out]
        exact RetV.some (own_step HO2.out HB2.out) (hbel.out.trans (HB2.out.mono hsz))
      · rw [if_neg htx] at he
        have hse : (txt == s.toList) = false := by rw [ByteArray.toList_eq]; simpa using htx
        have HE := hid he
        clear he htx
        go_wp2_with (go_at_call 31; refine HT.out.mono ?_; rintro e w2 ⟨rfl, hb⟩; have HB2 := hid hb; clear hb)
        go_ret2
        rw [HE.out]
        exact RetV.none (hbel.out.trans (HB2.out.mono hsz))
end Go.Proofs.YtkbfhooiloaokaaGreatDoor.Num
/-
  The law on numbers, walked over the contracts of both texts.
-/
namespace Go.Proofs.YtkbfhooiloaokaaGreatDoor.fnNumbers
open Go.RowKit Go.Proofs.Fl Go.Proofs.YtkbfhooiloaokaaGreatDoor.Num Go.Proofs.Hx Go.Proofs.Tx
set_option linter.unusedVariables false
theorem text_len (zs : List Nat) (h : zs.length ≤ 100) : (textJ (zs.map hexT)).length ≤ 1048576 := by
  unfold textJ
  split
  · decide
  · have := join_le 8 (zs.map hexT) (hexT_le zs)
    rw [List.length_map] at this
    omega
theorem flush_lt {x : Nat} (h : x < 4294967296) : flush x < 4294967296 := by
  unfold flush
  split
  · split <;> decide
  · exact h
theorem sumF_lt (xs : List Nat) : sumF xs < 4294967296 := by
  unfold sumF
  have : ∀ (l : List Nat) (a : Nat), a < 4294967296 → l.foldl (fop .add .f32) a < 4294967296 := by
    intro l
    induction l with
    | nil => intro a h; exact h
    | cons b l ih => intro a _; exact ih _ (fop_lt32 _ _ _)
  exact this xs 0 (by decide)
set_option maxRecDepth 100000 in
set_option maxHeartbeats 6400000 in
theorem walk (AA : Option Addr) (n c : Nat) (xs : List Int) (hx : xs.length = n) (hnc : n ≤ c) (hc : c ≤ maxLen) {w : World} (ha : Rd w w.heap.size AA (xs.map (Value.int .u8))) (hwf : ∀ z ∈ xs, (Lit.int .u8 z).wf = true)
    (BB : Option Addr) (m d : Nat) (ys : List Int) (hy : ys.length = m) (hmd : m ≤ d) (hd : d ≤ maxLen) (hb : Rd w w.heap.size BB (ys.map (Value.int .u8))) (hwf2 : ∀ z ∈ ys, (Lit.int .u8 z).wf = true) (hL : Lib4 w.heap.size w) :
    Calls Tryz.prog 4 #[.slice AA n c, .slice BB m d] w fun e w' => e = .returned (.bool true) ∧ Below w.heap.size w w' := by
  have HLong := hid (b10Long_calls AA BB n c m d)
  have HX1 := hid (B10Number_calls AA n c xs hx (byte_wf hwf) (Nat.le_trans hnc hc) w ha)
  have HY1 := hid (fun w' (h : Below w.heap.size w w') => B10Number_calls BB m d ys hy (byte_wf hwf2) (Nat.le_trans hmd hd) w' ((hb.below h).more h.size))
  have HAt := hid (fun w' (h : Below w.heap.size w w') => b10At_calls AA n c xs hx hwf 0 12 (by decide) (by decide) (by decide) w' ((ha.below h).more h.size))
  have HNs := hid (fun w' (h : Below w.heap.size w w') k (hk : k ≤ 1000) => B10Numbers_calls k hk BB m d ys hy (byte_wf hwf2) (Nat.le_trans hmd hd) w' ((hb.below h).more h.size))
  have HLB := hid (fun w' (h : Below w.heap.size w w') => hL.on h)
  clear hx hnc hc ha hwf hy hmd hd hb hwf2 hL
  go_enter Tryz.func4, Tryz.ntmps4
  go_wp2_with fail
  refine (HLong.out _).mono ?_
  rintro e w' ⟨⟨b, rfl⟩, rfl⟩
  cases b
  · go_wp2_with fail
    refine HX1.out.mono ?_
    rintro e w1 ⟨⟨x, hx, rfl⟩, b1⟩
    have B1 := hid b1
    have HX := hid hx
    clear b1 hx HX1 HLong
    go_wp2_with fail
    refine (HY1.out _ B1.out).mono ?_
    rintro e w2 ⟨⟨y, hy, rfl⟩, b2⟩
    have B2 := hid (B1.out.trans (b2.mono B1.out.size))
    have HY := hid hy
    clear b2 hy HY1 B1
    go_wp2_with fail
    refine (BitsOf_is x HX.out _).mono ?_
    rintro e w3 ⟨rfl, n1, rfl⟩
    go_wp2_with fail
    refine (back_calls (cn .f32 x) (cn_lt HX.out) _).mono ?_
    rintro e w3 ⟨rfl, n2, rfl⟩
    go_wp2_with fail
    refine (FlushNumber_calls x HX.out _).mono ?_
    rintro e w3 ⟨rfl, n3, rfl⟩
    go_wp2_with fail
    refine (HAt.out _ (below_drewN B2.out _)).mono ?_
    rintro e w3 ⟨⟨k, hk, rfl⟩, rfl⟩
    go_wp2_with fail
    refine (HNs.out _ (below_drewN B2.out _) k (by omega)).mono ?_
    rintro e w3 ⟨A1, c1, zs, hzl, hzx, rfl, ho, b3⟩
    have B3 := hid ((below_drewN B2.out _).trans (b3.mono (below_drewN B2.out _).size))
    have HZL := hid hzl
    have HZX := hid hzx
    have HO := hid ho
    have HRD := hid ho.rd
    clear b3 hzl hzx ho HAt HNs B2
    go_wp2_with fail
    go_loopw [11, 12, 41] (fun s _ i wr => ∃ j mm v : Nat, j ≤ k ∧ i = .int .i64 j ∧ wr = w3.drewN mm ∧ s = .float .f32 v ∧ FEq .f32 v (sumF (zs.take j))) (fun _ _ i _ => k - (intOf i).toNat)
    case atStart => exact ⟨0, 0, 0, Nat.zero_le _, rfl, rfl, rfl, FEq.refl _ _⟩
    case round =>
      obtain ⟨j, mm, v, hj, rfl, rfl, rfl, hv⟩ := hrel
      by_cases hlt : j < k
      · have hkx : j < zs.length := by have := HZL.out; omega
        have HF := hid fun u hu => sumF_step (u := u) hkx hv hu
        obtain ⟨b1, o1, rfl, hb1, hc1⟩ := f32s_at HRD.out hkx
        generalize zs[j] = z at *
        clear hv
        go_wp2_with (refine wpList_fop rfl rfl rfl rfl ?_; intro u q hu)
        go_roundw
        case rel => exact ⟨j + 1, _, _, hlt, by go_num, rfl, rfl, HF.out _ ‹_›⟩
        case measure => simp [intOf]; omega
      · obtain rfl : j = k := by omega
        rw [sumF_end zs j j HZL.out (Nat.le_refl _)] at hv
        have HV := hid hv
        clear hv hlt hj
        have hk9 : zs.length ≤ 256 := by have := HZL.out; omega
        have B4 := hid (below_drewN B3.out mm)
        have HO4 := hid (show OwnV (w3.drewN mm) 28 A1 j c1 (f32s zs) from HO.out.step (below_drewN (Below.refl _ _) mm))
        clear B3 HO HRD
        generalize w3.drewN mm = w4 at *
        go_wp2_with fail
        refine (SumNumbers_yes A1 j c1 zs HZL.out (by omega) _ HO4.out.rd).mono ?_
        rintro e w5 ⟨v4, n4, rfl, hv4, rfl⟩
        have HV4 := hid hv4
        have B5 := hid (below_drewN B4.out n4)
        have HO5 := hid (show OwnV (w4.drewN n4) 28 A1 j c1 (f32s zs) from HO4.out.step (below_drewN (Below.refl _ _) n4))
        clear hv4 B4 HO4
        generalize w4.drewN n4 = w5 at *
        have hnt : numText zs = some (textJ (zs.map hexT)) := by unfold numText; rw [if_pos hk9]
        have HT := hid (NumbersText_calls A1 j c1 zs HZL.out (by omega) HZX.out w5 (B := w'.heap.size) B5.out.size HO5.out.rd (HLB.out _ B5.out).deb)
        rw [hnt] at HT
        have HTL := hid (text_len zs (by have := HZL.out; omega))
        have HRN := hid (readN_text zs hk9 HZX.out)
        clear hnt
        generalize textJ (zs.map hexT) = txt at *
        go_wp2_with fail
        refine HT.out.mono ?_
        rintro e w6 ⟨rfl, b6⟩
        have B6 := hid (B5.out.trans (b6.mono B5.out.size))
        have HO6 := hid (HO5.out.step b6)
        have HR := hid (ReadNumbers_calls ⟨txt.toArray⟩ (by rw [mk_size]; exact HTL.out) w6 (B := w'.heap.size) B6.out.size (HLB.out _ B6.out))
        rw [show (⟨txt.toArray⟩ : ByteArray).data.toList = txt by simp, HRN.out] at HR
        unfold RetV at HR
        simp only [Option.getD_some, Option.isSome_some, f32s_length, List.length_map, HZL.out] at HR
        clear b6 HT B5 HO5 HTL HRN
        go_wp2_with fail
        refine HR.out.mono ?_
        rintro e w7 ⟨A2, c2, rfl, o7, _, b7⟩
        have B7 := hid (B6.out.trans (b7.mono B6.out.size))
        have HL7 := hid (HO6.out.step b7).rd
        have HR7 := hid o7.rd
        clear o7 b7 HR B6 HO6
        have hsb : (subB x == !subB x) = false := by cases subB x <;> rfl
        have HS1 := hid (Same_any (cn .f32 x) x (.inr (cn_lt HX.out)) (.inr HX.out) true (same_feq (cn_cn x)))
        have HS2 := hid (IsSubnormal_calls (flush x))
        rw [sub_flush HX.out] at HS2
        have HS3 := hid (IsSubnormal_calls x)
        have HS4 := hid (Same_any x (flush x) (.inr HX.out) (.inr (flush_lt HX.out)) _ (sub_same HX.out))
        have HSF := hid (show sumF zs < 4294967296 from sumF_lt zs)
        have HS5 := hid (Same_any v4 v (W32.of_feq HV4.out HSF.out) (W32.of_feq HV.out HSF.out) true (same_feq (HV4.out.trans HV.out.symm)))
        generalize subB x = sb at *
        go_wp2_with fail
        refine (HS1.out _).mono ?_
        rintro e w8 ⟨rfl, n8, rfl⟩
        go_wp2_with fail
        refine (HS2.out _).mono ?_
        rintro e w8 ⟨rfl, n9, rfl⟩
        go_wp2_with fail
        refine (HS3.out _).mono ?_
        rintro e w8 ⟨rfl, n10, rfl⟩
        go_wp2_with fail
        refine (HS4.out _).mono ?_
        rintro e w8 ⟨rfl, n11, rfl⟩
        go_wp2_with fail
        refine (HS5.out _).mono ?_
        rintro e w8 ⟨rfl, n12, rfl⟩
        go_wp2_with fail
        obtain ⟨r, hr, hang⟩ := fnExactAngleTurns.il_any y x fnar_lt
        have HA := hid hang
        have HAO := hid (AngleOf_is x y r hang)
        have HRL := hid hr
        have HQ : Hid (∀ v u : Nat, FEq .f32 v r → FEq .f32 u r → ∀ w, Calls Tryz.prog 10 #[.float .f32 v, .float .f32 u] w (Ret (.bool true) w)) := hid (fun v u hv hu => Same_any v u (W32.of_feq hv hr) (W32.of_feq hu hr) true (same_feq (hv.trans hu.symm)))
        have HN : Hid (∀ v, FEq .f64 v (fwide x) → ∀ w, Calls Tryz.prog 36 #[.float .f64 v] w (RetF .f32 x w)) := hid (fun v hv => NarrowNumber_is x v HX.out hv)
        have HQ2 : Hid (∀ v : Nat, FEq .f32 v x → ∀ w, Calls Tryz.prog 10 #[.float .f32 v, .float .f32 x] w (Ret (.bool true) w)) := hid (fun v hv => Same_any v x (W32.of_feq hv HX.out) (.inr HX.out) true (same_feq hv))
        have oe : (FloatKind.f32.format.order 1065353216 1065353216 == some Ordering.eq) = true := by decide +kernel
        clear hang hr HS1 HS2 HS3 HS4 HS5
        generalize n8 + n9 + n10 + n11 + n12 = nn at *
        go_loopw [19, 113] (fun _ i wr => ∃ q mm : Nat, q ≤ j ∧ i = .int .i64 q ∧ wr = w7.drewN mm) (fun _ i _ => j - (intOf i).toNat)
        case atStart => exact ⟨0, _, Nat.zero_le _, rfl, rfl⟩
        case round =>
          obtain ⟨q, mm, hq, rfl, rfl⟩ := hrel
          by_cases hlt : q < j
          · have hkx : q < zs.length := by have := HZL.out; omega
            have hky : q < (zs.map (cn .f32)).length := by rw [List.length_map]; exact hkx
            have hzx := HZX.out _ (List.getElem_mem hkx)
            obtain ⟨b1, o1, rfl, hb1, hc1⟩ := f32s_at (show Rd (w7.drewN mm) _ _ _ from HL7.out) hkx
            obtain ⟨b2, o2, rfl, hb2, hc2⟩ := f32s_at (show Rd (w7.drewN mm) _ _ _ from HR7.out) hky
            rw [List.getElem_map] at hc2
            have HSQ := hid (Same_any (cn .f32 zs[q]) zs[q] (.inr (cn_lt hzx)) (.inr hzx) true (same_feq (cn_cn zs[q])))
            clear hzx
            generalize cn .f32 zs[q] = z' at *
            generalize zs[q] = z at *
            have hqi : (q : Int) < (j : Int) := by omega
            have HWZ := hid (show ∀ k, (w7.drewN mm).drewN k = w7.drewN (mm + k) from fun k => World.drewN_drewN _ _ _)
            generalize w7.drewN mm = wz at *
            go_wp2
            go_quiet ((go_at_call 10; exact Calls.quiet_of (HSQ.out _)))
            go_wp2
            go_roundw
            case rel => exact ⟨q + 1, _, hlt, by go_num, HWZ.out _⟩
            case measure => simp [intOf]; omega
          · obtain rfl : q = j := by omega
            have B8 := hid (below_drewN B7.out mm)
            clear B7 HL7 HR7 HZL HZX
            generalize w7.drewN mm = w8 at *
            go_wp2_with fail
            refine (HA.out _).mono ?_
            rintro e w9 ⟨v5, m1, rfl, hv5, rfl⟩
            have HV5 := hid hv5
            clear hv5
            go_wp2_with fail
            refine (HAO.out _).mono ?_
            rintro e w9 ⟨v6, m2, rfl, hv6, rfl⟩
            have HV6 := hid hv6
            clear hv6
            go_wp2_with fail
            refine (HQ.out _ _ HV5.out HV6.out _).mono ?_
            rintro e w9 ⟨rfl, m3, rfl⟩
            go_wp2_with (refine wpList_wide rfl rfl (by kernel_rfl) Tryz.underlying46 ?_; intro v7 m4 hv7)
            have HV7 := hid hv7
            clear hv7
            refine (HN.out _ HV7.out _).mono ?_
            rintro e w9 ⟨v8, m5, rfl, hv8, rfl⟩
            have HV8 := hid hv8
            clear hv8
            go_wp2_with fail
            refine (HQ2.out _ HV8.out _).mono ?_
            rintro e w9 ⟨rfl, m6, rfl⟩
            go_wp2_with fail
            refine (Sine_is _).mono ?_
            rintro e w9 ⟨rfl, m7, rfl⟩
            go_wp2
            go_ret
            exact ⟨rfl, below_drewN B8.out _⟩
  · go_wp2
    go_ret
    exact ⟨rfl, Below.refl _ _⟩
end Go.Proofs.YtkbfhooiloaokaaGreatDoor.fnNumbers
/-
  The wrap of a row that lists variables, with the world's shape handed to the contract too. Over no program.
-/
namespace Go.Proofs.Fl
open Go
variable {H : Type} {enc : TypeId × Value → H}
theorem returns_and_shaped {a : Assume} {C : Checked} {os : Os} {f : FuncId} {fn : Func} {s : ChangeSpec} {conds : List PathCond} {apart fresh handsOn again : Bool} {X : World → Array Value → Prop}
    (hX : ∀ (w w' : World) (args : Array Value), w.heap = w'.heap → X w args → X w' args)
    (own : ownKnob C.prog.godebug = none) (started : os.Started) (noInit : C.prog.inits.idxOf? f = none) (hfn : C.prog.funcs[f]? = some fn)
    (witness : ∃ (w : World) (tape : Tape) (i : Input), w.os = os ∧ (w.forCall tape i).Shaped C.prog ∧ i.vars = [] ∧ Input.okWide C.prog (w.forCall tape i) .any w.heap.size f i ∧
      ((s.pre enc C.prog fn conds apart (w.forCall tape i).memory i.args ∧ X (w.forCall tape i).memory i.args) ∧ sizedMet enc C.prog fn (OpenSpec.ofChange s) apart (w.forCall tape i).memory i.args) ∧ a.holds C.prog (lone (Frame.enter C.prog f i.args .normal) [] (w.forCall tape i)))
    (contract : ∀ (W : World) (base : Nat) (args : Array Value) (ds gs : List (DataW H)) (before : List MemPlace),
      (∀ (j : Nat) t v, fn.params[j]? = some t → args[j]? = some v → Value.okWide C.prog W .any base t v) →
      DataW.Whole enc C.prog fn.params.toList s.vars apart W args.toList ds gs before →
      conds.all (PathCond.test C.prog ⟨fn.params.toList, ds, s.plain.varTypes C.prog, gs⟩) = true →
      X W args → W.ShapedOpen C.prog →
      Calls C.prog f args W fun e W' => ∃ v, e = .returned v ∧ s.post enc C.prog fn apart fresh handsOn again W args v W') :
    ReturnsInHanded a C os f .any (fun w args => (s.pre enc C.prog fn conds apart w args ∧ X w args) ∧ sizedMet enc C.prog fn (OpenSpec.ofChange s) apart w args) (s.post enc C.prog fn apart fresh handsOn again) := by
  refine returnsInHanded_of_calls own started noInit witness ?_
  intro w tape i _ hsh _ hok hpre _
  obtain ⟨_, _, _, fn', hfn', _, _, _, _, hval⟩ := hok
  have e : fn' = fn := Option.some.inj (hfn'.symm.trans hfn)
  subst e
  obtain ⟨⟨⟨ds, gs, before, hw, hc⟩, hx⟩, _⟩ := hpre
  have hw' := DataW.Whole.of_heap (w' := w.forCall tape i) (by rfl) hw
  refine (contract (w.forCall tape i) w.heap.size i.args ds gs before hval hw' hc (hX _ _ _ (by rfl) hx) hsh).mono fun e W' ⟨v, he, hp⟩ => ?_
  subst he
  exact ChangeSpec.post_blind hp
end Go.Proofs.Fl
/-
  FnNumbers: whatever the input, the law returns true and leaves its arguments as they were (statement Rows.FnNumbersSaid). No condition of its own.
-/
namespace Go.Proofs.YtkbfhooiloaokaaGreatDoor.fnNumbers
open Go.ChangeShapes Go.WideShapes Go.ChangeAt Go.RowKit
open Go.ChangeMaps (open_string shut_string)
set_option linter.unusedVariables false
theorem own : ownKnob Tryz.prog.godebug = none := by kernel_rfl
theorem laidOut : laidOutB Tryz.prog = true := by kernel_rfl
abbrev laid0 : List (String × DataW Unit) := Rows.fnNumbersRow.laid
/-- the heap that the door's run leaves, the pinned table laid in it -/
noncomputable def start (os : Os) : World :=
  { World.doorLaid Tryz.prog 400 os with heap := (World.doorLaid Tryz.prog 400 os).heap.modify 7 fun
      | .cells _ t frozen => .cells (Go.Pinned.utf8FirstZ.map fun (z : Nat) => Value.int .u8 (z : Int)).toArray t frozen
      | o => o }
theorem door_met (os : Os) (args : Array Value) : laidMet Tryz.prog laid0 ((start os).forCall (fun _ _ => 0) ⟨#[], args, []⟩).memory :=
  laidMet_of_run' 8 (by kernel_rfl) (by kernel_rfl)
theorem gPow : Tryz.prog.globalNamed "internal/strconv.uint64pow10" = some 1 := by kernel_rfl
theorem tPow : (Tryz.prog.globals[1]?).map (·.type) = some 137 := by kernel_rfl
theorem hT_of {W : World} (h : laidMet Tryz.prog laid0 W) : Go.Proofs.YtkbfhooiloaokaaGreatDoor.Num.Tab W.heap.size W :=
  Lib.tabBelow_of_tabIs (Lib.tabIs_of_head gPow tPow Tryz.underlying137 Tryz.underlying85 (by kernel_rfl) (by kernel_rfl) h.tail.tail)
theorem gDeb : Tryz.prog.globalNamed "math/bits.deBruijn64tab" = some 6 := by kernel_rfl
theorem tDeb : (Tryz.prog.globals[6]?).map (·.type) = some 157 := by kernel_rfl
theorem hD_of {W : World} (h : laidMet Tryz.prog laid0 W) : Go.Proofs.YtkbfhooiloaokaaGreatDoor.Num.Deb W.heap.size W :=
  Go.Proofs.YtkbfhooiloaokaaGreatDoor.Num.Deb.of ((Lib.tabIs_of_head (zs := [0, 1, 56, 2, 57, 49, 28, 3, 61, 58, 42, 50, 38, 29, 17, 4, 62, 47, 59, 36, 45, 43, 51, 22, 53, 39, 33, 30, 24, 18, 12, 5, 63, 55, 48, 27, 60, 41, 37, 16, 46, 35, 44, 21, 52, 32, 23, 11, 54, 26, 40, 15, 34, 20, 31, 10, 25, 14, 19, 9, 13, 8, 7, 6]) gDeb tDeb Tryz.underlying157 Tryz.underlying5 (by kernel_rfl) (by kernel_rfl) h.tail).cell gDeb 15 (by decide))
theorem gErrSyntax : Tryz.prog.globalNamed "strconv.ErrSyntax" = some 2 := by kernel_rfl
theorem tErrSyntax : (Tryz.prog.globals[2]?).map (·.type) = some 94 := by kernel_rfl
theorem gErrRange : Tryz.prog.globalNamed "strconv.ErrRange" = some 3 := by kernel_rfl
theorem tErrRange : (Tryz.prog.globals[3]?).map (·.type) = some 94 := by kernel_rfl
theorem star : "*" ++ "errors.errorString" = "*errors.errorString" := by decide
theorem rowES (u : TypeId) (h : Tryz.prog.typeName? 3 u = some "*errors.errorString") : u = 153 :=
  typeName_ptr_named (nm := "errors.errorString") (by rw [star]; kernel_rfl) (by kernel_rfl) (by decide) u (by rw [star]; exact h)
theorem hErrSyntax_of {W : World} (h : laidMet Tryz.prog laid0 W) : ∃ a : Addr, W.var? Tryz.prog "strconv.ErrSyntax" = some #[.iface 153 (.pointer (some a))] :=
  let ⟨a, _, hv, _⟩ := laid_sentinel (h.tail.tail.tail.tail.tail) gErrSyntax tErrSyntax Tryz.underlying94 rowES Tryz.underlying153 Tryz.underlying155 rfl rfl Tryz.underlying9 (by kernel_rfl) (by kernel_rfl)
  ⟨a, hv⟩
theorem hErrRange_of {W : World} (h : laidMet Tryz.prog laid0 W) : ∃ a : Addr, W.var? Tryz.prog "strconv.ErrRange" = some #[.iface 153 (.pointer (some a))] :=
  let ⟨a, _, hv, _⟩ := laid_sentinel (h.tail.tail.tail.tail) gErrRange tErrRange Tryz.underlying94 rowES Tryz.underlying153 Tryz.underlying155 rfl rfl Tryz.underlying9 (by kernel_rfl) (by kernel_rfl)
  ⟨a, hv⟩
theorem hE_of {W : World} (h : laidMet Tryz.prog laid0 W) : Go.Proofs.YtkbfhooiloaokaaGreatDoor.Num.Errs W.heap.size W := Go.Proofs.YtkbfhooiloaokaaGreatDoor.Num.Errs.of (hErrSyntax_of h) (hErrRange_of h)
theorem hM_of {W : World} (h : W.ShapedOpen Tryz.prog) : Go.Proofs.YtkbfhooiloaokaaGreatDoor.Num.MaxL W.heap.size W :=
  Go.Proofs.YtkbfhooiloaokaaGreatDoor.Num.MaxL.of (Go.Proofs.cell_of_shapedOpen_int (zero := #[.int .i64 0]) (t := 3) h (of_decide_eq_true (by kernel_rfl)) (by kernel_rfl) rfl (by kernel_rfl) (by kernel_rfl) Tryz.underlying3)
set_option maxRecDepth 100000 in
theorem lifted (os : Os) (started : os.Started) (H : Type) (enc : TypeId × Value → H) :
    ReturnsInHanded {} Tryz.checked os 4 .any (fun w args => (Rows.fnNumbersSpec.pre enc Tryz.prog Tryz.f4 Rows.fnNumbersRow.domain false w args ∧ laidMet Tryz.prog laid0 w) ∧ sizedMet enc Tryz.prog Tryz.f4 (OpenSpec.ofChange Rows.fnNumbersSpec) false w args) (Rows.fnNumbersSpec.post enc Tryz.prog Tryz.f4 false true false false) := by
  refine Go.Proofs.Fl.returns_and_shaped (C := Tryz.checked) (X := fun w _ => laidMet Tryz.prog laid0 w) (fun _ _ _ hh h => h.of_heap hh) own started (by kernel_rfl) Tryz.func4
    (ChangeSpec.witness_shaped (enc := enc) (C := Tryz.checked) (os := os) (X := fun w _ => laidMet Tryz.prog laid0 w) false (start os) #[.slice none 0 0, .slice none 0 0] 8 rfl (World.shaped_of_RefB (by kernel_rfl) (by kernel_rfl)) (by kernel_rfl) (by kernel_rfl) (by kernel_rfl) (door_met os _)) ?_
  intro W base args ds gs before hval0 hW hcnd hL hS
  have hval : ∀ (j : Nat) t v, Tryz.f4.params[j]? = some t → args[j]? = some v → Value.okWide Tryz.prog W .any base t v := hval0
  have hW' := hW
  obtain ⟨p, q, hA0, hV, rfl, hfz, hnd⟩ := hW
  have hA : DataW.TrodAll enc Tryz.prog W 0 (fun _ => true) true Tryz.f4.params.toList args.toList ds p := hA0
  rw [Tryz.params4] at hA hval
  obtain ⟨v0, vs0, d0, ds0, p0, q0, hargs, rfl, rfl, h0, r0⟩ := trodAll_cons hA
  obtain ⟨v1, vs1, d1, ds1, p1, q1, rfl, rfl, rfl, h1, r1⟩ := trodAll_cons r0
  obtain ⟨rfl, rfl, rfl⟩ := trodAll_nil r1
  obtain rfl : args = #[v0, v1] := by cases args; simp_all
  obtain ⟨rfl, rfl⟩ := trodVars_none hV
  have k0 := h0
  have lt0 : ∀ x ∈ p0, x.block < W.heap.size := by obtain ⟨m, hm⟩ := k0; exact DataW.trod_lt m _ _ _ hm
  obtain ⟨A0, n0, c0, z0, rfl, hl0, hc0, hm0, rd0, wf0⟩ := Go.Proofs.Fl.open_bytes Tryz.underlying22 Tryz.underlying5 (by kernel_rfl) (hval 0 22 v0 rfl rfl) h0
  have k1 := h1
  have lt1 : ∀ x ∈ p1, x.block < W.heap.size := by obtain ⟨m, hm⟩ := k1; exact DataW.trod_lt m _ _ _ hm
  obtain ⟨A1, n1, c1, z1, rfl, hl1, hc1, hm1, rd1, wf1⟩ := Go.Proofs.Fl.open_bytes Tryz.underlying22 Tryz.underlying5 (by kernel_rfl) (hval 1 22 v1 rfl rfl) h1
  clear hA0 hval0
  simp only [List.append_nil] at hW'
  refine (walk A0 n0 c0 z0 hl0 hc0 hm0 rd0 wf0 A1 n1 c1 z1 hl1 hc1 hm1 rd1 wf1 ⟨hD_of hL, hE_of hL, hM_of hS⟩).mono fun e W' ⟨he, bel⟩ => ?_
  subst he
  exact ⟨_, rfl, _, _, _, [], _, [], hW', trodAll_mk1 (shut_bool Tryz.underlying4 _), (trodAll_cons_mk (Below.trod laidOut (by kernel_rfl) (of_decide_eq_true (by kernel_rfl)) k0 bel lt0) (trodAll_cons_mk (Below.trod laidOut (by kernel_rfl) (of_decide_eq_true (by kernel_rfl)) k1 bel lt1) trodAll_mk0)), rfl, bel.frame _, fun h => by cases h⟩
theorem over : Rows.fnNumbersRow.holds Tryz.pinned (OpenSpec.ofChange Rows.fnNumbersSpec) :=
  OpenClaim.holds_of_wide 4 Tryz.f4 rfl rfl rfl rfl rfl rfl rfl ⟨rfl, rfl, rfl, rfl, rfl⟩ rfl rfl rfl rfl rfl (by kernel_rfl) Tryz.func4 (by kernel_rfl)
    (of_decide_eq_true (by kernel_rfl)) (by unfold Func.isWrapper; first | (rw [if_pos (by decide +kernel)]; kernel_rfl) | (rw [if_neg (by decide +kernel)]; exact ⟨rfl, rfl⟩))
    (fun os started H enc _ => lifted os started H enc)
theorem said : Rows.FnNumbersSaid := over
theorem proved : Rows.FnNumbersCardSaid :=
  Claim7.holds_tied_plain_at .later [] [.data, .data, .data, .data, .sentinel, .sentinel, .pinned] true (true, "1e7c4f0fc6c30b9b6001aa5842116efbae87ba86d4a048d72d46484593a9106f") true
    said (fun _ h => by cases h) (by kernel_rfl) (fun _ h => by cases h) fnNumbers_row_tie rfl ⟨rfl, rfl⟩ (by kernel_rfl) rfl
    (fun f fn hf hfn => by
      obtain rfl : f = 4 := Option.some.inj ((show Tryz.prog.funcNamed "loop.example/g01357/laws.FnNumbers" = some 4 by kernel_rfl).symm.trans hf) |>.symm
      obtain rfl : fn = Tryz.f4 := (Option.some.inj (Tryz.func4.symm.trans hfn)).symm
      exact ⟨by kernel_rfl, fun j t ht => by
        rw [Tryz.params4] at ht
        have hm : t ∈ [22, 22] := by simpa using Array.mem_of_getElem? ht
        have hall : ([22, 22].all fun u => !Tryz.prog.wantsStandIn u) = true := by kernel_rfl
        exact (show Tryz.prog.wantsStandIn t = false by simpa using List.all_eq_true.1 hall t hm)⟩)
    (by kernel_rfl)
#print axioms proved
end Go.Proofs.YtkbfhooiloaokaaGreatDoor.fnNumbers
