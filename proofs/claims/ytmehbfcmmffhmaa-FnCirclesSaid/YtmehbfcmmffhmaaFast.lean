/-
  Sums, products and quotients of float64 told in few steps, so that the kernel counts them fast. Over no program.
-/
import Derived.Test.YtmehbfcmmffhmaaLogIn
namespace Go.Proofs.Fl
open Go Ieee Go.RowKit
set_option linter.unusedVariables false
/-- a number is counted out ahead of what is made of it -/
def st {α : Type} (n : Nat) (f : Nat → α) : α := Nat.rec (motive := fun _ => α) (f (nat_lit 0)) (fun m _ => f (Nat.succ m)) n
theorem st_eq {α : Type} (n : Nat) (f : Nat → α) : st n f = f n := by cases n <;> rfl
theorem ble_t {a b : Nat} (h : a ≤ b) : Nat.ble a b = true := by rw [Nat.ble_eq]; exact h
theorem ble_f {a b : Nat} (h : ¬ a ≤ b) : Nat.ble a b = false := by rw [← Bool.not_eq_true, Nat.ble_eq]; exact h
theorem cand (a b : Bool) : cond a b false = (a && b) := by cases a <;> rfl
def rndB (m L P : Nat) : Nat :=
  st (Nat.sub (Nat.add P L) (nat_lit 104)) fun q =>
  cond (Nat.ble L (nat_lit 52)) (Nat.add (Nat.mul q (nat_lit 4503599627370496)) (Nat.mul m (Nat.pow (nat_lit 2) (Nat.sub (nat_lit 52) L))))
   (st (Nat.pow (nat_lit 2) (Nat.sub L (nat_lit 52))) fun G => st (Nat.div m G) fun low => st (Nat.mul (nat_lit 2) (Nat.mod m G)) fun r =>
     Nat.add (Nat.mul q (nat_lit 4503599627370496)) (Nat.add low (cond (Nat.ble r G) (cond (Nat.beq r G) (Nat.mod low (nat_lit 2)) (nat_lit 0)) (nat_lit 1))))
theorem rndB_told (m L P : Nat) : rndB m L P = cond (Nat.ble L 52) ((P + L - 104) * 4503599627370496 + m * 2 ^ (52 - L)) ((P + L - 104) * 4503599627370496 + (m / 2 ^ (L - 52) + cond (Nat.ble (2 * (m % 2 ^ (L - 52))) (2 ^ (L - 52))) (cond (Nat.beq (2 * (m % 2 ^ (L - 52))) (2 ^ (L - 52))) (m / 2 ^ (L - 52) % 2) 0) 1)) := by
  unfold rndB
  simp only [st_eq]
  rfl
theorem cut_zero (n : Nat) : Toward.even.cut false n 0 = n := by
  unfold Toward.cut
  simp only [Nat.zero_min, Nat.shiftLeft_zero, Nat.div_one, Nat.mod_one, Nat.mul_zero]
  simp
theorem cut_more (n d : Nat) (h : d ≤ n.log2 + 2) : Toward.even.cut false n d = n / 2 ^ d + cond (Nat.ble (2 * (n % 2 ^ d)) (2 ^ d)) (cond (Nat.beq (2 * (n % 2 ^ d)) (2 ^ d)) (n / 2 ^ d % 2) 0) 1 := by
  unfold Toward.cut
  simp only [Nat.min_eq_left h, Nat.shiftLeft_eq, Nat.one_mul]
  congr 1
  generalize 2 ^ d = G
  generalize n % G = r
  have h2 := Nat.mod_lt (n / G) (show 0 < 2 by omega)
  generalize n / G % 2 = z at *
  rcases Nat.lt_trichotomy (2 * r) G with h | h | h
  · have e1 : Nat.ble (2 * r) G = true := ble_t (by omega)
    have e2 : Nat.beq (2 * r) G = false := by rw [← Bool.not_eq_true, Nat.beq_eq]; omega
    rw [e1, e2]
    have c1 : decide (G < 2 * r) = false := by simp; omega
    have c2 : (G == 2 * r) = false := by simp; omega
    rw [c1, c2]
    rfl
  · have e1 : Nat.ble (2 * r) G = true := ble_t (by omega)
    have e2 : Nat.beq (2 * r) G = true := by rw [Nat.beq_eq]; omega
    rw [e1, e2]
    have c1 : decide (G < 2 * r) = false := by simp; omega
    have c2 : (G == 2 * r) = true := by simp; omega
    rw [c1, c2]
    rcases (show z = 0 ∨ z = 1 by omega) with rfl | rfl <;> rfl
  · have e1 : Nat.ble (2 * r) G = false := ble_f (by omega)
    rw [e1]
    have c1 : decide (G < 2 * r) = true := by simp; omega
    rw [c1]
    rfl
theorem fb52 : Ieee.double.fractionBits = 52 := rfl
theorem bin64 : Ieee.double.binade = 4503599627370496 := by decide +kernel
theorem rndB_eq (m L P : Nat) (hL : m.log2 = L) (h : 104 ≤ P + L) : nearRung D m ((P : Int) - 1126) = rndB m L P := by
  rw [rndB_told]
  unfold nearRung
  rw [show D.leastPlace = -1074 from least64, show D.fractionBits = 52 from fb52, show D.binade = 4503599627370496 from bin64]
  simp only [hL]
  rw [show max ((P : Int) - 1126 + (L : Int) - ((52 : Nat) : Int)) (-1074) = (P : Int) + L - 1178 by omega]
  rw [show ((P : Int) + L - 1178 - -1074).toNat = P + L - 104 by omega, show ((P : Int) - 1126 - ((P : Int) + L - 1178)).toNat = 52 - L by omega, show ((P : Int) + L - 1178 - ((P : Int) - 1126)).toNat = L - 52 by omega]
  by_cases hl : L ≤ 52
  · rw [show Nat.ble L 52 = true from ble_t hl, show L - 52 = 0 by omega, cut_zero, Nat.shiftLeft_eq]
    rfl
  · rw [show Nat.ble L 52 = false from ble_f (by omega), show 52 - L = 0 by omega, Nat.shiftLeft_zero, cut_more _ _ (by omega)]
    rfl
/-- a word of a sign and a rung that is at most infinity's -/
def wordB (s : Bool) (R : Nat) : Nat := st R fun R => st (cond (Nat.ble R (nat_lit 9218868437227405312)) R (nat_lit 9218868437227405312)) fun R => cond s (Nat.add (nat_lit 9223372036854775808) R) R
theorem wordB_eq (s : Bool) (R : Nat) : D.word s (min R D.infRung) = wordB s R := by
  have e0 : wordB s R = cond s (9223372036854775808 + cond (Nat.ble R 9218868437227405312) R 9218868437227405312) (cond (Nat.ble R 9218868437227405312) R 9218868437227405312) := by
    unfold wordB
    simp only [st_eq]
    rfl
  rw [e0, show D.infRung = 9218868437227405312 from inf64]
  have e : cond (Nat.ble R 9218868437227405312) R 9218868437227405312 = min R 9218868437227405312 := by
    by_cases h : R ≤ 9218868437227405312
    · rw [show Nat.ble R 9218868437227405312 = true from ble_t h, Nat.min_eq_left h]; rfl
    · rw [show Nat.ble R 9218868437227405312 = false by rw [← Bool.not_eq_true, Nat.ble_eq]; exact h, Nat.min_eq_right (by omega)]; rfl
  rw [e]
  unfold Format.word
  rw [show D.signWeight = 9223372036854775808 from sw64]
  cases s <;> rfl
theorem near_word (s : Bool) (m L P : Nat) (hm : m ≠ 0) (hL : m.log2 = L) (h : 104 ≤ P + L) : D.nearest s m ((P : Int) - 1126) = wordB s (rndB m L P) := by
  rw [nearest_eq _ _ _ _ hm, rndB_eq m L P hL h, wordB_eq]
/-- the digits of a number of k or k + 1 -/
def lgB (k b : Nat) : Nat := cond (Nat.ble (Nat.pow (nat_lit 2) (Nat.succ k)) b) (Nat.succ k) k
theorem lgB_eq {k b : Nat} (h1 : 2 ^ k ≤ b) (h2 : b < 2 ^ (k + 2)) : b.log2 = lgB k b := by
  unfold lgB
  have hb : b ≠ 0 := by have := Nat.two_pow_pos k; omega
  by_cases h : 2 ^ (k + 1) ≤ b
  · rw [show Nat.ble (Nat.pow 2 (Nat.succ k)) b = true from ble_t h]
    exact (Nat.log2_eq_iff hb).2 ⟨h, h2⟩
  · rw [show Nat.ble (Nat.pow 2 (Nat.succ k)) b = false from ble_f h]
    exact (Nat.log2_eq_iff hb).2 ⟨h1, Nat.lt_of_not_le h⟩
/-- the sign of a word -/
def sgB (x : Nat) : Bool := Nat.beq (Nat.mod (Nat.div x (nat_lit 9223372036854775808)) (nat_lit 2)) (nat_lit 1)
theorem sgB_eq (x : Nat) : sg D x = sgB x := by
  show _ = Nat.beq (x / 9223372036854775808 % 2) 1
  unfold sg
  rw [show D.signWeight = 9223372036854775808 from sw64, Bool.eq_iff_iff, beq_iff_eq, Nat.beq_eq]
theorem rgB_eq (x : Nat) : rg D x = x % 9223372036854775808 := by
  unfold rg
  rw [show D.signWeight = 9223372036854775808 from sw64]
/-- a rung's exponent is one of a number in full -/
def okB (e : Nat) : Bool := cond (Nat.ble (nat_lit 64) e) (Nat.ble e (nat_lit 2046)) false
theorem ok_of {e : Nat} (h : okB e = true) : 64 ≤ e ∧ e ≤ 2046 := by
  unfold okB at h
  rw [cand] at h
  have h' : (Nat.ble 64 e && Nat.ble e 2046) = true := h
  rw [Bool.and_eq_true, Nat.ble_eq, Nat.ble_eq] at h'
  exact h'
def mt (a : Nat) : Nat := Nat.add (nat_lit 4503599627370496) (Nat.mod a (nat_lit 4503599627370496))
theorem mt_told (a : Nat) : mt a = 4503599627370496 + a % 4503599627370496 := rfl
theorem mt_log (a : Nat) : (mt a).log2 = 52 := by
  have := Nat.mod_lt a (show 0 < 4503599627370496 by omega)
  rw [mt_told, Nat.log2_eq_iff (by omega)]
  omega
theorem mt_lo (a : Nat) : 4503599627370496 ≤ mt a := by rw [mt_told]; omega
theorem read_norm (x : Nat) (h1 : 1 ≤ x % 9223372036854775808 / 4503599627370496) (h2 : x % 9223372036854775808 / 4503599627370496 ≤ 2046) :
    D.read x = .number (sgB x) (mt (x % 9223372036854775808)) (((x % 9223372036854775808 / 4503599627370496 : Nat) : Int) - 1075) := by
  unfold Format.read
  rw [show D.binade = 4503599627370496 from bin64, show D.infRung = 9218868437227405312 from inf64, show D.leastPlace = -1074 from least64]
  change (if rg D x < _ then Datum.number (sg D x) (rg D x) _ else if rg D x < _ then Datum.number (sg D x) (4503599627370496 + rg D x % 4503599627370496) (-1074 + (rg D x / 4503599627370496 - 1 : Nat)) else if rg D x = _ then .infinity (sg D x) else .nan (sg D x) (rg D x - _)) = _
  rw [rgB_eq, sgB_eq]
  generalize x % 9223372036854775808 = r at *
  rw [if_neg (by omega), if_pos (by omega)]
  rw [mt_told]
  congr 1
  omega
theorem read_zero : D.read 0 = .number false 0 (-1074) := by decide +kernel
theorem mt_hi (a : Nat) : mt a < 9007199254740992 := by
  rw [mt_told]
  have := Nat.mod_lt a (show 0 < 4503599627370496 by omega)
  omega
def mulB (x y : Nat) : Nat :=
  st (Nat.mod x (nat_lit 9223372036854775808)) fun a => st (Nat.mod y (nat_lit 9223372036854775808)) fun b =>
  st (Nat.div a (nat_lit 4503599627370496)) fun ea => st (Nat.div b (nat_lit 4503599627370496)) fun eb =>
  cond (cond (okB ea) (cond (okB eb) (Nat.ble (nat_lit 1024) (Nat.add ea eb)) false) false)
    (st (Nat.mul (mt a) (mt b)) fun k => wordB (xor (sgB x) (sgB y)) (rndB k (lgB (nat_lit 104) k) (Nat.sub (Nat.add ea eb) (nat_lit 1024))))
    (cond (cond (okB ea) (Nat.beq y (nat_lit 0)) false) (cond (sgB x) (nat_lit 9223372036854775808) (nat_lit 0)) (fop .mul .f64 x y))
theorem mulB_told (x y : Nat) : mulB x y = 
  cond (okB (x % 9223372036854775808 / 4503599627370496) && (okB (y % 9223372036854775808 / 4503599627370496) && Nat.ble 1024 (x % 9223372036854775808 / 4503599627370496 + y % 9223372036854775808 / 4503599627370496)))
    (wordB (xor (sgB x) (sgB y)) (rndB (mt (x % 9223372036854775808) * mt (y % 9223372036854775808)) (lgB 104 (mt (x % 9223372036854775808) * mt (y % 9223372036854775808))) (x % 9223372036854775808 / 4503599627370496 + y % 9223372036854775808 / 4503599627370496 - 1024)))
    (cond (okB (x % 9223372036854775808 / 4503599627370496) && Nat.beq y 0) (cond (sgB x) 9223372036854775808 0) (fop .mul .f64 x y)) := by
  unfold mulB
  simp only [st_eq, cand]
  rfl
theorem fop_mul (x y : Nat) (s t : Bool) (m n : Nat) (i j : Int) (h1 : D.read x = .number s m i) (h2 : D.read y = .number t n j) : fop .mul .f64 x y = D.nearest (s ^^ t) (m * n) (i + j) := by
  unfold fop floatBits
  show (D.mul x y).getD _ = _
  unfold Format.mul
  rw [h1, h2]
  rfl
theorem mulB_eq (x y : Nat) : fop .mul .f64 x y = mulB x y := by
  rw [mulB_told]
  cases hc : (okB (x % 9223372036854775808 / 4503599627370496) && (okB (y % 9223372036854775808 / 4503599627370496) && Nat.ble 1024 (x % 9223372036854775808 / 4503599627370496 + y % 9223372036854775808 / 4503599627370496))) with
  | true =>
    rw [Bool.and_eq_true, Bool.and_eq_true, Nat.ble_eq] at hc
    obtain ⟨ha, hb, hab⟩ := hc
    obtain ⟨ha1, ha2⟩ := ok_of ha
    obtain ⟨hb1, hb2⟩ := ok_of hb
    rw [fop_mul x y _ _ _ _ _ _ (read_norm x (by omega) ha2) (read_norm y (by omega) hb2)]
    have hlo1 := mt_lo (x % 9223372036854775808)
    have hlo2 := mt_lo (y % 9223372036854775808)
    have hi1 := mt_hi (x % 9223372036854775808)
    have hi2 := mt_hi (y % 9223372036854775808)
    generalize mt (x % 9223372036854775808) = m at *
    generalize mt (y % 9223372036854775808) = n at *
    generalize x % 9223372036854775808 / 4503599627370496 = ea at *
    generalize y % 9223372036854775808 / 4503599627370496 = eb at *
    have hmn : 4503599627370496 * 4503599627370496 ≤ m * n := Nat.mul_le_mul hlo1 hlo2
    have hmx : m * n < 2 ^ 106 := Nat.lt_of_le_of_lt (Nat.mul_le_mul (Nat.le_of_lt hi1) (Nat.le_of_lt_succ (Nat.lt_succ_of_lt (show n < 9007199254740991 + 1 from hi2)) |> fun _ => Nat.le_of_lt_succ (show n < 9007199254740991 + 1 from hi2))) (by decide)
    have hl := lgB_eq (k := 104) (b := m * n) hmn hmx
    have hl2 : 104 ≤ (m * n).log2 := by
      rw [Nat.le_log2 (by omega)]
      exact hmn
    rw [hl] at hl2
    rw [show (ea : Int) - 1075 + ((eb : Int) - 1075) = ((ea + eb - 1024 : Nat) : Int) - 1126 by omega, near_word _ _ _ _ (by omega) hl (by omega), cond_true]
  | false =>
    cases hz : (okB (x % 9223372036854775808 / 4503599627370496) && Nat.beq y 0) with
    | true =>
      rw [Bool.and_eq_true, Nat.beq_eq] at hz
      obtain ⟨ha, rfl⟩ := hz
      obtain ⟨ha1, ha2⟩ := ok_of ha
      rw [fop_mul x 0 _ _ _ _ _ _ (read_norm x (by omega) ha2) read_zero]
      unfold Format.nearest
      rw [if_pos (by omega)]
      simp only [cond]
      unfold Format.word
      rw [show D.signWeight = 9223372036854775808 from sw64]
      cases sgB x <;> rfl
    | false => rfl
/-- two numbers of one exponent, added -/
def sumC (s : Bool) (m : Nat) (t : Bool) (n e d : Nat) : Nat :=
  st m fun m => st n fun n =>
  cond (cond s t (not t)) (st (Nat.add m n) fun k => wordB s (rndB k (lgB (Nat.add (nat_lit 52) d) k) (Nat.add e (nat_lit 51))))
    (cond (Nat.ble m n) (cond (Nat.ble n m) (nat_lit 0) (st (Nat.sub n m) fun k => wordB t (rndB k (Nat.log2 k) (Nat.add e (nat_lit 51))))) (st (Nat.sub m n) fun k => wordB s (rndB k (Nat.log2 k) (Nat.add e (nat_lit 51)))))
theorem sumC_told (s : Bool) (m : Nat) (t : Bool) (n e d : Nat) : sumC s m t n e d = 
  cond (cond s t (!t)) (wordB s (rndB (m + n) (lgB (52 + d) (m + n)) (e + 51)))
    (cond (Nat.ble m n) (cond (Nat.ble n m) 0 (wordB t (rndB (n - m) (Nat.log2 (n - m)) (e + 51)))) (wordB s (rndB (m - n) (Nat.log2 (m - n)) (e + 51)))) := by
  unfold sumC
  simp only [st_eq]
  rfl
theorem sumC_eq (s : Bool) (m : Nat) (t : Bool) (n e d : Nat) (hm : 0 < m) (hn : 0 < n) (he : 53 ≤ e) (hd1 : 2 ^ (52 + d) ≤ m + n) (hd2 : m + n < 2 ^ (52 + d + 2)) (total : Int) (ht : total = (if s = true then -(m : Int) else m) + (if t = true then -(n : Int) else n)) :
    D.nearest (if total = 0 then s && t else total < 0) total.natAbs ((e : Int) - 1075) = sumC s m t n e d := by
  subst ht
  rw [sumC_told]
  rw [show (e : Int) - 1075 = ((e + 51 : Nat) : Int) - 1126 by omega]
  have key : ∀ (b : Bool) (k : Nat), 0 < k → D.nearest b k (((e + 51 : Nat) : Int) - 1126) = wordB b (rndB k (Nat.log2 k) (e + 51)) := fun b k hk => near_word b k _ (e + 51) (by omega) rfl (by omega)
  have hlg := lgB_eq hd1 hd2
  cases s <;> cases t <;> simp only [Bool.false_eq_true, ↓reduceIte]
  · rw [if_neg (by omega), show ((m : Int) + (n : Int)).natAbs = m + n by omega, key _ _ (by omega), hlg]
    have : decide ((m : Int) + (n : Int) < 0) = false := by simp; omega
    rw [this]
    rfl
  · rcases Nat.lt_trichotomy m n with h | h | h
    · rw [if_neg (by omega), show ((m : Int) + -(n : Int)).natAbs = n - m by omega, key _ _ (by omega)]
      have : decide ((m : Int) + -(n : Int) < 0) = true := by simp; omega
      rw [this, show Nat.ble m n = true from ble_t (by omega), show Nat.ble n m = false from ble_f (by omega)]
      rfl
    · subst h
      rw [if_pos (by omega), show ((m : Int) + -(m : Int)).natAbs = 0 by omega, show Nat.ble m m = true from ble_t (Nat.le_refl _)]
      unfold Format.nearest
      rw [if_pos rfl]
      rfl
    · rw [if_neg (by omega), show ((m : Int) + -(n : Int)).natAbs = m - n by omega, key _ _ (by omega)]
      have : decide ((m : Int) + -(n : Int) < 0) = false := by simp; omega
      rw [this, show Nat.ble m n = false from ble_f (by omega)]
      rfl
  · rcases Nat.lt_trichotomy m n with h | h | h
    · rw [if_neg (by omega), show (-(m : Int) + (n : Int)).natAbs = n - m by omega, key _ _ (by omega)]
      have : decide (-(m : Int) + (n : Int) < 0) = false := by simp; omega
      rw [this, show Nat.ble m n = true from ble_t (by omega), show Nat.ble n m = false from ble_f (by omega)]
      rfl
    · subst h
      rw [if_pos (by omega), show (-(m : Int) + (m : Int)).natAbs = 0 by omega, show Nat.ble m m = true from ble_t (Nat.le_refl _)]
      unfold Format.nearest
      rw [if_pos rfl]
      rfl
    · rw [if_neg (by omega), show (-(m : Int) + (n : Int)).natAbs = m - n by omega, key _ _ (by omega)]
      have : decide (-(m : Int) + (n : Int) < 0) = true := by simp; omega
      rw [this, show Nat.ble m n = false from ble_f (by omega)]
      rfl
  · rw [if_neg (by omega), show (-(m : Int) + -(n : Int)).natAbs = m + n by omega, key _ _ (by omega), hlg]
    have : decide (-(m : Int) + -(n : Int) < 0) = true := by simp; omega
    rw [this]
    rfl
def sumB (x y : Nat) (t : Bool) (z : Nat) : Nat :=
  st (Nat.mod x (nat_lit 9223372036854775808)) fun a => st (Nat.mod y (nat_lit 9223372036854775808)) fun b =>
  st (Nat.div a (nat_lit 4503599627370496)) fun ea => st (Nat.div b (nat_lit 4503599627370496)) fun eb =>
  cond (cond (okB ea) (okB eb) false)
    (cond (Nat.ble eb ea) (st (Nat.sub ea eb) fun d => sumC (sgB x) (Nat.mul (mt a) (Nat.pow (nat_lit 2) d)) t (mt b) eb d) (st (Nat.sub eb ea) fun d => sumC (sgB x) (mt a) t (Nat.mul (mt b) (Nat.pow (nat_lit 2) d)) ea d)) z
theorem sumB_told (x y : Nat) (t : Bool) (z : Nat) : sumB x y t z =
  cond (okB (x % 9223372036854775808 / 4503599627370496) && okB (y % 9223372036854775808 / 4503599627370496))
    (cond (Nat.ble (y % 9223372036854775808 / 4503599627370496) (x % 9223372036854775808 / 4503599627370496)) 
      (sumC (sgB x) (mt (x % 9223372036854775808) * 2 ^ (x % 9223372036854775808 / 4503599627370496 - y % 9223372036854775808 / 4503599627370496)) t (mt (y % 9223372036854775808)) (y % 9223372036854775808 / 4503599627370496) (x % 9223372036854775808 / 4503599627370496 - y % 9223372036854775808 / 4503599627370496))
      (sumC (sgB x) (mt (x % 9223372036854775808)) t (mt (y % 9223372036854775808) * 2 ^ (y % 9223372036854775808 / 4503599627370496 - x % 9223372036854775808 / 4503599627370496)) (x % 9223372036854775808 / 4503599627370496) (y % 9223372036854775808 / 4503599627370496 - x % 9223372036854775808 / 4503599627370496))) z := by
  unfold sumB
  simp only [st_eq, cand]
  rfl
/-- two numbers, the one moved on by d digits -/
theorem both_in {m n d : Nat} (h1 : 4503599627370496 ≤ m) (h2 : m < 9007199254740992) (h3 : n < 9007199254740992) : 2 ^ (52 + d) ≤ m * 2 ^ d + n ∧ m * 2 ^ d + n < 2 ^ (52 + d + 2) := by
  have hd : 0 < 2 ^ d := Nat.two_pow_pos d
  rw [Nat.pow_add 2 (52 + d) 2, Nat.pow_add 2 52 d, show (2 : Nat) ^ 52 = 4503599627370496 from rfl, show (2 : Nat) ^ 2 = 4 from rfl]
  generalize 2 ^ d = G at *
  have a1 : 4503599627370496 * G ≤ m * G := Nat.mul_le_mul_right _ h1
  have a2 : m * G ≤ 9007199254740991 * G := Nat.mul_le_mul_right _ (by omega)
  constructor
  · omega
  · omega
theorem signed_eq (s : Bool) (m u : Nat) : signed s m u = (if s = true then -((m * 2 ^ u : Nat) : Int) else ((m * 2 ^ u : Nat) : Int)) := by
  unfold signed
  rw [Nat.shiftLeft_eq]
theorem sumB_eq (x y : Nat) (t : Bool) (z : Nat) (hz : ∀ s m i n j, D.read x = .number s m i → D.read y = .number (sgB y) n j → z = D.write ((Datum.sum (.number s m i) (.number t n j)).getD (.infinity false))) : z = sumB x y t z := by
  rw [sumB_told]
  cases hc : (okB (x % 9223372036854775808 / 4503599627370496) && okB (y % 9223372036854775808 / 4503599627370496)) with
  | false => rfl
  | true =>
    rw [Bool.and_eq_true] at hc
    obtain ⟨ha, hb⟩ := hc
    obtain ⟨ha1, ha2⟩ := ok_of ha
    obtain ⟨hb1, hb2⟩ := ok_of hb
    have h := hz _ _ _ _ _ (read_norm x (by omega) ha2) (read_norm y (by omega) hb2)
    have hlo1 := mt_lo (x % 9223372036854775808)
    have hlo2 := mt_lo (y % 9223372036854775808)
    have hi1 := mt_hi (x % 9223372036854775808)
    have hi2 := mt_hi (y % 9223372036854775808)
    rw [h]
    clear h hz
    generalize mt (x % 9223372036854775808) = m at *
    generalize mt (y % 9223372036854775808) = n at *
    generalize x % 9223372036854775808 / 4503599627370496 = ea at *
    generalize y % 9223372036854775808 / 4503599627370496 = eb at *
    show D.nearest _ _ _ = _
    by_cases hle : eb ≤ ea
    · rw [show Nat.ble eb ea = true from ble_t hle, show min ((ea : Int) - 1075) ((eb : Int) - 1075) = (eb : Int) - 1075 by omega]
      rw [show ((ea : Int) - 1075 - ((eb : Int) - 1075)).toNat = ea - eb by omega, show ((eb : Int) - 1075 - ((eb : Int) - 1075)).toNat = 0 by omega]
      refine sumC_eq _ _ _ _ _ _ (Nat.mul_pos (by omega) (Nat.two_pow_pos _)) (by omega) (by omega) (both_in hlo1 hi1 hi2).1 (both_in hlo1 hi1 hi2).2 _ ?_
      rw [signed_eq, signed_eq, Nat.pow_zero, Nat.mul_one]
    · rw [show Nat.ble eb ea = false from ble_f hle, show min ((ea : Int) - 1075) ((eb : Int) - 1075) = (ea : Int) - 1075 by omega]
      rw [show ((ea : Int) - 1075 - ((ea : Int) - 1075)).toNat = 0 by omega, show ((eb : Int) - 1075 - ((ea : Int) - 1075)).toNat = eb - ea by omega]
      refine sumC_eq _ _ _ _ _ _ (by omega) (Nat.mul_pos (by omega) (Nat.two_pow_pos _)) (by omega) (by rw [Nat.add_comm m]; exact (both_in hlo2 hi2 hi1).1) (by rw [Nat.add_comm m]; exact (both_in hlo2 hi2 hi1).2) _ ?_
      rw [signed_eq, signed_eq, Nat.pow_zero, Nat.mul_one]
def addB (x y : Nat) : Nat := sumB x y (sgB y) (fop .add .f64 x y)
def subB64 (x y : Nat) : Nat := sumB x y (!sgB y) (fop .sub .f64 x y)
theorem addB_eq (x y : Nat) : fop .add .f64 x y = addB x y := by
  refine sumB_eq x y _ _ (fun s m i n j h1 h2 => ?_)
  unfold fop floatBits
  show (D.add x y).getD _ = _
  unfold Format.add
  rw [h1, h2]
  rfl
theorem subB_eq (x y : Nat) : fop .sub .f64 x y = subB64 x y := by
  refine sumB_eq x y _ _ (fun s m i n j h1 h2 => ?_)
  unfold fop floatBits
  show (D.sub x y).getD _ = _
  unfold Format.sub
  rw [h1, h2]
  rfl
theorem quot_num (d : Nat) (s t : Bool) (m n : Nat) (i j : Int) (hn : n ≠ 0) (M : Nat) (hM : d + n.log2 - m.log2 = M) (G : Nat) (hG : m <<< M = G) :
    Datum.quotient d (.number s m i) (.number t n j) = some (.number (s ^^ t) (2 * (G / n) + (G % n != 0).toNat) (i - j - (M : Nat) - 1)) := by
  subst hG hM
  show (if n = 0 then _ else _) = _
  rw [if_neg hn]
theorem div_num (f : Format) (x y : Nat) (s t : Bool) (m n : Nat) (i j : Int) (h1 : f.read x = .number s m i) (h2 : f.read y = .number t n j) (hn : n ≠ 0) (M : Nat) (hM : f.fractionBits + 2 + n.log2 - m.log2 = M) (G : Nat) (hG : m <<< M = G) :
    f.div x y = some (f.nearest (s ^^ t) (2 * (G / n) + (G % n != 0).toNat) (i - j - (M : Nat) - 1)) := by
  unfold Format.div
  rw [h1, h2, quot_num _ _ _ _ _ _ _ hn M hM G hG]
  rfl
theorem shl54 (m : Nat) : m <<< 54 = m * 18014398509481984 := Nat.shiftLeft_eq m 54
theorem more54 {a b : Nat} (ha : a = 52) (hb : b = 52) : D.fractionBits + 2 + a - b = 54 := by subst ha hb; rfl
theorem fop_quo (x y : Nat) (s t : Bool) (m n : Nat) (i j : Int) (h1 : D.read x = .number s m i) (h2 : D.read y = .number t n j) (hn : n ≠ 0) (hm : m.log2 = 52) (hn2 : n.log2 = 52) :
    fop .quo .f64 x y = D.nearest (s ^^ t) (2 * (m * 18014398509481984 / n) + (m * 18014398509481984 % n != 0).toNat) (i - j - (54 : Nat) - 1) := by
  have e := div_num D x y s t m n i j h1 h2 hn 54 (more54 hn2 hm) _ (shl54 m)
  have e2 : fop .quo .f64 x y = (D.div x y).getD (qn .f64) := rfl
  rw [e2, e, Option.getD_some]
def quoB (x y : Nat) : Nat :=
  st (Nat.mod x (nat_lit 9223372036854775808)) fun a => st (Nat.mod y (nat_lit 9223372036854775808)) fun b =>
  st (Nat.div a (nat_lit 4503599627370496)) fun ea => st (Nat.div b (nat_lit 4503599627370496)) fun eb =>
  cond (cond (okB ea) (cond (okB eb) (Nat.ble eb (Nat.add ea (nat_lit 1000))) false) false)
    (st (mt b) fun n => st (Nat.mul (mt a) (nat_lit 18014398509481984)) fun d => st (Nat.add (Nat.mul (nat_lit 2) (Nat.div d n)) (cond (Nat.beq (Nat.mod d n) (nat_lit 0)) (nat_lit 0) (nat_lit 1))) fun k =>
      wordB (xor (sgB x) (sgB y)) (rndB k (lgB (nat_lit 54) k) (Nat.sub (Nat.add ea (nat_lit 1071)) eb)))
    (fop .quo .f64 x y)
theorem quoB_told (x y : Nat) : quoB x y =
  cond (okB (x % 9223372036854775808 / 4503599627370496) && (okB (y % 9223372036854775808 / 4503599627370496) && Nat.ble (y % 9223372036854775808 / 4503599627370496) (x % 9223372036854775808 / 4503599627370496 + 1000)))
    (wordB (xor (sgB x) (sgB y)) (rndB (2 * (mt (x % 9223372036854775808) * 18014398509481984 / mt (y % 9223372036854775808)) + cond (Nat.beq (mt (x % 9223372036854775808) * 18014398509481984 % mt (y % 9223372036854775808)) 0) 0 1)
      (lgB 54 (2 * (mt (x % 9223372036854775808) * 18014398509481984 / mt (y % 9223372036854775808)) + cond (Nat.beq (mt (x % 9223372036854775808) * 18014398509481984 % mt (y % 9223372036854775808)) 0) 0 1)) (x % 9223372036854775808 / 4503599627370496 + 1071 - y % 9223372036854775808 / 4503599627370496)))
    (fop .quo .f64 x y) := by
  unfold quoB
  simp only [st_eq, cand]
  rfl
theorem quoB_eq (x y : Nat) : fop .quo .f64 x y = quoB x y := by
  rw [quoB_told]
  cases hc : (okB (x % 9223372036854775808 / 4503599627370496) && (okB (y % 9223372036854775808 / 4503599627370496) && Nat.ble (y % 9223372036854775808 / 4503599627370496) (x % 9223372036854775808 / 4503599627370496 + 1000))) with
  | false => rfl
  | true =>
    rw [Bool.and_eq_true, Bool.and_eq_true, Nat.ble_eq] at hc
    obtain ⟨ha, hb, hab⟩ := hc
    obtain ⟨ha1, ha2⟩ := ok_of ha
    obtain ⟨hb1, hb2⟩ := ok_of hb
    have hlo1 := mt_lo (x % 9223372036854775808)
    have hlo2 := mt_lo (y % 9223372036854775808)
    have hl1 := mt_log (x % 9223372036854775808)
    have hl2 := mt_log (y % 9223372036854775808)
    have hhi1 := mt_hi (x % 9223372036854775808)
    have hhi2 : mt (y % 9223372036854775808) < 9007199254740992 := by
      rw [mt_told]
      have := Nat.mod_lt (y % 9223372036854775808) (show 0 < 4503599627370496 by omega)
      omega
    rw [fop_quo x y _ _ _ _ _ _ (read_norm x (by omega) ha2) (read_norm y (by omega) hb2) (by omega) hl1 hl2]
    generalize fop .quo .f64 x y = z
    generalize mt (x % 9223372036854775808) = m at *
    generalize mt (y % 9223372036854775808) = n at *
    generalize x % 9223372036854775808 / 4503599627370496 = ea at *
    generalize y % 9223372036854775808 / 4503599627370496 = eb at *
    have hq : 9007199254740992 ≤ m * 18014398509481984 / n := by
      rw [Nat.le_div_iff_mul_le (by omega)]
      calc 9007199254740992 * n ≤ 9007199254740992 * 9007199254740992 := Nat.mul_le_mul_left _ (by omega)
        _ = 4503599627370496 * 18014398509481984 := by decide
        _ ≤ m * 18014398509481984 := Nat.mul_le_mul_right _ hlo1
    have eb2 : (m * 18014398509481984 % n != 0).toNat = cond (Nat.beq (m * 18014398509481984 % n) 0) 0 1 := by
      cases h : Nat.beq (m * 18014398509481984 % n) 0 with
      | true => rw [Nat.beq_eq] at h; rw [h]; rfl
      | false => rw [← Bool.not_eq_true, Nat.beq_eq] at h; rw [bne_iff_ne.2 h]; rfl
    rw [eb2]
    have hc1 : cond (Nat.beq (m * 18014398509481984 % n) 0) 0 1 ≤ 1 := by cases Nat.beq (m * 18014398509481984 % n) 0 <;> decide
    have hq2 : m * 18014398509481984 / n < 36028797018963968 := by
      rw [Nat.div_lt_iff_lt_mul (by omega)]
      calc m * 18014398509481984 < 9007199254740992 * 18014398509481984 := Nat.mul_lt_mul_of_pos_right hhi1 (by decide)
        _ = 36028797018963968 * 4503599627370496 := by decide
        _ ≤ 36028797018963968 * n := Nat.mul_le_mul_left _ hlo2
    generalize cond (Nat.beq (m * 18014398509481984 % n) 0) 0 1 = c at *
    generalize m * 18014398509481984 / n = q at *
    have hl := lgB_eq (k := 54) (b := 2 * q + c) (Nat.le_trans (show 2 ^ 54 ≤ 18014398509481984 by decide) (by omega)) (Nat.lt_of_lt_of_le (show 2 * q + c < 72057594037927936 by omega) (by decide))
    have hl2 : 54 ≤ (2 * q + c).log2 := by
      rw [Nat.le_log2 (by omega)]
      exact Nat.le_trans (show 2 ^ 54 ≤ 18014398509481984 by decide) (by omega)
    rw [hl] at hl2
    rw [show (ea : Int) - 1075 - ((eb : Int) - 1075) - ((54 : Nat) : Int) - 1 = ((ea + 1071 - eb : Nat) : Int) - 1126 by omega, near_word _ _ _ _ (by omega) hl (by omega), cond_true]
end Go.Proofs.Fl
