/-
  Tenths of decibels of 64ths, told so that the kernel counts them fast. Over no program.
-/
import Derived.Test.YtmehbfcmmffhmaaFast
import Derived.Test.YtmehbfcmmffhmaaFloor
namespace Go.Proofs.Fl
open Go Ieee Go.RowKit
set_option linter.unusedVariables false
def C43 : Nat := 4631308968768463603
def t1N (y : Nat) : Nat := fop .mul .f64 (logF y) C43
def t2N (y : Nat) : Nat := fop .add .f64 (t1N y) C05
def tenN (y : Nat) : Int := fint (ffloor (t2N y))
/-- n / 64 -/
def dN (n : Nat) : Nat := Nat.add (Nat.mul (Nat.add (Nat.log2 n) (nat_lit 1016)) (nat_lit 4503599627370496)) (Nat.mul n (Nat.pow (nat_lit 2) (Nat.sub (nat_lit 52) (Nat.log2 n))))
def fN (n : Nat) : Nat := Nat.add (Nat.mul (Nat.add (Nat.log2 n) (nat_lit 120)) (nat_lit 8388608)) (Nat.mul n (Nat.pow (nat_lit 2) (Nat.sub (nat_lit 23) (Nat.log2 n))))
theorem dN_told (n : Nat) : dN n = (Nat.log2 n + 1016) * 4503599627370496 + n * 2 ^ (52 - Nat.log2 n) := rfl
theorem fN_told (n : Nat) : fN n = (Nat.log2 n + 120) * 8388608 + n * 2 ^ (23 - Nat.log2 n) := rfl
theorem log2_lt16 {n : Nat} (h1 : 1 ≤ n) (h : n ≤ 40000) : Nat.log2 n < 16 := (Nat.log2_lt (by omega)).2 (by omega)
theorem log2_pow {n : Nat} (h1 : 1 ≤ n) (k : Nat) : Nat.log2 (n * 2 ^ k) = Nat.log2 n + k := by
  have h0 : n ≠ 0 := by omega
  have hp := Nat.two_pow_pos k
  have hn : n * 2 ^ k ≠ 0 := Nat.mul_ne_zero h0 (by omega)
  refine (Nat.log2_eq_iff hn).2 ⟨?_, ?_⟩
  · rw [Nat.pow_add]
    exact Nat.mul_le_mul_right _ (Nat.log2_self_le h0)
  · rw [show Nat.log2 n + k + 1 = Nat.log2 n + 1 + k by omega, Nat.pow_add]
    exact Nat.mul_lt_mul_of_pos_right Nat.lt_log2_self hp
theorem dN_pow {n k : Nat} (h1 : 1 ≤ n) (h : n * 2 ^ k ≤ 40000) : dN (n * 2 ^ k) = dN n + k * 4503599627370496 := by
  have hl := log2_lt16 (n := n * 2 ^ k) (Nat.mul_pos h1 (Nat.two_pow_pos k)) h
  rw [log2_pow h1] at hl
  rw [dN_told, dN_told, log2_pow h1, Nat.mul_assoc, ← Nat.pow_add, show k + (52 - (Nat.log2 n + k)) = 52 - Nat.log2 n by omega]
  generalize n * 2 ^ (52 - Nat.log2 n) = z
  omega
theorem dN_in {n : Nat} (h1 : 1 ≤ n) (h : n ≤ 40000) : 4503599627370496 ≤ n * 2 ^ (52 - Nat.log2 n) ∧ n * 2 ^ (52 - Nat.log2 n) < 9007199254740992 := by
  have hl := log2_lt16 h1 h
  have h2 := Nat.log2_self_le (show n ≠ 0 by omega)
  have h3 := Nat.lt_log2_self (n := n)
  have e : 2 ^ Nat.log2 n * 2 ^ (52 - Nat.log2 n) = 4503599627370496 := by rw [← Nat.pow_add, show Nat.log2 n + (52 - Nat.log2 n) = 52 by omega]
  have e2 : 2 ^ (Nat.log2 n + 1) * 2 ^ (52 - Nat.log2 n) = 9007199254740992 := by rw [← Nat.pow_add, show Nat.log2 n + 1 + (52 - Nat.log2 n) = 53 by omega]
  constructor
  · rw [← e]; exact Nat.mul_le_mul_right _ h2
  · rw [← e2]; exact Nat.mul_lt_mul_of_pos_right h3 (Nat.two_pow_pos _)
theorem fN_in {n : Nat} (h1 : 1 ≤ n) (h : n ≤ 40000) : 8388608 ≤ n * 2 ^ (23 - Nat.log2 n) ∧ n * 2 ^ (23 - Nat.log2 n) < 16777216 := by
  have hl := log2_lt16 h1 h
  have h2 := Nat.log2_self_le (show n ≠ 0 by omega)
  have h3 := Nat.lt_log2_self (n := n)
  have e : 2 ^ Nat.log2 n * 2 ^ (23 - Nat.log2 n) = 8388608 := by rw [← Nat.pow_add, show Nat.log2 n + (23 - Nat.log2 n) = 23 by omega]
  have e2 : 2 ^ (Nat.log2 n + 1) * 2 ^ (23 - Nat.log2 n) = 16777216 := by rw [← Nat.pow_add, show Nat.log2 n + 1 + (23 - Nat.log2 n) = 24 by omega]
  constructor
  · rw [← e]; exact Nat.mul_le_mul_right _ h2
  · rw [← e2]; exact Nat.mul_lt_mul_of_pos_right h3 (Nat.two_pow_pos _)
theorem bin32 : Ieee.single.binade = 8388608 := by decide +kernel
theorem pwd (k : Nat) : 2 ^ k = pw k := rfl
theorem Mg_fN {n : Nat} (h1 : 1 ≤ n) (h : n ≤ 40000) : Fl.Mg Ieee.single (fN n) = n * pw 143 := by
  have hi := fN_in h1 h
  have hl := log2_lt16 h1 h
  rw [fN_told, ← bin32, Mg_eq Ieee.single _ _ (by rw [bin32]; omega) (.inr (by rw [bin32]; omega)), Nat.mul_assoc, ← Nat.pow_add, pwd, show 23 - Nat.log2 n + (Nat.log2 n + 120) = 143 by omega]
theorem Mg_dN {n : Nat} (h1 : 1 ≤ n) (h : n ≤ 40000) : Fl.Mg D (dN n) = n * pw 1068 := by
  have hi := dN_in h1 h
  have hl := log2_lt16 h1 h
  rw [dN_told, ← binade64, Mg_eq D _ _ (by rw [binade64]; omega) (.inr (by rw [binade64]; omega)), Nat.mul_assoc, ← Nat.pow_add, pwd, show 52 - Nat.log2 n + (Nat.log2 n + 1016) = 1068 by omega]
theorem fN_lt {n : Nat} (h1 : 1 ≤ n) (h : n ≤ 40000) : 0 < fN n ∧ fN n < 2139095040 := by
  have hi := fN_in h1 h
  have hl := log2_lt16 h1 h
  rw [fN_told]
  omega
theorem dN_lt {n : Nat} (h1 : 1 ≤ n) (h : n ≤ 40000) : 4575657221408423936 ≤ dN n ∧ dN n < 9218868437227405312 := by
  have hi := dN_in h1 h
  have hl := log2_lt16 h1 h
  rw [dN_told]
  omega
theorem rg32_lt {x : Nat} (h : x < 2147483648) : rg Ieee.single x = x := by unfold rg; rw [sw32]; exact Nat.mod_eq_of_lt h
theorem sg32_lt {x : Nat} (h : x < 2147483648) : sg Ieee.single x = false := by unfold sg; rw [sw32, Nat.div_eq_of_lt h]; rfl
theorem rg64_lt {x : Nat} (h : x < 9223372036854775808) : rg D x = x := by unfold rg; rw [show D.signWeight = _ from sw64]; exact Nat.mod_eq_of_lt h
theorem pos_fN {n : Nat} (h1 : 1 ≤ n) (h : n ≤ 40000) : Pos32 (fN n) := by
  have := fN_lt h1 h
  exact ⟨by rw [rg32_lt (by omega)]; exact this.2, by rw [rg32_lt (by omega)]; exact this.1, sg32_lt (by omega)⟩
theorem pw_join (a b : Nat) : pw a * pw b = pw (a + b) := (Nat.pow_add 2 a b).symm
theorem pw_143 : pw 143 * w925 = pw 1068 := by
  unfold w925
  rw [pw_join]
theorem wide_fN {n : Nat} (h1 : 1 ≤ n) (h : n ≤ 40000) : fwide (fN n) = dN n := by
  have hp := pos_fN h1 h
  obtain ⟨_, hs, hi, hm⟩ := wide_fin (fN n) hp.fin
  have hf := fN_lt h1 h
  have hd := dN_lt h1 h
  have hw := word_parts D (fwide (fN n)) (by rw [sw64]; exact fwide_lt)
  rw [show sg D (fwide (fN n)) = _ from hs, hp.sign] at hw
  simp only [Bool.false_eq_true, if_false, Nat.zero_add] at hw
  rw [hw]
  refine Mg_inj D ?_
  rw [show Fl.Mg D (rg D (fwide (fN n))) = _ from hm, rg32_lt (by omega), Mg_fN h1 h, Mg_dN h1 h, Nat.mul_assoc, pw_143]
/-- a product that is a number of the format -/
theorem mul_exact (k : FloatKind) (x y g : Nat) (hx : rg k.format x < k.format.infRung) (hy : rg k.format y < k.format.infRung) (hg : g ≤ k.format.infRung) (h0 : Fl.Mg k.format (rg k.format x) * Fl.Mg k.format (rg k.format y) ≠ 0)
    (h : Fl.Mg k.format (rg k.format x) * Fl.Mg k.format (rg k.format y) = Fl.Mg k.format g * 2 ^ (-k.format.leastPlace).toNat) (hl : k.format.leastPlace ≤ 0) : fop .mul k x y = k.format.word (sg k.format x ^^ sg k.format y) g := by
  obtain ⟨a, i, e1, hi, ha, _⟩ := read_fin k.format x hx
  obtain ⟨b, j, e2, hj, hb, _⟩ := read_fin k.format y hy
  have e : k.format.mul x y = some (k.format.nearest (sg k.format x ^^ sg k.format y) (a * b) (i + j)) := by
    unfold Format.mul
    rw [e1, e2]
    rfl
  have hf : fop .mul k x y = k.format.nearest (sg k.format x ^^ sg k.format y) (a * b) (i + j) := by
    have : fop .mul k x y = (k.format.mul x y).getD (qn k) := rfl
    rw [this, e, Option.getD_some]
  rw [← ha, ← hb] at h h0
  have hab : a * b ≠ 0 := by
    intro h1
    apply h0
    rw [show a * 2 ^ (i - k.format.leastPlace).toNat * (b * 2 ^ (j - k.format.leastPlace).toNat) = a * b * (2 ^ (i - k.format.leastPlace).toNat * 2 ^ (j - k.format.leastPlace).toNat) by ac_rfl, h1, Nat.zero_mul]
  rw [hf, nearest_eq _ _ _ _ hab, near_exact k.format (a * b) (i + j) hab g, Nat.min_eq_left hg]
  rw [show a * 2 ^ (i - k.format.leastPlace).toNat * (b * 2 ^ (j - k.format.leastPlace).toNat) = a * b * (2 ^ (i - k.format.leastPlace).toNat * 2 ^ (j - k.format.leastPlace).toNat) by ac_rfl, ← Nat.pow_add] at h
  generalize k.format.leastPlace = l at *
  obtain ⟨q, rfl⟩ : ∃ q : Nat, l = -(q : Int) := ⟨(-l).toNat, by omega⟩
  by_cases hc : -(q : Int) ≤ i + j
  · rw [show (-(q : Int) - (i + j)).toNat = 0 by omega, Nat.pow_zero, Nat.mul_one]
    rw [show (i - -(q : Int)).toNat + (j - -(q : Int)).toNat = (i + j - -(q : Int)).toNat + q by omega, show (- -(q : Int)).toNat = q by omega, Nat.pow_add, ← Nat.mul_assoc] at h
    exact Nat.eq_of_mul_eq_mul_right (Nat.two_pow_pos q) h.symm
  · rw [show (i + j - -(q : Int)).toNat = 0 by omega, Nat.pow_zero, Nat.mul_one]
    rw [show (- -(q : Int)).toNat = (-(q : Int) - (i + j)).toNat + ((i - -(q : Int)).toNat + (j - -(q : Int)).toNat) by omega, Nat.pow_add, ← Nat.mul_assoc] at h
    rw [Nat.mul_assoc (a * b), ← Nat.pow_add, Nat.pow_add 2 ((-(q : Int) - (i + j)).toNat), ← Nat.mul_assoc] at h
    exact Nat.eq_of_mul_eq_mul_right (Nat.two_pow_pos ((i - -(q : Int)).toNat + (j - -(q : Int)).toNat)) h.symm
theorem pw_286 : 64 * (pw 143 * pw 143) = pw 143 * 2 ^ 149 := by
  rw [show (64 : Nat) = pw 6 from rfl, show (2 : Nat) ^ 149 = pw 149 from rfl, pw_join, pw_join, pw_join]
theorem mul_fN {i j : Nat} (hi : 1 ≤ i) (hi2 : i ≤ 200) (hj : 1 ≤ j) (hj2 : j ≤ 200) : fop .mul .f32 (fN (8 * i)) (fN (8 * j)) = fN (i * j) := by
  have h1 : 1 ≤ i * j := Nat.mul_le_mul hi hj
  have h2 : i * j ≤ 40000 := Nat.mul_le_mul hi2 hj2
  have pi := pos_fN (show 1 ≤ 8 * i by omega) (show 8 * i ≤ 40000 by omega)
  have pj := pos_fN (show 1 ≤ 8 * j by omega) (show 8 * j ≤ 40000 by omega)
  have li := fN_lt (show 1 ≤ 8 * i by omega) (show 8 * i ≤ 40000 by omega)
  have lj := fN_lt (show 1 ≤ 8 * j by omega) (show 8 * j ≤ 40000 by omega)
  have lp := fN_lt h1 h2
  have e : Fl.Mg Ieee.single (rg Ieee.single (fN (8 * i))) * Fl.Mg Ieee.single (rg Ieee.single (fN (8 * j))) = Fl.Mg Ieee.single (fN (i * j)) * 2 ^ 149 := by
    rw [rg32_lt (by omega), rg32_lt (by omega), Mg_fN (by omega) (by omega), Mg_fN (by omega) (by omega), Mg_fN h1 h2, Nat.mul_assoc (i * j), ← pw_286]
    ac_rfl
  have hz : Fl.Mg Ieee.single (fN (i * j)) * 2 ^ 149 ≠ 0 := by
    have := Mg_smono Ieee.single lp.1
    exact Nat.mul_ne_zero (by omega) (by have := Nat.two_pow_pos 149; omega)
  rw [mul_exact .f32 _ _ (fN (i * j)) (by show rg Ieee.single _ < Ieee.single.infRung; rw [inf32]; exact pi.fin) (by show rg Ieee.single _ < Ieee.single.infRung; rw [inf32]; exact pj.fin) (by show _ ≤ Ieee.single.infRung; rw [inf32]; omega) (fun h => hz (e.symm.trans h)) e (by decide)]
  show Ieee.single.word (sg Ieee.single _ ^^ sg Ieee.single _) _ = _
  rw [pi.sign, pj.sign]
  rfl
/-! the logarithm in few steps -/
def logXn (x : Nat) : Nat := Nat.add (nat_lit 4604930618986332160) (Nat.mod (Nat.sub (Nat.add x (nat_lit 4607182418800017408)) (nat_lit 4604930618986332160)) (nat_lit 4503599627370496))
def logEn (x : Nat) : Nat := Nat.div (Nat.sub (Nat.add x (nat_lit 4607182418800017408)) (nat_lit 4604930618986332160)) (nat_lit 4503599627370496)
theorem logEn_told (x : Nat) : logEn x = (x + 4607182418800017408 - 4604930618986332160) / 4503599627370496 := rfl
theorem logXn_told (x : Nat) : logXn x = 4604930618986332160 + (x + 4607182418800017408 - 4604930618986332160) % 4503599627370496 := rfl
theorem logEn_add (d k : Nat) : logEn (d + k * 4503599627370496) = logEn d + k := by
  rw [logEn_told, logEn_told]
  omega
theorem logXn_add (d k : Nat) : logXn (d + k * 4503599627370496) = logXn d := by
  rw [logXn_told, logXn_told]
  omega
theorem logEn_lo {d : Nat} (h : 4575657221408423936 ≤ d) : 1016 ≤ logEn d := by
  rw [logEn_told]
  omega
theorem logXn_eq (x : Nat) : logX x = logXn x := by
  rw [logXn_told]
  unfold logX
  omega
theorem logEn_eq (x : Nat) : logE x = (logEn x : Int) - 1023 := by
  rw [logEn_told]
  unfold logE
  omega
def polB (u p : Nat) : List Nat → Nat
  | [] => p
  | r :: rs => st (addB r (mulB u p)) fun p => polB u p rs
theorem polB_eq (u : Nat) : ∀ (k j : Nat), polB u (logP u j) ((List.range' j k).map lr) = logP u (j + k)
  | 0, j => rfl
  | k + 1, j => by
    rw [List.range'_succ, List.map_cons]
    show st (addB (lr j) (mulB u (logP u j))) _ = _
    rw [st_eq, ← mulB_eq, ← addB_eq]
    have := polB_eq u k (j + 1)
    rw [show j + (k + 1) = j + 1 + k by omega]
    exact this
def lrT : List Nat := [4585925428558828667, 4586426698778222948, 4587023449039406616, 4587745830934523688, 4588638185040256542, 4589468260265693457, 4590207312512236308, 4591215111030249286, 4592670820000712476, 4594314991293244562, 4596373779694328218, 4599676419421066581, 4607182418800017408]
theorem lrT_eq : (List.range' 0 13).map lr = lrT := by decide +kernel
def midN (X : Nat) : Nat := fop .mul .f64 C2 (logM (logS X) (logU X))
def midB (X : Nat) : Nat := st (quoB (subB64 X (nat_lit 4607182418800017408)) (addB X (nat_lit 4607182418800017408))) fun s => st (mulB s s) fun u => st (polB u (nat_lit 0) lrT) fun p => mulB (nat_lit 4611686018427387904) (mulB s p)
theorem midB_eq (X : Nat) : midN X = midB X := by
  unfold midB midN logM logU
  simp only [st_eq]
  have e1 : logS X = quoB (subB64 X 4607182418800017408) (addB X 4607182418800017408) := by
    unfold logS logA logB C1
    rw [quoB_eq, subB_eq, addB_eq]
  have e2 := fun u => polB_eq u 13 0
  rw [lrT_eq] at e2
  rw [e1, mulB_eq, mulB_eq, mulB_eq]
  have e3 := fun u => (e2 u).symm
  rw [Nat.zero_add] at e3
  rw [e3]
  rfl
def eeT : List Nat := [13840520955704308401, 13839740541358287731, 13838358599114999915, 13836797770422958575, 13835236941730917235, 13832294170795588079, 13827790571168217583, 0, 4604418534313441775, 4608922133940812271, 4611864904876141427, 4613425733568182767, 4614986562260224107, 4616368504503511923, 4617148918849532593, 4617929333195553263, 4618709747541573933, 4619490161887594603]
theorem eeT_eq : (List.range 18).all (fun i => fop .mul .f64 (eF ((i : Int) - 7)) Cln2 == eeT.getD i 0) = true := by decide +kernel
theorem eeT_at {i : Nat} (h : i < 18) : fop .mul .f64 (eF ((i : Int) - 7)) Cln2 = eeT.getD i 0 := by simpa using List.all_eq_true.1 eeT_eq i (List.mem_range.2 h)
/-- the tenths, from the half that the powers of two share and the power -/
def endN (M i : Nat) : Int := fint (ffloor (fop .add .f64 (fop .mul .f64 (fop .add .f64 M (eeT.getD i 0)) C43) C05))
def endB (M i : Nat) : Int := fint (ffloor (st (st (addB M (eeT.getD i (nat_lit 0))) fun r => st (mulB r (nat_lit 4631308968768463603)) fun t => addB t (nat_lit 4602678819172646912)) fun r => r))
theorem endB_eq (M i : Nat) : endN M i = endB M i := by
  unfold endN endB C43 C05
  simp only [st_eq]
  rw [addB_eq, mulB_eq, addB_eq]
theorem ten_told {n : Nat} (i : Nat) (h : logE (dN n) = (i : Int) - 7) (hi : i < 18) : tenN (dN n) = endN (midN (logX (dN n))) i := by
  unfold tenN t2N t1N logF logR endN
  rw [h, eeT_at hi]
  rfl
/-- all powers of two of the products of a and b -/
def tenB (T : Nat → Nat) (a b K : Nat) : Bool :=
  st (dN (a * b)) fun d => st (midB (logXn d)) fun M => st (logEn d - 1016) fun q =>
    (List.range (K + 1)).all fun k => cond (Nat.ble (q + k) 17) (st (T (a * b * 2 ^ k)) fun t => cond (Nat.ble 1 t) (Nat.beq (Int.toNat (endB M (q + k) + 200)) t) false) false
theorem tenB_told {T : Nat → Nat} {a b K k : Nat} (h : tenB T a b K = true) (hk : k ≤ K) : logEn (dN (a * b)) - 1016 + k ≤ 17 ∧ 1 ≤ T (a * b * 2 ^ k) ∧ (endN (midN (logX (dN (a * b)))) (logEn (dN (a * b)) - 1016 + k) + 200).toNat = T (a * b * 2 ^ k) := by
  unfold tenB at h
  simp only [st_eq, cand] at h
  have h3 := List.all_eq_true.1 h k (List.mem_range.2 (by omega))
  rw [Bool.and_eq_true, Bool.and_eq_true, Nat.ble_eq, Nat.ble_eq, Nat.beq_eq, ← endB_eq, ← midB_eq, ← logXn_eq] at h3
  exact h3
theorem tenB_at {T : Nat → Nat} {a b K k : Nat} (h : tenB T a b K = true) (h1 : 1 ≤ a * b) (h2 : a * b * 2 ^ K ≤ 40000) (hk : k ≤ K) : tenN (dN (a * b * 2 ^ k)) = (T (a * b * 2 ^ k) : Int) - 200 := by
  obtain ⟨hq, h3, h4⟩ := tenB_told h hk
  clear h
  generalize hv : endN (midN (logX (dN (a * b)))) (logEn (dN (a * b)) - 1016 + k) = v at h4
  generalize ht : T (a * b * 2 ^ k) = t at h3 h4 ⊢
  have h5 := hid h4
  clear h4
  have hle : a * b * 2 ^ k ≤ 40000 := Nat.le_trans (Nat.mul_le_mul_left _ (Nat.pow_le_pow_right (by omega) hk)) h2
  have hp := dN_pow h1 hle
  have hd := dN_lt h1 (Nat.le_trans (by have := Nat.two_pow_pos k; exact Nat.le_mul_of_pos_right _ this) hle)
  have hE : logE (dN (a * b * 2 ^ k)) = ((logEn (dN (a * b)) - 1016 + k : Nat) : Int) - 7 := by
    rw [hp, logEn_eq]
    have e := logEn_add (dN (a * b)) k
    have e2 := logEn_lo hd.1
    rw [e]
    generalize logEn (dN (a * b)) = z at *
    omega
  have hX : logX (dN (a * b * 2 ^ k)) = logX (dN (a * b)) := by
    rw [hp, logXn_eq, logXn_eq, logXn_add]
  have hlt : logEn (dN (a * b)) - 1016 + k < 18 := Nat.lt_succ_of_le hq
  rw [ten_told _ hE hlt, hX, hv]
  have h4 := h5.out
  clear hv ht hp hd hE hX hlt hq h5
  omega
end Go.Proofs.Fl
