/-
  Floats: what the operations of the model give, up to which NaN it is; how rounding keeps the order of what a format has. Over no program.
-/
import Derived.WalkKit
import Derived.Laws.FloatArith
import Derived.Laws.FloatBits
import Derived.Laws.Cover2
import Derived.Laws.Cover3
import Derived.Laws.BitsAllLaws
import Derived.RowKit
import Derived.Below
import Derived.Deep.Draws
namespace Go.Proofs.Fl
open Go Ieee Go.RowKit

/-! ### How a number is rounded: 'nearest' keeps the order of what the format has -/

/-- the magnitude of a rung, in units of the least place -/
def Mg (f : Format) (g : Nat) : Nat := if g < f.binade then g else (f.binade + g % f.binade) * 2 ^ (g / f.binade - 1)

theorem binade_pos (f : Format) : 0 < f.binade := Nat.two_pow_pos _

theorem Mg_eq (f : Format) (q k : Nat) (hk : k ≤ 2 * f.binade) (h : q = 0 ∨ f.binade ≤ k) : Mg f (q * f.binade + k) = k * 2 ^ q := by
  have hB := binade_pos f
  unfold Mg
  generalize f.binade = B at *
  by_cases h1 : k < B
  · obtain rfl : q = 0 := by omega
    simp [h1]
  · have h2 : ¬ q * B + k < B := by
      intro h3
      have : 0 ≤ q * B := Nat.zero_le _
      omega
    rw [if_neg h2]
    by_cases h4 : k < 2 * B
    · obtain ⟨t, rfl⟩ : ∃ t, k = B + t := ⟨k - B, by omega⟩
      have e : q * B + (B + t) = t + (q + 1) * B := by rw [Nat.succ_mul]; omega
      rw [e, Nat.add_mul_mod_self_right, Nat.mod_eq_of_lt (by omega), Nat.add_mul_div_right _ _ hB, Nat.div_eq_of_lt (by omega : t < B)]
      congr 2
      omega
    · obtain rfl : k = 2 * B := by omega
      have e : q * B + 2 * B = 0 + (q + 2) * B := by rw [Nat.add_mul]; omega
      rw [e, Nat.add_mul_mod_self_right, Nat.add_mul_div_right _ _ hB]
      simp
      rw [Nat.pow_succ, Nat.mul_comm 2 B, Nat.mul_assoc, Nat.mul_comm 2]

theorem rung_form (f : Format) (g : Nat) : ∃ q k, g = q * f.binade + k ∧ k < 2 * f.binade ∧ (q = 0 ∨ f.binade ≤ k) := by
  have hB := binade_pos f
  by_cases h : g < f.binade
  · exact ⟨0, g, by simp, by omega, .inl rfl⟩
  · have h1 := Nat.div_add_mod g f.binade
    have h2 := Nat.mod_lt g hB
    have h3 : 1 ≤ g / f.binade := by
      apply (Nat.le_div_iff_mul_le hB).2
      omega
    refine ⟨g / f.binade - 1, f.binade + g % f.binade, ?_, by omega, .inr (by omega)⟩
    have : (g / f.binade - 1) * f.binade + f.binade = g / f.binade * f.binade := by
      rw [← Nat.succ_mul]
      congr 1
      omega
    rw [Nat.mul_comm] at h1
    omega

theorem Mg_succ (f : Format) (g : Nat) : Mg f g < Mg f (g + 1) := by
  obtain ⟨q, k, rfl, hk, h⟩ := rung_form f g
  rw [Nat.add_assoc, Mg_eq f q k (by omega) h, Mg_eq f q (k + 1) (by omega) (by omega)]
  exact Nat.mul_lt_mul_of_pos_right (by omega) (Nat.two_pow_pos _)

theorem Mg_mono (f : Format) {a b : Nat} (h : a ≤ b) : Mg f a ≤ Mg f b := by
  induction h with
  | refl => exact Nat.le_refl _
  | step _ ih => exact Nat.le_trans ih (Nat.le_of_lt (Mg_succ f _))
theorem Mg_smono (f : Format) {a b : Nat} (h : a < b) : Mg f a < Mg f b := Nat.lt_of_lt_of_le (Mg_succ f a) (Mg_mono f h)
theorem Mg_lt_iff (f : Format) {a b : Nat} : Mg f a < Mg f b ↔ a < b :=
  ⟨fun h => Nat.lt_of_not_le fun h' => absurd (Mg_mono f h') (by omega), Mg_smono f⟩
theorem Mg_le_iff (f : Format) {a b : Nat} : Mg f a ≤ Mg f b ↔ a ≤ b :=
  ⟨fun h => Nat.le_of_not_lt fun h' => absurd (Mg_smono f h') (by omega), Mg_mono f⟩
theorem Mg_inj (f : Format) {a b : Nat} (h : Mg f a = Mg f b) : a = b :=
  Nat.le_antisymm ((Mg_le_iff f).1 (by omega)) ((Mg_le_iff f).1 (by omega))
theorem Mg_zero (f : Format) : Mg f 0 = 0 := by simp [Mg, binade_pos]

/-- every significand of at most the format's digits, however far shifted, is some rung's magnitude -/
theorem Mg_surj (f : Format) (m q : Nat) (hm : m < 2 * f.binade) : ∃ g, Mg f g = m * 2 ^ q := by
  by_cases h0 : m = 0
  · exact ⟨0, by simp [h0, Mg_zero]⟩
  have hB : f.binade = 2 ^ f.fractionBits := rfl
  have hl : m.log2 ≤ f.fractionBits := by
    have : m < 2 ^ (f.fractionBits + 1) := by rw [Nat.pow_succ]; omega
    have := (Nat.log2_lt h0).2 this
    omega
  have hlo := Nat.log2_self_le h0
  have hhi := Nat.lt_log2_self (n := m)
  by_cases h : m.log2 + q ≤ f.fractionBits
  · refine ⟨0 * f.binade + m * 2 ^ q, ?_⟩
    rw [Mg_eq f 0 _ _ (.inl rfl)]
    · simp
    · rw [hB, ← Nat.pow_succ']
      have : m * 2 ^ q < 2 ^ (m.log2 + 1) * 2 ^ q := Nat.mul_lt_mul_of_pos_right hhi (Nat.two_pow_pos _)
      rw [← Nat.pow_add] at this
      have := Nat.pow_le_pow_right (n := 2) (by omega) (by omega : m.log2 + 1 + q ≤ f.fractionBits + 1)
      simp only [Nat.succ_eq_add_one]
      omega
  · refine ⟨(m.log2 + q - f.fractionBits) * f.binade + m * 2 ^ (f.fractionBits - m.log2), ?_⟩
    rw [Mg_eq]
    · rw [Nat.mul_assoc, ← Nat.pow_add]
      congr 2
      omega
    · rw [hB, ← Nat.pow_succ']
      have : m * 2 ^ (f.fractionBits - m.log2) < 2 ^ (m.log2 + 1) * 2 ^ (f.fractionBits - m.log2) := Nat.mul_lt_mul_of_pos_right hhi (Nat.two_pow_pos _)
      rw [← Nat.pow_add] at this
      rw [show f.fractionBits.succ = m.log2 + 1 + (f.fractionBits - m.log2) by omega]
      omega
    · right
      rw [hB]
      have : 2 ^ m.log2 * 2 ^ (f.fractionBits - m.log2) ≤ m * 2 ^ (f.fractionBits - m.log2) := Nat.mul_le_mul_right _ hlo
      rw [← Nat.pow_add, show m.log2 + (f.fractionBits - m.log2) = f.fractionBits by omega] at this
      exact this

/-- rounding to a whole number: off by a half at most -/
theorem cut_even (neg : Bool) (n drop : Nat) :
    2 * n ≤ (2 * Toward.even.cut neg n drop + 1) * 2 ^ drop ∧ 2 * Toward.even.cut neg n drop * 2 ^ drop ≤ 2 * n + 2 ^ drop := by
  unfold Toward.cut
  simp only [Nat.shiftLeft_eq, Nat.one_mul]
  by_cases hd : drop ≤ n.log2 + 2
  · rw [Nat.min_eq_left hd]
    have hg : 0 < 2 ^ drop := Nat.two_pow_pos _
    have h1 := Nat.div_add_mod n (2 ^ drop)
    have h2 := Nat.mod_lt n hg
    generalize 2 ^ drop = G at *
    generalize n / G = Q at *
    generalize n % G = r at *
    have key : ∀ c : Bool, (c = true → G ≤ 2 * r) → (c = false → 2 * r ≤ G) →
        2 * n ≤ (2 * (Q + c.toNat) + 1) * G ∧ 2 * (Q + c.toNat) * G ≤ 2 * n + G := by
      intro c hc1 hc2
      subst h1
      cases c with
      | false =>
        have := hc2 rfl
        simp only [Bool.toNat_false, Nat.add_zero, Nat.add_mul, Nat.one_mul, Nat.mul_assoc, Nat.mul_add, Nat.mul_comm Q G]
        omega
      | true =>
        have := hc1 rfl
        simp only [Bool.toNat_true, Nat.add_mul, Nat.one_mul, Nat.mul_assoc, Nat.mul_add, Nat.mul_comm Q G]
        omega
    apply key
    · intro h
      simp at h
      omega
    · intro h
      simp at h
      omega
  · rw [Nat.min_eq_right (by omega)]
    have hn : n < 2 ^ (n.log2 + 1) := Nat.lt_log2_self
    have e2 : 2 ^ (n.log2 + 2) = 2 * 2 ^ (n.log2 + 1) := by rw [Nat.pow_succ, Nat.mul_comm]
    have hG : 2 ^ (n.log2 + 2) ≤ 2 ^ drop := Nat.pow_le_pow_right (by omega) (by omega)
    have hq : n / 2 ^ (n.log2 + 2) = 0 := Nat.div_eq_of_lt (by omega)
    have hr : n % 2 ^ (n.log2 + 2) = n := Nat.mod_eq_of_lt (by omega)
    rw [hq, hr]
    have c1 : decide (2 ^ (n.log2 + 2) < 2 * n) = false := by simp; omega
    have c2 : (2 ^ (n.log2 + 2) == 2 * n) = false := by simp; omega
    rw [c1, c2]
    simp
    omega

/-- the rung that 'nearest' writes (ahead of the bound by infinity) -/
def nearRung (f : Format) (mag : Nat) (place : Int) : Nat :=
  let last := max (place + mag.log2 - f.fractionBits) f.leastPlace
  (last - f.leastPlace).toNat * f.binade + Toward.even.cut false (mag <<< (place - last).toNat) (last - place).toNat

theorem cut_even_neg (neg : Bool) (n drop : Nat) : Toward.even.cut neg n drop = Toward.even.cut false n drop := rfl

theorem nearest_eq (f : Format) (neg : Bool) (mag : Nat) (place : Int) (h : mag ≠ 0) :
    f.nearest neg mag place = f.word neg (min (nearRung f mag place) f.infRung) := by
  unfold Format.nearest
  rw [if_neg h]
  rfl

/-- what is to be said of the pieces of 'nearRung', in whole numbers -/
theorem near_parts (f : Format) (mag : Nat) (place : Int) (h : mag ≠ 0) : ∃ q K n drop : Nat,
    nearRung f mag place = q * f.binade + K ∧
    mag * 2 ^ (place - f.leastPlace).toNat * 2 ^ drop = n * 2 ^ q * 2 ^ (f.leastPlace - place).toNat ∧
    2 * n ≤ (2 * K + 1) * 2 ^ drop ∧ 2 * K * 2 ^ drop ≤ 2 * n + 2 ^ drop ∧
    n < 2 * f.binade * 2 ^ drop ∧ (q = 0 ∨ f.binade * 2 ^ drop ≤ n) := by
  have hlo := Nat.log2_self_le h
  have hhi := Nat.lt_log2_self (n := mag)
  have hB : f.binade = 2 ^ f.fractionBits := rfl
  unfold nearRung
  generalize hl : max (place + mag.log2 - f.fractionBits) f.leastPlace = last
  simp only []
  have hc := cut_even false (mag <<< (place - last).toNat) (last - place).toNat
  refine ⟨(last - f.leastPlace).toNat, Toward.even.cut false (mag <<< (place - last).toNat) (last - place).toNat, mag <<< (place - last).toNat, (last - place).toNat, rfl, ?_, hc.1, hc.2, ?_, ?_⟩
  · rw [Nat.shiftLeft_eq]
    simp only [Nat.mul_assoc, ← Nat.pow_add]
    congr 2
    omega
  · rw [Nat.shiftLeft_eq, hB, ← Nat.pow_succ', ← Nat.pow_add]
    have : mag * 2 ^ (place - last).toNat < 2 ^ (mag.log2 + 1) * 2 ^ (place - last).toNat := Nat.mul_lt_mul_of_pos_right hhi (Nat.two_pow_pos _)
    rw [← Nat.pow_add] at this
    have h2 := Nat.pow_le_pow_right (n := 2) (by omega) (by omega : mag.log2 + 1 + (place - last).toNat ≤ f.fractionBits.succ + (last - place).toNat)
    omega
  · by_cases hq : (last - f.leastPlace).toNat = 0
    · exact .inl hq
    · right
      rw [Nat.shiftLeft_eq, hB, ← Nat.pow_add]
      have : 2 ^ mag.log2 * 2 ^ (place - last).toNat ≤ mag * 2 ^ (place - last).toNat := Nat.mul_le_mul_right _ hlo
      rw [← Nat.pow_add] at this
      have h2 := Nat.pow_le_pow_right (n := 2) (by omega) (by omega : f.fractionBits + (last - place).toNat ≤ mag.log2 + (place - last).toNat)
      omega

/-- a number that is at most a rung's magnitude is rounded to that rung at most -/
theorem near_le (f : Format) (mag : Nat) (place : Int) (h : mag ≠ 0) (g : Nat)
    (hv : mag * 2 ^ (place - f.leastPlace).toNat ≤ Mg f g * 2 ^ (f.leastPlace - place).toNat) : nearRung f mag place ≤ g := by
  obtain ⟨q, K, n, drop, hR, hid, hc1, hc2, hn1, hn2⟩ := near_parts f mag place h
  have hD : 0 < 2 ^ drop := Nat.two_pow_pos _
  have hb : 0 < 2 ^ (f.leastPlace - place).toNat := Nat.two_pow_pos _
  have hq : 0 < 2 ^ q := Nat.two_pow_pos _
  generalize 2 ^ (f.leastPlace - place).toNat = b at *
  generalize mag * 2 ^ (place - f.leastPlace).toNat = v at *
  have hB := binade_pos f
  refine Nat.le_of_not_lt fun hlt => ?_
  rw [hR] at hlt
  have hKB : q = 0 ∨ f.binade ≤ K := by
    rcases hn2 with h0 | h0
    · exact .inl h0
    · right
      refine Nat.le_of_not_lt fun hk => ?_
      have : 2 * (f.binade * 2 ^ drop) ≤ (2 * K + 1) * 2 ^ drop := Nat.le_trans (Nat.mul_le_mul_left 2 h0) hc1
      rw [← Nat.mul_assoc] at this
      have := Nat.le_of_mul_le_mul_right this hD
      omega
  have hK2 : K ≤ 2 * f.binade := by
    refine Nat.le_of_not_lt fun hk => ?_
    have h1 : 2 * (2 * f.binade + 1) * 2 ^ drop ≤ 2 * K * 2 ^ drop := Nat.mul_le_mul_right _ (by omega)
    have h2 : 2 * (2 * f.binade + 1) * 2 ^ drop = 2 * (2 * f.binade * 2 ^ drop) + 2 * 2 ^ drop := by
      simp only [Nat.mul_add, Nat.add_mul, Nat.mul_one, Nat.mul_assoc]
    omega
  by_cases h1 : q = 0 ∨ f.binade ≤ K - 1
  · have hg : g ≤ q * f.binade + (K - 1) := by omega
    have hm := Mg_mono f hg
    rw [Mg_eq f q (K - 1) (by omega) h1] at hm
    have hv2 : v * 2 ^ drop ≤ (K - 1) * 2 ^ q * b * 2 ^ drop := Nat.mul_le_mul_right _ (Nat.le_trans hv (Nat.mul_le_mul_right _ hm))
    rw [hid] at hv2
    have e : (K - 1) * 2 ^ q * b * 2 ^ drop = (K - 1) * 2 ^ drop * (2 ^ q * b) := by
      simp only [Nat.mul_assoc, Nat.mul_comm, Nat.mul_left_comm]
    rw [e, Nat.mul_assoc] at hv2
    have hn := Nat.le_of_mul_le_mul_right hv2 (Nat.mul_pos hq hb)
    by_cases hK0 : K = 0
    · subst hK0
      rcases h1 with h1 | h1
      · subst h1; omega
      · omega
    · have e2 : 2 * K * 2 ^ drop = 2 * ((K - 1) * 2 ^ drop) + 2 * 2 ^ drop := by
        have : K = (K - 1) + 1 := by omega
        rw [this]
        simp only [Nat.mul_add, Nat.add_mul, Nat.mul_one, Nat.mul_assoc, Nat.add_sub_cancel]
      omega
  · have hqp : q ≠ 0 := fun h0 => h1 (.inl h0)
    have hK : K = f.binade := by
      rcases hKB with h0 | h0
      · exact absurd h0 hqp
      · omega
    subst hK
    have hm := Mg_smono f hlt
    rw [Mg_eq f q f.binade (by omega) (.inr (Nat.le_refl _))] at hm
    have hv2 : v < f.binade * 2 ^ q * b := Nat.lt_of_le_of_lt hv (Nat.mul_lt_mul_of_pos_right hm hb)
    have hv3 : v * 2 ^ drop < f.binade * 2 ^ q * b * 2 ^ drop := Nat.mul_lt_mul_of_pos_right hv2 hD
    rw [hid] at hv3
    have e : f.binade * 2 ^ q * b * 2 ^ drop = f.binade * 2 ^ drop * (2 ^ q * b) := by
      simp only [Nat.mul_assoc, Nat.mul_comm, Nat.mul_left_comm]
    rw [e, Nat.mul_assoc] at hv3
    have hn := Nat.lt_of_mul_lt_mul_right hv3
    rcases hn2 with h0 | h0
    · exact absurd h0 hqp
    · omega

/-- a number that is at least a rung's magnitude is rounded to that rung at least -/
theorem le_near (f : Format) (mag : Nat) (place : Int) (h : mag ≠ 0) (g : Nat)
    (hv : Mg f g * 2 ^ (f.leastPlace - place).toNat ≤ mag * 2 ^ (place - f.leastPlace).toNat) : g ≤ nearRung f mag place := by
  obtain ⟨q, K, n, drop, hR, hid, hc1, hc2, hn1, hn2⟩ := near_parts f mag place h
  have hD : 0 < 2 ^ drop := Nat.two_pow_pos _
  have hb : 0 < 2 ^ (f.leastPlace - place).toNat := Nat.two_pow_pos _
  have hq : 0 < 2 ^ q := Nat.two_pow_pos _
  generalize 2 ^ (f.leastPlace - place).toNat = b at *
  generalize mag * 2 ^ (place - f.leastPlace).toNat = v at *
  have hB := binade_pos f
  refine Nat.le_of_not_lt fun hlt => ?_
  rw [hR] at hlt
  have hKB : q = 0 ∨ f.binade ≤ K := by
    rcases hn2 with h0 | h0
    · exact .inl h0
    · right
      refine Nat.le_of_not_lt fun hk => ?_
      have : 2 * (f.binade * 2 ^ drop) ≤ (2 * K + 1) * 2 ^ drop := Nat.le_trans (Nat.mul_le_mul_left 2 h0) hc1
      rw [← Nat.mul_assoc] at this
      have := Nat.le_of_mul_le_mul_right this hD
      omega
  have hK2 : K ≤ 2 * f.binade := by
    refine Nat.le_of_not_lt fun hk => ?_
    have h1 : 2 * (2 * f.binade + 1) * 2 ^ drop ≤ 2 * K * 2 ^ drop := Nat.mul_le_mul_right _ (by omega)
    have h2 : 2 * (2 * f.binade + 1) * 2 ^ drop = 2 * (2 * f.binade * 2 ^ drop) + 2 * 2 ^ drop := by
      simp only [Nat.mul_add, Nat.add_mul, Nat.mul_one, Nat.mul_assoc]
    omega
  by_cases h1 : K + 1 ≤ 2 * f.binade
  · have hm := Mg_mono f (show q * f.binade + (K + 1) ≤ g by omega)
    rw [Mg_eq f q (K + 1) h1 (by omega)] at hm
    have hv2 : (K + 1) * 2 ^ q * b * 2 ^ drop ≤ v * 2 ^ drop := Nat.mul_le_mul_right _ (Nat.le_trans (Nat.mul_le_mul_right _ hm) hv)
    rw [hid] at hv2
    have e : (K + 1) * 2 ^ q * b * 2 ^ drop = (K + 1) * 2 ^ drop * (2 ^ q * b) := by
      simp only [Nat.mul_assoc, Nat.mul_comm, Nat.mul_left_comm]
    rw [e, Nat.mul_assoc n] at hv2
    have hn := Nat.le_of_mul_le_mul_right hv2 (Nat.mul_pos hq hb)
    have e2 : (2 * K + 1) * 2 ^ drop + 2 ^ drop = 2 * ((K + 1) * 2 ^ drop) := by
      simp only [Nat.add_mul, Nat.mul_assoc, Nat.one_mul, Nat.mul_add]
      omega
    omega
  · have hK : K = 2 * f.binade := by omega
    subst hK
    have hm := Mg_smono f hlt
    rw [Mg_eq f q (2 * f.binade) (Nat.le_refl _) (by omega)] at hm
    have hv2 : 2 * f.binade * 2 ^ q * b < v := Nat.lt_of_lt_of_le (Nat.mul_lt_mul_of_pos_right hm hb) hv
    have hv3 : 2 * f.binade * 2 ^ q * b * 2 ^ drop < v * 2 ^ drop := Nat.mul_lt_mul_of_pos_right hv2 hD
    rw [hid] at hv3
    have e : 2 * f.binade * 2 ^ q * b * 2 ^ drop = 2 * f.binade * 2 ^ drop * (2 ^ q * b) := by
      simp only [Nat.mul_assoc, Nat.mul_comm, Nat.mul_left_comm]
    rw [e, Nat.mul_assoc n] at hv3
    have hn := Nat.lt_of_mul_lt_mul_right hv3
    omega

/-- a number that the format has is rounded to itself -/
theorem near_exact (f : Format) (mag : Nat) (place : Int) (h : mag ≠ 0) (g : Nat)
    (hv : Mg f g * 2 ^ (f.leastPlace - place).toNat = mag * 2 ^ (place - f.leastPlace).toNat) : nearRung f mag place = g :=
  Nat.le_antisymm (near_le f mag place h g (by omega)) (le_near f mag place h g (by omega))

/-! ### Words: sign, rung, value -/
def rg (f : Format) (w : Nat) : Nat := w % f.signWeight
def sg (f : Format) (w : Nat) : Bool := w / f.signWeight % 2 == 1
theorem signWeight_pos (f : Format) : 0 < f.signWeight := Nat.two_pow_pos _
theorem rg_word (f : Format) (s : Bool) {r : Nat} (h : r < f.signWeight) : rg f (f.word s r) = r := by
  unfold rg Format.word
  split
  · rw [Nat.add_mod_left, Nat.mod_eq_of_lt h]
  · exact Nat.mod_eq_of_lt h
theorem sg_word (f : Format) (s : Bool) {r : Nat} (h : r < f.signWeight) : sg f (f.word s r) = s := by
  unfold sg Format.word
  split
  · rename_i hs
    rw [Nat.add_div_left _ (signWeight_pos f), Nat.div_eq_of_lt h]
    simp [hs]
  · rename_i hs
    rw [Nat.div_eq_of_lt h]
    simp at hs
    simp [hs]
theorem binade_le_inf {f : Format} (h : 1 ≤ f.exponentBits) : f.binade ≤ f.infRung := by
  have : 2 ^ 1 ≤ 2 ^ f.exponentBits := Nat.pow_le_pow_right (by omega) h
  unfold Format.infRung
  exact Nat.le_mul_of_pos_left _ (by omega)

theorem read_fin (f : Format) (w : Nat) (h : rg f w < f.infRung) :
    ∃ m e, f.read w = .number (sg f w) m e ∧ f.leastPlace ≤ e ∧ m * 2 ^ (e - f.leastPlace).toNat = Mg f (rg f w) ∧ m < 2 * f.binade := by
  have hB := binade_pos f
  unfold Format.read
  change ∃ m e, (if rg f w < f.binade then Datum.number (sg f w) (rg f w) f.leastPlace else if rg f w < f.infRung then Datum.number (sg f w) (f.binade + rg f w % f.binade) (f.leastPlace + (rg f w / f.binade - 1 : Nat)) else if rg f w = f.infRung then .infinity (sg f w) else .nan (sg f w) (rg f w - f.infRung)) = .number (sg f w) m e ∧ _
  by_cases h1 : rg f w < f.binade
  · rw [if_pos h1]
    refine ⟨_, _, rfl, Int.le_refl _, ?_, by omega⟩
    simp [Mg, h1]
  · rw [if_neg h1, if_pos h]
    refine ⟨_, _, rfl, by omega, ?_, ?_⟩
    · rw [Mg, if_neg h1]
      congr 2
      omega
    · have := Nat.mod_lt (rg f w) hB
      omega
theorem read_inf (f : Format) (he : 1 ≤ f.exponentBits) (w : Nat) (h : rg f w = f.infRung) : f.read w = .infinity (sg f w) := by
  have := binade_le_inf he
  unfold Format.read
  change (if rg f w < f.binade then Datum.number (sg f w) (rg f w) f.leastPlace else if rg f w < f.infRung then Datum.number (sg f w) (f.binade + rg f w % f.binade) (f.leastPlace + (rg f w / f.binade - 1 : Nat)) else if rg f w = f.infRung then .infinity (sg f w) else .nan (sg f w) (rg f w - f.infRung)) = _
  rw [if_neg (by omega), if_neg (by omega), if_pos h]
theorem read_nan (f : Format) (he : 1 ≤ f.exponentBits) (w : Nat) (h : f.infRung < rg f w) : f.read w = .nan (sg f w) (rg f w - f.infRung) := by
  have := binade_le_inf he
  unfold Format.read
  change (if rg f w < f.binade then Datum.number (sg f w) (rg f w) f.leastPlace else if rg f w < f.infRung then Datum.number (sg f w) (f.binade + rg f w % f.binade) (f.leastPlace + (rg f w / f.binade - 1 : Nat)) else if rg f w = f.infRung then .infinity (sg f w) else .nan (sg f w) (rg f w - f.infRung)) = _
  rw [if_neg (by omega), if_neg (by omega), if_neg (by omega)]

/-- what a word stands for, in units of the least place (an infinity: as the rung beyond the greatest number) -/
def sv (f : Format) (w : Nat) : Int := if sg f w = true then -(Mg f (rg f w) : Int) else (Mg f (rg f w) : Int)

theorem compare_scale (a b : Int) (c : Nat) (hc : 0 < c) : compare (a * c) (b * c) = compare a b := by
  have hc' : (0 : Int) < (c : Int) := by omega
  rcases Int.lt_trichotomy a b with h | h | h
  · have := Int.mul_lt_mul_of_pos_right h hc'
    rw [Int.compare_eq_lt.2 h, Int.compare_eq_lt.2 this]
  · subst h
    simp
  · have := Int.mul_lt_mul_of_pos_right h hc'
    rw [Int.compare_eq_gt.2 h, Int.compare_eq_gt.2 this]

theorem order_sv (f : Format) (he : 1 ≤ f.exponentBits) (x y : Nat) (hx : rg f x ≤ f.infRung) (hy : rg f y ≤ f.infRung) :
    f.order x y = some (compare (sv f x) (sv f y)) := by
  have hpos : ∀ g, 0 < g → 0 < Mg f g := fun g hg => by have := Mg_smono f hg; omega
  have hI : 0 < f.infRung := Nat.lt_of_lt_of_le (binade_pos f) (binade_le_inf he)
  unfold Format.order sv
  rcases Nat.lt_or_eq_of_le hx with h1 | h1
  · obtain ⟨m, i, e1, hi, hm, _⟩ := read_fin f x h1
    rcases Nat.lt_or_eq_of_le hy with h2 | h2
    · obtain ⟨n, j, e2, hj, hn, _⟩ := read_fin f y h2
      rw [e1, e2]
      simp only [Datum.order, Option.some.injEq]
      have key : ∀ (s : Bool) (m : Nat) (i base : Int), f.leastPlace ≤ base → base ≤ i → signed s m (i - base).toNat * ((2 ^ (base - f.leastPlace).toNat : Nat) : Int) = if s = true then -((m * 2 ^ (i - f.leastPlace).toNat : Nat) : Int) else ((m * 2 ^ (i - f.leastPlace).toNat : Nat) : Int) := by
        intro s m i base h1 h2
        have e : (m <<< (i - base).toNat) * 2 ^ (base - f.leastPlace).toNat = m * 2 ^ (i - f.leastPlace).toNat := by
          rw [Nat.shiftLeft_eq, Nat.mul_assoc, ← Nat.pow_add]
          congr 2
          omega
        rw [← e]
        unfold signed
        cases s <;> simp [Int.neg_mul]
      rw [← compare_scale _ _ (2 ^ (min i j - f.leastPlace).toNat) (Nat.two_pow_pos _)]
      rw [key _ m i _ (by omega) (by omega), key _ n j _ (by omega) (by omega), hm, hn]
    · rw [e1, read_inf f he y h2]
      simp only [Datum.order, Option.some.injEq]
      have hlt := Mg_smono f h1
      rw [← h2] at hlt
      symm
      cases sg f y <;> cases sg f x <;> simp <;> first | (apply Int.compare_eq_lt.2; omega) | (apply Int.compare_eq_gt.2; omega)
  · rcases Nat.lt_or_eq_of_le hy with h2 | h2
    · obtain ⟨n, j, e2, hj, hn, _⟩ := read_fin f y h2
      rw [e2, read_inf f he x h1]
      simp only [Datum.order, Option.some.injEq]
      have hlt := Mg_smono f h2
      rw [← h1] at hlt
      symm
      cases sg f y <;> cases sg f x <;> simp <;> first | (apply Int.compare_eq_lt.2; omega) | (apply Int.compare_eq_gt.2; omega)
    · rw [read_inf f he x h1, read_inf f he y h2]
      simp only [Datum.order, Option.some.injEq]
      have h3 := hpos _ hI
      rw [h1, h2]
      symm
      cases sg f y <;> cases sg f x <;> simp <;> first | (apply Int.compare_eq_lt.2; omega) | (apply Int.compare_eq_gt.2; omega) | rfl

def nan (k : FloatKind) (b : Nat) : Bool := (k.decode b).isNaN
def qn : FloatKind → Nat
  | .f32 => 2143289344
  | .f64 => 9221120237041090560
def cn (k : FloatKind) (b : Nat) : Nat := if nan k b = true then qn k else b
def FEq (k : FloatKind) (a b : Nat) : Prop := cn k a = cn k b

theorem nan_qn (k : FloatKind) : nan k (qn k) = true := by cases k <;> decide +kernel
theorem FEq.refl (k : FloatKind) (a : Nat) : FEq k a a := rfl
theorem FEq.symm {k : FloatKind} {a b : Nat} (h : FEq k a b) : FEq k b a := Eq.symm h
theorem FEq.trans {k : FloatKind} {a b c : Nat} (h : FEq k a b) (h' : FEq k b c) : FEq k a c := Eq.trans h h'
theorem FEq.cases {k : FloatKind} {a b : Nat} (h : FEq k a b) : a = b ∨ (nan k a = true ∧ nan k b = true) := by
  unfold FEq cn at h
  by_cases ha : nan k a = true <;> by_cases hb : nan k b = true <;> simp [ha, hb] at h ⊢
  · subst h; exact absurd (nan_qn k) hb
  · subst h; exact absurd (nan_qn k) ha
  · exact h
theorem FEq.of_nan {k : FloatKind} {a b : Nat} (ha : nan k a = true) (hb : nan k b = true) : FEq k a b := by
  simp [FEq, cn, ha, hb]
theorem FEq.nan_eq {k : FloatKind} {a b : Nat} (h : FEq k a b) : nan k a = nan k b := by
  rcases h.cases with rfl | ⟨h1, h2⟩
  · rfl
  · rw [h1, h2]
theorem FEq.eq {k : FloatKind} {a b : Nat} (h : FEq k a b) (hn : nan k b = false) : a = b := by
  rcases h.cases with rfl | ⟨h1, h2⟩
  · rfl
  · rw [h2] at hn; cases hn

theorem read_of_nan {k : FloatKind} {b : Nat} (h : nan k b = true) : ∃ s t, k.format.read b = .nan s t := by
  unfold nan FloatKind.decode at h
  cases hd : k.format.read b <;> simp_all [Ieee.Datum.isNaN]

theorem floatBits_nan_left {k : FloatKind} {a : Nat} (h : nan k a = true) (op : BinOp) (b : Nat) : floatBits op k a b = none := by
  obtain ⟨s, t, hd⟩ := read_of_nan h
  cases op <;> simp [floatBits, Ieee.Format.add, Ieee.Format.sub, Ieee.Format.mul, Ieee.Format.div, hd, Ieee.Datum.sum, Ieee.Datum.product, Ieee.Datum.quotient]
theorem floatBits_nan_right {k : FloatKind} {b : Nat} (h : nan k b = true) (op : BinOp) (a : Nat) : floatBits op k a b = none := by
  obtain ⟨s, t, hd⟩ := read_of_nan h
  cases op <;> simp [floatBits, Ieee.Format.add, Ieee.Format.sub, Ieee.Format.mul, Ieee.Format.div, hd, Ieee.Datum.opposite] <;> cases k.format.read a <;> simp [Ieee.Datum.sum, Ieee.Datum.product, Ieee.Datum.quotient]
theorem order_nan_left {k : FloatKind} {a : Nat} (h : nan k a = true) (b : Nat) : k.format.order a b = none := by
  obtain ⟨s, t, hd⟩ := read_of_nan h
  simp [Ieee.Format.order, hd, Ieee.Datum.order]
theorem order_nan_right {k : FloatKind} {b : Nat} (h : nan k b = true) (a : Nat) : k.format.order a b = none := by
  obtain ⟨s, t, hd⟩ := read_of_nan h
  simp [Ieee.Format.order, hd]
  cases k.format.read a <;> simp [Ieee.Datum.order]
theorem order_congr {k : FloatKind} {a a' b b' : Nat} (h : FEq k a a') (h' : FEq k b b') : k.format.order a b = k.format.order a' b' := by
  rcases h.cases with rfl | ⟨h1, h2⟩
  · rcases h'.cases with rfl | ⟨h1, h2⟩
    · rfl
    · rw [order_nan_right h1, order_nan_right h2]
  · rw [order_nan_left h1, order_nan_left h2]

/-- what an operation gives, up to which NaN it is -/
def fop (op : BinOp) (k : FloatKind) (x y : Nat) : Nat := (floatBits op k x y).getD (qn k)
theorem fop_congr {op : BinOp} {k : FloatKind} {a a' b b' : Nat} (h : FEq k a a') (h' : FEq k b b') : fop op k a b = fop op k a' b' := by
  unfold fop
  rcases h.cases with rfl | ⟨h1, h2⟩
  · rcases h'.cases with rfl | ⟨h1, h2⟩
    · rfl
    · rw [floatBits_nan_right h1, floatBits_nan_right h2]
  · rw [floatBits_nan_left h1, floatBits_nan_left h2]

theorem nan_of_rung {k : FloatKind} {b : Nat} (h : k.format.infRung < b % k.format.signWeight) : nan k b = true := by
  have hb : k.format.binade ≤ k.format.infRung := by cases k <;> decide +kernel
  unfold nan FloatKind.decode Ieee.Format.read
  rw [if_neg (by omega), if_neg (by omega), if_neg (by omega)]
  rfl

def isArith : BinOp → Bool
  | .add | .sub | .mul | .quo => true
  | _ => false

theorem cut_nan (k : FloatKind) (x y t : Nat) : nan k (Question.cut (.nanBits k x y) t) = true := by
  apply nan_of_rung
  cases k
  · show 2139095040 < ((t % 2) * 2 ^ 31 + 0x7f800000 + 1 + (t / 2) % (2 ^ 23 - 1)) % 2147483648
    rcases Nat.mod_two_eq_zero_or_one t with h | h <;> rw [h] <;> omega
  · show 9218868437227405312 < ((t % 2) * 2 ^ 63 + 0x7ff0000000000000 + 1 + (t / 2) % (2 ^ 52 - 1)) % 9223372036854775808
    rcases Nat.mod_two_eq_zero_or_one t with h | h <;> rw [h] <;> omega
theorem cut_nanConv (k : FloatKind) (x t : Nat) : nan k (Question.cut (.nanConv k x) t) = true := by
  apply nan_of_rung
  cases k
  · show 2139095040 < ((t % 2) * 2 ^ 31 + 0x7f800000 + 1 + (t / 2) % (2 ^ 23 - 1)) % 2147483648
    rcases Nat.mod_two_eq_zero_or_one t with h | h <;> rw [h] <;> omega
  · show 9218868437227405312 < ((t % 2) * 2 ^ 63 + 0x7ff0000000000000 + 1 + (t / 2) % (2 ^ 52 - 1)) % 9223372036854775808
    rcases Nat.mod_two_eq_zero_or_one t with h | h <;> rw [h] <;> omega

theorem run_fop {P : Program} (w : World) (op : BinOp) (ho : isArith op = true) (t : TypeId) (k : FloatKind) (x y : Nat) :
    ∃ r n, FEq k r (fop op k x y) ∧ (binOp op t (.float k x) (.float k y)).run P w = .ok (.float k r) (w.drewN n) := by
  cases hb : floatBits op k x y with
  | some r =>
    refine ⟨r, 0, ?_, run_float_arith w op t k x y r hb⟩
    simp [fop, hb, FEq.refl]
  | none =>
    refine ⟨_, 1, FEq.of_nan (cut_nan k x y (w.tape w.drawn (.nanBits k x y))) (by simp [fop, hb, nan_qn]), ?_⟩
    cases op <;> simp [isArith] at ho <;> simp [floatBits] at hb <;> simp [binOp, Op.floatArith, hb, choose, Sem.run, Question.forced, World.drewN] <;> rfl

/-- THE WALK'S LAW for + - * / on floats (guarded or not): some bits that are those of 'fop' but for which NaN. -/
theorem wpList_fop {P : Program} {ops : Array Oper} {Q : Exit → Act → World → Prop} {a : Act} {w : World} {rest : List Oper}
    {d : Option Tmp} {op : BinOp} {t t' ty : TypeId} {l r : Operand} {pos : String} {af : Array Edge} {g : Option (Nat × Bool)}
    (ho : isArith op = true) (hw : Region.wanted ⟨d, .binOp op t l r t', ty, pos, af, g⟩ (yielded ops a.tmps) = true)
    {k : FloatKind} {x y : Nat} (hl : a.eval l = .float k x) (hr : a.eval r = .float k y)
    (hK : ∀ v n, FEq k v (fop op k x y) → wpList P ops Q rest (a.put d (.float k v)) (w.drewN n)) :
    wpList P ops Q (⟨d, .binOp op t l r t', ty, pos, af, g⟩ :: rest) a w := by
  refine wpList_step fun K hK' => ?_
  rw [if_pos hw]
  obtain ⟨v, n, hv, hrun⟩ := run_fop (P := P) w op ho t k x y
  have hg : (eqGuard op t l r (.float k x) (.float k y)).run P w = .ok () w := by cases op <;> simp [isArith] at ho <;> rfl
  unfold Oper.wp
  simp [execOp, hl, hr, hg, hrun]
  exact hK' _ _ (hK v n hv)

theorem conv_nan {s k : FloatKind} (hsk : s ≠ k) {x : Nat} (h : nan s x = true) : floatToFloatBits s x k = none := by
  obtain ⟨a, b, hd⟩ := read_of_nan h
  simp [floatToFloatBits, hsk, FloatKind.decode, hd]

theorem run_conv_nan {P : Program} (w : World) {s k : FloatKind} (hsk : s ≠ k) (src dst : TypeId) (hs : (P.underlying src).isSome = true) (hd : P.underlying dst = some (.float k)) {x : Nat} (h : nan s x = true) :
    ∃ v, nan k v = true ∧ (convert src dst (.float s x)).run P w = .ok (.float k v) (w.drewN 1) := by
  obtain ⟨a, b, hdec⟩ := read_of_nan h
  obtain ⟨u, hs'⟩ := Option.isSome_iff_exists.1 hs
  refine ⟨_, cut_nanConv k x (w.tape w.drawn (.nanConv k x)), ?_⟩
  cases u <;> simp [convert, run_underlying hs', run_underlying hd, Conv.floatToFloat, hsk, FloatKind.decode, hdec, choose, Sem.run, Question.forced, World.drewN] <;> rfl

/-! ### Words of the two kinds: NaNs, equality up to which NaN -/
theorem exp_pos (k : FloatKind) : 1 ≤ k.format.exponentBits := by cases k <;> decide
theorem nan_eq (k : FloatKind) (b : Nat) : nan k b = decide (k.format.infRung < rg k.format b) := by
  unfold nan FloatKind.decode
  rcases Nat.lt_trichotomy (rg k.format b) k.format.infRung with h | h | h
  · obtain ⟨m, e, h1, _⟩ := read_fin k.format b h
    rw [h1]
    simp [Datum.isNaN]
    omega
  · rw [read_inf k.format (exp_pos k) b h, h]
    simp [Datum.isNaN]
  · rw [read_nan k.format (exp_pos k) b h]
    simp [Datum.isNaN, h]
theorem rg_le_of {k : FloatKind} {b : Nat} (h : nan k b = false) : rg k.format b ≤ k.format.infRung := by
  rw [nan_eq] at h
  simpa using h
theorem order_self (k : FloatKind) (x : Nat) : (k.format.order x x != some Ordering.eq) = nan k x := by
  cases h : nan k x with
  | true => rw [order_nan_left h]; rfl
  | false =>
    rw [order_sv k.format (exp_pos k) x x (rg_le_of h) (rg_le_of h)]
    simp

/-- two to the power of n, closed to simp -/
def pw (n : Nat) : Nat := 2 ^ n
theorem pw_pos (n : Nat) : 0 < pw n := Nat.two_pow_pos n
theorem pw_mul (a b : Nat) : 2 ^ (a + b) = 2 ^ a * pw b := Nat.pow_add 2 a b
theorem Mg_inf32 : Mg Ieee.single Ieee.single.infRung = pw 277 := by decide +kernel
theorem Mg_inf64 : Mg Ieee.double Ieee.double.infRung = 2 ^ 2098 := by decide +kernel
theorem inf32 : Ieee.single.infRung = 2139095040 := by decide +kernel
theorem inf64 : Ieee.double.infRung = 9218868437227405312 := by decide +kernel
theorem sw32 : Ieee.single.signWeight = 2147483648 := by decide +kernel
theorem sw64 : Ieee.double.signWeight = 9223372036854775808 := by decide +kernel
theorem least32 : Ieee.single.leastPlace = -149 := by decide +kernel
theorem least64 : Ieee.double.leastPlace = -1074 := by decide +kernel

/-- float32 to float64 -/
def fwide (x : Nat) : Nat := (floatToFloatBits .f32 x .f64).getD (qn .f64)
/-- float64 to float32, where it does not pass the greatest float32 -/
def fnar (x : Nat) : Nat := (floatToFloatBits .f64 x .f32).getD (qn .f32)
def Fits (x : Nat) : Prop := nan .f64 x = true ∨ (floatToFloatBits .f64 x .f32).isSome = true

/-- the float64's least place is so much below the float32's -/
def w925 : Nat := pw 925
theorem w925_pos : 0 < w925 := pw_pos 925
theorem w925_mul (a : Nat) : 2 ^ (a + 925) = 2 ^ a * w925 := pw_mul a 925

theorem wide_fin (x : Nat) (h : rg Ieee.single x < 2139095040) :
    floatToFloatBits .f32 x .f64 = some (fwide x) ∧ sg Ieee.double (fwide x) = sg Ieee.single x ∧ rg Ieee.double (fwide x) < 9218868437227405312 ∧ Mg Ieee.double (rg Ieee.double (fwide x)) = Mg Ieee.single (rg Ieee.single x) * w925 := by
  obtain ⟨m, e, hr, he, hm, hlt⟩ := read_fin Ieee.single x (by rw [inf32]; exact h)
  rw [least32] at he hm
  have hb32 : Ieee.single.binade = 8388608 := by decide +kernel
  have hb64 : Ieee.double.binade = 4503599627370496 := by decide +kernel
  obtain ⟨g, hg⟩ := Mg_surj Ieee.double m (e - -1074).toNat (by omega)
  have hgv : Mg Ieee.double g = Mg Ieee.single (rg Ieee.single x) * w925 := by
    rw [hg, ← hm, show (e - -1074).toNat = (e - -149).toNat + 925 by omega, w925_mul, Nat.mul_assoc]
  have hlt32 := Mg_smono Ieee.single (show rg Ieee.single x < Ieee.single.infRung by rw [inf32]; exact h)
  rw [Mg_inf32] at hlt32
  have hgi : g < Ieee.double.infRung := by
    refine (Mg_lt_iff Ieee.double).1 ?_
    rw [hgv, Mg_inf64]
    exact Nat.lt_of_lt_of_le (Nat.mul_lt_mul_of_pos_right hlt32 w925_pos) (of_decide_eq_true (by decide +kernel))
  have hsw : Ieee.double.infRung < Ieee.double.signWeight := by decide +kernel
  have henc : FloatKind.f64.encode (.number (sg Ieee.single x) m e) = Ieee.double.word (sg Ieee.single x) g := by
    show Ieee.double.nearest _ _ _ = _
    by_cases h0 : m = 0
    · subst h0
      have : g = 0 := Mg_inj Ieee.double (by rw [hg, Mg_zero]; simp)
      subst this
      simp [Format.nearest]
    · rw [nearest_eq _ _ _ _ h0, near_exact Ieee.double m e h0 g]
      · rw [Nat.min_eq_left (by omega)]
      · rw [hg, least64, show ((-1074 : Int) - e).toNat = 0 by omega]
        simp
  have hdec : (FloatKind.f64.decode (Ieee.double.word (sg Ieee.single x) g)).isInfinity = false := by
    obtain ⟨m', e', hr', _⟩ := read_fin Ieee.double (Ieee.double.word (sg Ieee.single x) g) (by rw [rg_word _ _ (by omega)]; exact hgi)
    show (Ieee.double.read _).isInfinity = false
    rw [hr']
    rfl
  have hf : floatToFloatBits .f32 x .f64 = some (Ieee.double.word (sg Ieee.single x) g) := by
    unfold floatToFloatBits
    rw [if_neg (by decide)]
    show (match Ieee.single.read x with | .nan _ _ => none | .infinity s => some (FloatKind.f64.encode (.infinity s)) | .number s m e => _) = _
    rw [hr]
    simp only [henc, hdec]
    simp
  have hw : fwide x = Ieee.double.word (sg Ieee.single x) g := by unfold fwide; rw [hf]; rfl
  rw [hw, rg_word _ _ (by omega), sg_word _ _ (by omega)]
  refine ⟨hf, rfl, ?_, hgv⟩
  rw [inf64] at hgi
  exact hgi

theorem wide_inf (x : Nat) (h : rg Ieee.single x = 2139095040) :
    floatToFloatBits .f32 x .f64 = some (fwide x) ∧ sg Ieee.double (fwide x) = sg Ieee.single x ∧ rg Ieee.double (fwide x) = 9218868437227405312 := by
  have hr := read_inf Ieee.single (by decide) x (by rw [inf32]; exact h)
  have hsw : Ieee.double.infRung < Ieee.double.signWeight := by decide +kernel
  have hf : floatToFloatBits .f32 x .f64 = some (Ieee.double.word (sg Ieee.single x) Ieee.double.infRung) := by
    unfold floatToFloatBits
    rw [if_neg (by decide)]
    show (match Ieee.single.read x with | .nan _ _ => none | .infinity s => some (FloatKind.f64.encode (.infinity s)) | .number s m e => _) = _
    rw [hr]
    rfl
  have hw : fwide x = Ieee.double.word (sg Ieee.single x) Ieee.double.infRung := by unfold fwide; rw [hf]; rfl
  rw [hw, rg_word _ _ hsw, sg_word _ _ hsw]
  exact ⟨hf, rfl, inf64⟩

theorem wide_some {x : Nat} (h : nan .f32 x = false) : floatToFloatBits .f32 x .f64 = some (fwide x) := by
  have := rg_le_of h
  change rg Ieee.single x ≤ Ieee.single.infRung at this
  rw [inf32] at this
  rcases Nat.lt_or_eq_of_le this with h1 | h1
  · exact (wide_fin x h1).1
  · exact (wide_inf x h1).1
theorem wide_nan {x : Nat} (h : nan .f32 x = true) : fwide x = qn .f64 := by
  unfold fwide
  rw [conv_nan (by decide) h]
  rfl
theorem nan_wide (x : Nat) : nan .f64 (fwide x) = nan .f32 x := by
  cases h : nan .f32 x with
  | true => rw [wide_nan h, nan_qn]
  | false =>
    have h2 := rg_le_of h
    change rg Ieee.single x ≤ Ieee.single.infRung at h2
    rw [inf32] at h2
    rw [nan_eq]
    change decide (Ieee.double.infRung < rg Ieee.double (fwide x)) = false
    rw [inf64]
    rcases Nat.lt_or_eq_of_le h2 with h1 | h1
    · have := (wide_fin x h1).2.2.1
      simp
      omega
    · have := (wide_inf x h1).2.2
      simp
      omega
theorem fwide_congr {x y : Nat} (h : FEq .f32 x y) : fwide x = fwide y := by
  rcases h.cases with rfl | ⟨h1, h2⟩
  · rfl
  · rw [wide_nan h1, wide_nan h2]
theorem fnar_nan {x : Nat} (h : nan .f64 x = true) : fnar x = qn .f32 := by
  unfold fnar
  rw [conv_nan (by decide) h]
  rfl
theorem fnar_congr {x y : Nat} (h : FEq .f64 x y) : fnar x = fnar y := by
  rcases h.cases with rfl | ⟨h1, h2⟩
  · rfl
  · rw [fnar_nan h1, fnar_nan h2]
theorem Fits.congr {x y : Nat} (h : FEq .f64 x y) (hy : Fits y) : Fits x := by
  rcases h.cases with rfl | ⟨h1, h2⟩
  · exact hy
  · exact .inl h1

section
variable {P : Program} (w : World)
theorem run_wide (src dst : TypeId) (hs : (P.underlying src).isSome = true) (hd : P.underlying dst = some (.float .f64)) (x : Nat) :
    ∃ v n, FEq .f64 v (fwide x) ∧ (convert src dst (.float .f32 x)).run P w = .ok (.float .f64 v) (w.drewN n) := by
  cases h : nan .f32 x with
  | true =>
    obtain ⟨v, hv, hr⟩ := run_conv_nan (P := P) w (s := .f32) (k := .f64) (by decide) src dst hs hd h
    exact ⟨v, 1, FEq.of_nan hv (by rw [nan_wide, h]), hr⟩
  | false => exact ⟨_, 0, FEq.refl _ _, run_convert_float_float w src dst .f32 .f64 x _ hs hd (wide_some h)⟩
theorem run_narrow (src dst : TypeId) (hs : (P.underlying src).isSome = true) (hd : P.underlying dst = some (.float .f32)) (x : Nat) (hx : Fits x) :
    ∃ v n, FEq .f32 v (fnar x) ∧ (convert src dst (.float .f64 x)).run P w = .ok (.float .f32 v) (w.drewN n) := by
  rcases hx with h | h
  · obtain ⟨v, hv, hr⟩ := run_conv_nan (P := P) w (s := .f64) (k := .f32) (by decide) src dst hs hd h
    exact ⟨v, 1, FEq.of_nan hv (by rw [fnar_nan h]; exact nan_qn _), hr⟩
  · obtain ⟨r, hr⟩ := Option.isSome_iff_exists.1 h
    refine ⟨r, 0, ?_, run_convert_float_float w src dst .f64 .f32 x _ hs hd hr⟩
    unfold fnar
    rw [hr]
    rfl
@[go_sem] theorem run_convert_same (src dst : TypeId) (k : FloatKind) (hs : (P.underlying src).isSome = true) (hd : P.underlying dst = some (.float k)) (x : Nat) :
    (convert src dst (.float k x)).run P w = .ok (.float k x) w :=
  run_convert_float_float w src dst k k x x hs hd (by simp [floatToFloatBits])
end

/-- THE WALK'S LAW for float64(x) of a float32 -/
theorem wpList_wide {P : Program} {ops : Array Oper} {Q : Exit → Act → World → Prop} {a : Act} {w : World} {rest : List Oper}
    {d : Option Tmp} {src dst ty : TypeId} {o : Operand} {pos : String} {af : Array Edge} {g : Option (Nat × Bool)}
    (hw : Region.wanted ⟨d, .convert src dst o, ty, pos, af, g⟩ (yielded ops a.tmps) = true)
    {x : Nat} (ho : a.eval o = .float .f32 x) (hs : (P.underlying src).isSome = true) (hd : P.underlying dst = some (.float .f64))
    (hK : ∀ v n, FEq .f64 v (fwide x) → wpList P ops Q rest (a.put d (.float .f64 v)) (w.drewN n)) :
    wpList P ops Q (⟨d, .convert src dst o, ty, pos, af, g⟩ :: rest) a w := by
  refine wpList_step fun K hK' => ?_
  rw [if_pos hw]
  obtain ⟨v, n, hv, hrun⟩ := run_wide (P := P) w src dst hs hd x
  unfold Oper.wp
  simp [execOp, ho, hrun]
  exact hK' _ _ (hK v n hv)

/-- THE WALK'S LAW for float32(x) of a float64 that does not pass the greatest float32 -/
theorem wpList_narrow {P : Program} {ops : Array Oper} {Q : Exit → Act → World → Prop} {a : Act} {w : World} {rest : List Oper}
    {d : Option Tmp} {src dst ty : TypeId} {o : Operand} {pos : String} {af : Array Edge} {g : Option (Nat × Bool)}
    (hw : Region.wanted ⟨d, .convert src dst o, ty, pos, af, g⟩ (yielded ops a.tmps) = true)
    {x : Nat} (ho : a.eval o = .float .f64 x) (hs : (P.underlying src).isSome = true) (hd : P.underlying dst = some (.float .f32)) (hx : Fits x)
    (hK : ∀ v n, FEq .f32 v (fnar x) → wpList P ops Q rest (a.put d (.float .f32 v)) (w.drewN n)) :
    wpList P ops Q (⟨d, .convert src dst o, ty, pos, af, g⟩ :: rest) a w := by
  refine wpList_step fun K hK' => ?_
  rw [if_pos hw]
  obtain ⟨v, n, hv, hrun⟩ := run_narrow (P := P) w src dst hs hd x hx
  unfold Oper.wp
  simp [execOp, ho, hrun]
  exact hK' _ _ (hK v n hv)

/-- returned v, having drawn for a while -/
def Ret (v : Value) (w : World) (e : Ending) (w' : World) : Prop := e = .returned v ∧ ∃ n, w' = w.drewN n
/-- returned a float that is x, up to which NaN, having drawn for a while -/
def RetF (k : FloatKind) (x : Nat) (w : World) (e : Ending) (w' : World) : Prop := ∃ v n, e = .returned (.float k v) ∧ FEq k v x ∧ w' = w.drewN n

def finB (x : Nat) : Bool := FloatKind.f32.format.order (fop .sub .f32 x x) 0 == some .eq

theorem and_mask63 (x : Nat) : (bits .andNot .u64 (x : Int) 9223372036854775808).toNat = x % 9223372036854775808 := by
  have h : bits .andNot .u64 (x : Int) 9223372036854775808 = bits .andNot .u64 ((x % 18446744073709551616 : Nat) : Int) 9223372036854775808 := by
    unfold bits
    have : BitVec.ofInt IntKind.u64.bits (x : Int) = BitVec.ofInt IntKind.u64.bits ((x % 18446744073709551616 : Nat) : Int) := by
      rw [BitVec.ofInt_natCast, BitVec.ofInt_natCast]
      apply BitVec.eq_of_toNat_eq
      simp [BitVec.toNat_ofNat, IntKind.bits]
    rw [this]
  rw [h, u64_andNot _ _ (by omega) (by omega) (by omega) (by omega)]
  simp only [Int.toNat_natCast]
  rw [show (x % 18446744073709551616) &&& (18446744073709551615 - Int.toNat 9223372036854775808) = x % 18446744073709551616 % 9223372036854775808 from Nat.and_two_pow_sub_one_eq_mod _ 63]
  omega
theorem signbit64 (x : Nat) : decide (wrap64 (x : Int) < 0) = sg Ieee.double x := by
  unfold wrap64 sg
  rw [sw64, Bool.eq_iff_iff]
  simp only [decide_eq_true_eq, beq_iff_eq]
  omega
theorem word_parts (f : Format) (w : Nat) (h : w < 2 * f.signWeight) : w = (if sg f w = true then f.signWeight else 0) + rg f w := by
  unfold sg rg
  have := Nat.div_add_mod w f.signWeight
  by_cases h1 : w < f.signWeight
  · rw [Nat.div_eq_of_lt h1, Nat.mod_eq_of_lt h1]
    simp
  · have h2 : w / f.signWeight = 1 := by
      apply Nat.div_eq_of_lt_le <;> omega
    rw [h2] at this ⊢
    simp
    omega
theorem word_ext {f : Format} {a b : Nat} (ha : a < 2 * f.signWeight) (hb : b < 2 * f.signWeight) (h1 : sg f a = sg f b) (h2 : rg f a = rg f b) : a = b := by
  rw [word_parts f a ha, word_parts f b hb, h1, h2]
theorem sg_fwide {x : Nat} (h : nan .f32 x = false) : sg Ieee.double (fwide x) = sg Ieee.single x := by
  have h2 := rg_le_of h
  change rg Ieee.single x ≤ Ieee.single.infRung at h2
  rw [inf32] at h2
  rcases Nat.lt_or_eq_of_le h2 with h1 | h1
  · exact (wide_fin x h1).2.1
  · exact (wide_inf x h1).2.1
theorem fwide_lt {x : Nat} : fwide x < 18446744073709551616 := by
  cases h : nan .f32 x with
  | true => rw [wide_nan h]; decide
  | false =>
    have h1 := wide_some h
    unfold floatToFloatBits at h1
    rw [if_neg (by decide)] at h1
    have hlt : ∀ d, FloatKind.f64.encode d < 18446744073709551616 := fun d => Ieee.double.write_lt d
    split at h1
    · cases h1
    · injection h1 with h1; rw [← h1]; exact hlt _
    · split at h1
      · cases h1
      · injection h1 with h1; rw [← h1]; exact hlt _

/-- the same number: what SameNumber tells -/
def sameB (a b : Nat) : Bool := cn .f32 a == cn .f32 b
theorem same_of_nan {a b : Nat} (h : nan .f32 a = true ∨ nan .f32 b = true) : sameB a b = (nan .f32 a && nan .f32 b) := by
  unfold sameB cn
  have := nan_qn .f32
  by_cases ha : nan .f32 a = true <;> by_cases hb : nan .f32 b = true <;> simp [ha, hb]
  · intro e; rw [← e] at hb; exact hb this
  · intro e; rw [e] at ha; exact ha this
  · simp [ha, hb] at h
theorem eq_of_order {k : FloatKind} {a b : Nat} (ha : nan k a = false) (hb : nan k b = false) (hla : a < 2 * k.format.signWeight) (hlb : b < 2 * k.format.signWeight) :
    (a = b) ↔ (k.format.order a b = some .eq ∧ sg k.format a = sg k.format b) := by
  constructor
  · rintro rfl
    have := order_self k a
    rw [ha] at this
    simp at this
    exact ⟨this, rfl⟩
  · rintro ⟨h1, h2⟩
    rw [order_sv k.format (exp_pos k) a b (rg_le_of ha) (rg_le_of hb)] at h1
    simp only [Option.some.injEq, Int.compare_eq_eq] at h1
    refine word_ext hla hlb h2 (Mg_inj k.format ?_)
    unfold sv at h1
    rw [h2] at h1
    split at h1 <;> omega
theorem same_spell {a b : Nat} (ha : nan .f32 a = false) (hb : nan .f32 b = false) (hla : a < 4294967296) (hlb : b < 4294967296) :
    sameB a b = ((FloatKind.f32.format.order a b == some .eq) && (sg Ieee.double (fwide a) == sg Ieee.double (fwide b))) := by
  have h := eq_of_order ha hb (by show a < 2 * Ieee.single.signWeight; rw [sw32]; omega) (by show b < 2 * Ieee.single.signWeight; rw [sw32]; omega)
  rw [sg_fwide ha, sg_fwide hb]
  unfold sameB cn
  rw [Bool.eq_iff_iff]
  simp only [ha, hb, Bool.false_eq_true, if_false, beq_iff_eq, Bool.and_eq_true]
  exact h

theorem wf32 {x : Nat} (h : (Lit.float .f32 x).wf = true) : x < 4294967296 := by simpa [Lit.wf] using h
theorem wf64 {x : Nat} (h : (Lit.float .f64 x).wf = true) : x < 18446744073709551616 := by simpa [Lit.wf] using h
theorem hid {p : Prop} (h : p) : Hid p := h
theorem ret_bool {a b : Bool} (h : a = b) : Ending.returned (.bool a) = .returned (.bool b) := by rw [h]
theorem ret_int {k : IntKind} {a b : Int} (h : a = b) : Ending.returned (.int k a) = .returned (.int k b) := by rw [h]
theorem ret_float {k : FloatKind} {a b : Nat} (h : a = b) : Ending.returned (.float k a) = .returned (.float k b) := by rw [h]
theorem finB_eq {v x : Nat} (h : FEq .f32 v (fop .sub .f32 x x)) : (FloatKind.f32.format.order v 0 == some .eq) = finB x := by
  rw [order_congr h (FEq.refl _ _)]
  rfl

theorem i64_and_nat (a b : Nat) (ha : a < 9223372036854775808) (hb : b < 9223372036854775808) : bits .and .i64 (a : Int) (b : Int) = ((a &&& b : Nat) : Int) := by
  have h1 : (BitVec.ofInt 64 (a : Int)).toNat = a := by
    rw [BitVec.ofInt_natCast, BitVec.toNat_ofNat]; exact Nat.mod_eq_of_lt (by omega)
  have h2 : (BitVec.ofInt 64 (b : Int)).toNat = b := by
    rw [BitVec.ofInt_natCast, BitVec.toNat_ofNat]; exact Nat.mod_eq_of_lt (by omega)
  show IntKind.i64.wrap ((BitVec.ofInt 64 (a : Int) &&& BitVec.ofInt 64 (b : Int)).toNat : Int) = _
  rw [BitVec.toNat_and, h1, h2]
  have : a &&& b ≤ a := Nat.and_le_left
  simp [IntKind.wrap, IntKind.bits, IntKind.signed]
  omega
theorem and_zero_mask (x k n : Nat) : (x &&& ((2 ^ n - 1) * 2 ^ k) = 0) ↔ x / 2 ^ k % 2 ^ n = 0 := by
  rw [show (2 ^ n - 1) * 2 ^ k = (2 ^ n - 1) <<< k by rw [Nat.shiftLeft_eq]]
  constructor
  · intro h
    have h2 : (x &&& (2 ^ n - 1) <<< k) >>> k = 0 := by rw [h]; simp
    rw [Nat.shiftRight_and_distrib, Nat.shiftLeft_shiftRight, Nat.and_two_pow_sub_one_eq_mod, Nat.shiftRight_eq_div_pow] at h2
    exact h2
  · intro h
    have h2 : (x >>> k) &&& (2 ^ n - 1) = 0 := by rw [Nat.and_two_pow_sub_one_eq_mod, Nat.shiftRight_eq_div_pow]; exact h
    apply Nat.eq_of_testBit_eq
    intro i
    have h3 := congrArg (fun y => Nat.testBit y (i - k)) h2
    simp only [Nat.testBit_and, Nat.testBit_shiftRight, Nat.zero_testBit] at h3
    simp only [Nat.testBit_and, Nat.testBit_shiftLeft, Nat.zero_testBit]
    by_cases hk : k ≤ i
    · rw [show k + (i - k) = i by omega] at h3
      simp only [hk, decide_true, Bool.true_and]
      exact h3
    · simp [hk]
/-- zero or subnormal: the exponent field is nought -/
theorem low_exponent (x : Nat) (hx : x < 4294967296) : (bits .and .i64 (x : Int) 2139095040 == 0) = decide (rg Ieee.single x < 8388608) := by
  have e := i64_and_nat x 2139095040 (by omega) (by omega)
  rw [show ((2139095040 : Nat) : Int) = 2139095040 from rfl] at e
  rw [e]
  have h := and_zero_mask x 23 8
  rw [show (2 ^ 8 - 1) * 2 ^ 23 = 2139095040 from rfl] at h
  unfold rg
  rw [sw32, Bool.eq_iff_iff]
  simp only [beq_iff_eq, decide_eq_true_eq]
  rw [show ((x &&& 2139095040 : Nat) : Int) = 0 ↔ (x &&& 2139095040) = 0 from by omega, h]
  omega
theorem low_exponent_qn : (bits .and .i64 ((qn .f32 : Nat) : Int) 2139095040 == 0) = false := by decide +kernel

def subB (x : Nat) : Bool := decide (rg Ieee.single x ≠ 0 ∧ rg Ieee.single x < 8388608)
theorem neq_zero32 (x : Nat) : (FloatKind.f32.format.order x 0 != some Ordering.eq) = (nan .f32 x || decide (rg Ieee.single x ≠ 0)) := by
  cases h : nan .f32 x with
  | true => rw [order_nan_left h]; rfl
  | false =>
    rw [order_sv FloatKind.f32.format (by decide) x 0 (rg_le_of h) (by decide +kernel)]
    have h0 : sv FloatKind.f32.format 0 = 0 := by decide +kernel
    rw [h0]
    have hm : Mg Ieee.single (rg Ieee.single x) = 0 ↔ rg Ieee.single x = 0 := by
      constructor
      · intro e; exact Mg_inj Ieee.single (by rw [e, Mg_zero])
      · intro e; rw [e, Mg_zero]
    have hs : sv FloatKind.f32.format x = 0 ↔ rg Ieee.single x = 0 := by
      rw [← hm]
      unfold sv
      change (if sg Ieee.single x = true then -(Mg Ieee.single (rg Ieee.single x) : Int) else (Mg Ieee.single (rg Ieee.single x) : Int)) = 0 ↔ _
      split <;> omega
    rw [Bool.eq_iff_iff]
    simp only [Bool.false_or, decide_eq_true_eq, bne_iff_ne, ne_eq, Option.some.injEq, Int.compare_eq_eq, hs]
theorem rg_rg (f : Format) (x : Nat) : rg f (rg f x) = rg f x := by
  unfold rg
  exact Nat.mod_eq_of_lt (Nat.mod_lt _ (signWeight_pos f))
theorem sg_rg (f : Format) (x : Nat) : sg f (rg f x) = false := by
  unfold sg rg
  rw [Nat.div_eq_of_lt (Nat.mod_lt _ (signWeight_pos f))]
  rfl
theorem nan_rg {k : FloatKind} (x : Nat) : nan k (rg k.format x) = nan k x := by rw [nan_eq, nan_eq, rg_rg]
theorem Mg_2_126 : Mg Ieee.double 4039728865751334912 = Mg Ieee.single 8388608 * w925 := by decide +kernel
/-- nearer to 0 than 2 to the power of -126: the same asked of the wide number -/
theorem low_wide (x : Nat) (h : nan .f32 x = false) : (FloatKind.f64.format.order (rg Ieee.double (fwide x)) 4039728865751334912 == some Ordering.lt) = decide (rg Ieee.single x < 8388608) := by
  have h2 := rg_le_of h
  change rg Ieee.single x ≤ Ieee.single.infRung at h2
  rw [inf32] at h2
  have hn : nan .f64 (fwide x) = false := by rw [nan_wide, h]
  have hle := rg_le_of hn
  rw [order_sv FloatKind.f64.format (by decide) _ _ (by show rg Ieee.double (rg Ieee.double _) ≤ _; rw [rg_rg]; exact hle) (by decide +kernel)]
  have hc : sv FloatKind.f64.format 4039728865751334912 = (Mg Ieee.single 8388608 * w925 : Nat) := by rw [← Mg_2_126]; decide +kernel
  have hs : sv FloatKind.f64.format (rg Ieee.double (fwide x)) = (Mg Ieee.double (rg Ieee.double (fwide x)) : Nat) := by
    unfold sv
    change (if sg Ieee.double (rg Ieee.double (fwide x)) = true then -(Mg Ieee.double (rg Ieee.double (rg Ieee.double (fwide x))) : Int) else (Mg Ieee.double (rg Ieee.double (rg Ieee.double (fwide x))) : Int)) = _
    rw [sg_rg, rg_rg]
    simp
  rw [hc, hs, Bool.eq_iff_iff]
  simp only [beq_iff_eq, Option.some.injEq, Int.compare_eq_lt, decide_eq_true_eq, Int.ofNat_lt]
  rcases Nat.lt_or_eq_of_le h2 with h1 | h1
  · rw [(wide_fin x h1).2.2.2]
    rw [Nat.mul_lt_mul_right w925_pos, Mg_lt_iff]
  · rw [(wide_inf x h1).2.2, ← Mg_2_126, Mg_lt_iff, h1]
    omega

/-- what the program's IsSubnormal asks of a number that is not zero -/
theorem low_told {x v : Nat} (h : nan .f32 x = true ∨ rg Ieee.single x ≠ 0) (hv : FEq .f64 v (fwide x)) :
    (FloatKind.f64.format.order (rg Ieee.double v) 4039728865751334912 == some Ordering.lt) = subB x := by
  cases hn : nan .f32 x with
  | true =>
    rw [order_nan_left (show nan .f64 (rg Ieee.double v) = true by rw [show rg Ieee.double v = rg FloatKind.f64.format v from rfl, nan_rg, hv.nan_eq, nan_wide, hn])]
    rw [nan_eq] at hn
    change decide (Ieee.single.infRung < rg Ieee.single x) = true at hn
    rw [inf32] at hn
    simp at hn
    unfold subB
    symm
    simp
    omega
  | false =>
    rw [hv.eq (by rw [nan_wide, hn]), low_wide x hn]
    rw [hn] at h
    unfold subB
    rcases h with h | h
    · cases h
    · simp [h]
theorem subB_zero {x : Nat} (h : ¬ (nan .f32 x = true ∨ rg Ieee.single x ≠ 0)) : subB x = false := by
  unfold subB
  simp
  intro h1
  exact absurd (.inr h1) h
/-- what the reference's IsSubnormal asks of the bits of a number that is not zero -/
theorem low_bits {x : Nat} (hx : x < 4294967296) (h : nan .f32 x = true ∨ rg Ieee.single x ≠ 0) :
    (bits .and .i64 ((cn .f32 x : Nat) : Int) 2139095040 == 0) = subB x := by
  cases hn : nan .f32 x with
  | true =>
    rw [show cn .f32 x = qn .f32 by simp [cn, hn], low_exponent_qn]
    rw [nan_eq] at hn
    change decide (Ieee.single.infRung < rg Ieee.single x) = true at hn
    rw [inf32] at hn
    simp at hn
    unfold subB
    symm
    simp
    omega
  | false =>
    rw [show cn .f32 x = x by simp [cn, hn], low_exponent x hx]
    rw [hn] at h
    unfold subB
    rcases h with h | h
    · cases h
    · simp [h]

theorem wide_same {g w v v' : Nat} (h : FEq .f32 g w) (hv : FEq .f64 v (fwide g)) (hv' : FEq .f64 v' (fwide w)) : FEq .f64 v v' := by
  rw [fwide_congr h] at hv
  exact hv.trans hv'.symm

/-- a subnormal number flushed to a zero of its sign -/
def flush (x : Nat) : Nat := if rg Ieee.single x < 8388608 then (if sg Ieee.single x = true then 2147483648 else 0) else x
def flush64 (x : Nat) : Nat := if sg Ieee.double x = true then 9223372036854775808 else 0
theorem low_not_nan {x : Nat} (h : rg Ieee.single x < 8388608) : nan .f32 x = false := by
  rw [nan_eq]
  change decide (Ieee.single.infRung < rg Ieee.single x) = false
  rw [inf32]
  simp
  omega
theorem and_pow (x k : Nat) : x &&& 2 ^ k = if Nat.testBit x k = true then 2 ^ k else 0 := by
  apply Nat.eq_of_testBit_eq
  intro i
  by_cases hi : k = i
  · subst hi
    cases h : Nat.testBit x k <;> simp [h]
  · cases h : Nat.testBit x k <;> simp [hi]
theorem and_sign64 (x : Nat) : bits .or .u64 (bits .andNot .u64 0 9223372036854775808) (bits .and .u64 (x : Int) 9223372036854775808) = (flush64 x : Nat) := by
  have h0 : bits .andNot .u64 0 9223372036854775808 = 0 := by decide +kernel
  have h : bits .and .u64 (x : Int) 9223372036854775808 = bits .and .u64 ((x % 18446744073709551616 : Nat) : Int) 9223372036854775808 := by
    unfold bits
    have : BitVec.ofInt IntKind.u64.bits (x : Int) = BitVec.ofInt IntKind.u64.bits ((x % 18446744073709551616 : Nat) : Int) := by
      rw [BitVec.ofInt_natCast, BitVec.ofInt_natCast]
      apply BitVec.eq_of_toNat_eq
      simp [BitVec.toNat_ofNat, IntKind.bits]
    rw [this]
  rw [h0, h, u64_and _ _ (by omega) (by omega) (by omega) (by omega)]
  simp only [Int.toNat_natCast]
  unfold flush64 sg
  rw [sw64]
  have e := and_pow (x % 18446744073709551616) 63
  rw [show (2 : Nat) ^ 63 = Int.toNat 9223372036854775808 from rfl] at e
  rw [e]
  have e2 : Nat.testBit (x % 18446744073709551616) 63 = (x / 9223372036854775808 % 2 == 1) := by
    rw [Nat.testBit_eq_decide_div_mod_eq, Bool.eq_iff_iff]
    simp only [decide_eq_true_eq, beq_iff_eq]
    omega
  rw [e2]
  cases (x / 9223372036854775808 % 2 == 1) <;> decide +kernel
theorem flush_wide {x : Nat} (h : nan .f32 x = false) : flush64 (fwide x) = if sg Ieee.single x = true then 9223372036854775808 else 0 := by
  unfold flush64
  rw [sg_fwide h]
theorem fits_zero (b : Bool) : Fits (if b = true then 9223372036854775808 else 0) := by
  cases b
  · exact .inr (by decide +kernel)
  · exact .inr (by decide +kernel)
theorem nar_zero (b : Bool) : fnar (if b = true then 9223372036854775808 else 0) = if b = true then 2147483648 else 0 := by
  cases b <;> decide +kernel
theorem nan_zero (b : Bool) : nan .f32 (if b = true then 2147483648 else 0) = false := by cases b <;> decide +kernel
theorem low_mask {x : Nat} (hx : x < 4294967296) (h : rg Ieee.single x < 8388608) : (bits .and .i64 ((cn .f32 x : Nat) : Int) 2147483648) = ((if sg Ieee.single x = true then 2147483648 else 0 : Nat) : Int) := by
  have hn := low_not_nan h
  rw [show cn .f32 x = x by simp [cn, hn]]
  have e := i64_and_nat x 2147483648 (by omega) (by omega)
  rw [show ((2147483648 : Nat) : Int) = 2147483648 from rfl] at e
  rw [e]
  have e := and_pow x 31
  rw [show (2 : Nat) ^ 31 = 2147483648 from rfl] at e
  rw [e]
  unfold sg
  rw [sw32]
  have e2 : Nat.testBit x 31 = (x / 2147483648 % 2 == 1) := by
    rw [Nat.testBit_eq_decide_div_mod_eq, Bool.eq_iff_iff]
    simp
  rw [e2]
theorem flush_zero {x : Nat} (hx : x < 4294967296) (h : rg Ieee.single x = 0) : flush x = x := by
  have := word_parts Ieee.single x (by rw [sw32]; omega)
  rw [h, sw32] at this
  unfold flush
  rw [h, if_pos (by decide)]
  exact this.symm
theorem flush_other {x : Nat} (hx : x < 4294967296) (h : subB x = false) : flush x = x := by
  by_cases h0 : rg Ieee.single x = 0
  · exact flush_zero hx h0
  · unfold subB at h
    simp [h0] at h
    unfold flush
    rw [if_neg (by omega)]
theorem flush_low {x : Nat} (h : rg Ieee.single x < 8388608) : flush x = if sg Ieee.single x = true then 2147483648 else 0 := by
  unfold flush
  rw [if_pos h]
/-- the bits of the exponent are asked of the bits of a number -/
theorem low_cn {x : Nat} (hx : x < 4294967296) : (bits .and .i64 ((cn .f32 x : Nat) : Int) 2139095040 == 0) = decide (rg Ieee.single x < 8388608) := by
  cases hn : nan .f32 x with
  | true =>
    rw [show cn .f32 x = qn .f32 by simp [cn, hn], low_exponent_qn]
    rw [nan_eq] at hn
    change decide (Ieee.single.infRung < rg Ieee.single x) = true at hn
    rw [inf32] at hn
    simp at hn
    symm
    simp
    omega
  | false => rw [show cn .f32 x = x by simp [cn, hn], low_exponent x hx]

/-- what float64(x) of a float32 gives in a world: for a NaN, what the tape says -/
def wv (x : Nat) (w : World) : Nat := if nan .f32 x = true then Question.cut (.nanConv .f64 x) (w.tape w.drawn (.nanConv .f64 x)) else fwide x
def wn (x : Nat) : Nat := if nan .f32 x = true then 1 else 0
theorem wv_feq (x : Nat) (w : World) : FEq .f64 (wv x w) (fwide x) := by
  unfold wv
  cases h : nan .f32 x with
  | true => exact FEq.of_nan (by simpa using cut_nanConv .f64 x _) (by rw [nan_wide, h])
  | false => exact FEq.refl _ _
theorem run_wide_eq {P : Program} (src dst : TypeId) (hs : (P.underlying src).isSome = true) (hd : P.underlying dst = some (.float .f64)) (x : Nat) (w : World) :
    (convert src dst (.float .f32 x)).run P w = .ok (.float .f64 (wv x w)) (w.drewN (wn x)) := by
  unfold wv wn
  cases h : nan .f32 x with
  | true =>
    obtain ⟨a, b, hdec⟩ := read_of_nan h
    obtain ⟨u, hs'⟩ := Option.isSome_iff_exists.1 hs
    cases u <;> simp [convert, run_underlying hs', run_underlying hd, Conv.floatToFloat, FloatKind.decode, hdec, choose, Sem.run, Question.forced, World.drewN] <;> rfl
  | false => exact run_convert_float_float w src dst .f32 .f64 x _ hs hd (wide_some h)

/-- returned a float that is x, up to which NaN, and a bool; having drawn for a while -/
def RetFB (k : FloatKind) (x : Nat) (b : Bool) (w : World) (e : Ending) (w' : World) : Prop := ∃ v n, e = .returned (.tuple #[.float k v, .bool b]) ∧ FEq k v x ∧ w' = w.drewN n
end Go.Proofs.Fl
