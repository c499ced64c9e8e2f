/-
  Texts for the proof of Products, put together (part 1 of 3).
-/
import Derived.WalkKit
import Derived.Laws.FloatArith
import Derived.Laws.FloatBits
import Derived.Laws.Cover2
import Derived.Laws.Cover3
import Derived.Laws.BitsAllLaws
import Derived.RowKit
import Derived.Below
import Derived.Deep.Draws
import Derived.Test.YtkbfhooiloaokaaGreatDoorChecked
import Derived.WalkLawsBesides
import Derived.WalkSpells
import Derived.Handy
import Derived.Laws.Externs
import Derived.Laws.OwnMore
import Derived.WalkSmall
import Derived.Deep.Slices
import Derived.Lib.ItoaNum
import Derived.Lib.ItoaLen
import Derived.Lib.ParseIntB
import Derived.Lib.Join
import Derived.Deep.AppendLies
import Derived.Deep.RegionLaw
import Derived.Laws.IdiomStrings
import Derived.Lib.UnsafeStr
import Derived.LoopTactic
import Derived.OwnWalk
import Derived.Lib.Repeat
import Derived.Shelf.Strings.Builder1
import Derived.Shelf.Strings.Builder2
import Derived.Shelf.Strings.OnBuilder
import Derived.Shelf.Strings.BuilderF
import Derived.Shelf.LaysM
import Derived.Shelf.Strconv.Clone
import Derived.Shelf.Strconv.SyntaxError
import Derived.Shelf.LaysC
import Derived.Shelf.Strconv.ToError
import Derived.Shelf.Strings.Search1
import Derived.Shelf.Strings.Search2
import Derived.Shelf.Strings.Search3
import Derived.Shelf.Strings.Count
import Derived.Shelf.Strings.Shaped
import Derived.Shelf.Strings.Prefix
import Derived.Shelf.Strings.Split
import Derived.Shelf.Bits.Mul64
import Derived.Shelf.Strings.Repeat
import Derived.Shelf.Unicode.DecodeSlow
import Derived.Test.YtkbfhooiloaokaaGreatDoorProg
import Derived.Lib.AppendIntMem
import Derived.Stop.LaidErr
import Derived.Lib.SplitLaws
/-
  Floats: what the operations of the model give, up to which NaN it is; how rounding keeps the order of what a format has. Over no program.
-/
namespace Go.Proofs.Fl
open Go Ieee Go.RowKit

/-! ### How a number is rounded: 'nearest' keeps the order of what the format has -/

/-- the magnitude of a rung, in units of the least place -/
def Mg (f : Format) (g : Nat) : Nat := if g < f.binade then g else (f.binade + g % f.binade) * 2 ^ (g / f.binade - 1)

theorem binade_pos (f : Format) : 0 < f.binade := Nat.two_pow_pos _

theorem Mg_eq (f : Format) (q k : Nat) (hk : k ≤ 2 * f.binade) (h : q = 0 ∨ f.binade ≤ k) : Mg f (q * f.binade + k) = k * 2 ^ q := by
  have hB := binade_pos f
  unfold Mg
  generalize f.binade = B at *
  by_cases h1 : k < B
  · obtain rfl : q = 0 := by omega
    simp [h1]
  · have h2 : ¬ q * B + k < B := by
      intro h3
      have : 0 ≤ q * B := Nat.zero_le _
      omega
    rw [if_neg h2]
    by_cases h4 : k < 2 * B
    · obtain ⟨t, rfl⟩ : ∃ t, k = B + t := ⟨k - B, by omega⟩
      have e : q * B + (B + t) = t + (q + 1) * B := by rw [Nat.succ_mul]; omega
      rw [e, Nat.add_mul_mod_self_right, Nat.mod_eq_of_lt (by omega), Nat.add_mul_div_right _ _ hB, Nat.div_eq_of_lt (by omega : t < B)]
      congr 2
      omega
    · obtain rfl : k = 2 * B := by omega
      have e : q * B + 2 * B = 0 + (q + 2) * B := by rw [Nat.add_mul]; omega
      rw [e, Nat.add_mul_mod_self_right, Nat.add_mul_div_right _ _ hB]
      simp
      rw [Nat.pow_succ, Nat.mul_comm 2 B, Nat.mul_assoc, Nat.mul_comm 2]

theorem rung_form (f : Format) (g : Nat) : ∃ q k, g = q * f.binade + k ∧ k < 2 * f.binade ∧ (q = 0 ∨ f.binade ≤ k) := by
  have hB := binade_pos f
  by_cases h : g < f.binade
  · exact ⟨0, g, by simp, by omega, .inl rfl⟩
  · have h1 := Nat.div_add_mod g f.binade
    have h2 := Nat.mod_lt g hB
    have h3 : 1 ≤ g / f.binade := by
      apply (Nat.le_div_iff_mul_le hB).2
      omega
    refine ⟨g / f.binade - 1, f.binade + g % f.binade, ?_, by omega, .inr (by omega)⟩
    have : (g / f.binade - 1) * f.binade + f.binade = g / f.binade * f.binade := by
      rw [← Nat.succ_mul]
      congr 1
      omega
    rw [Nat.mul_comm] at h1
    omega

theorem Mg_succ (f : Format) (g : Nat) : Mg f g < Mg f (g + 1) := by
  obtain ⟨q, k, rfl, hk, h⟩ := rung_form f g
  rw [Nat.add_assoc, Mg_eq f q k (by omega) h, Mg_eq f q (k + 1) (by omega) (by omega)]
  exact Nat.mul_lt_mul_of_pos_right (by omega) (Nat.two_pow_pos _)

theorem Mg_mono (f : Format) {a b : Nat} (h : a ≤ b) : Mg f a ≤ Mg f b := by
  induction h with
  | refl => exact Nat.le_refl _
  | step _ ih => exact Nat.le_trans ih (Nat.le_of_lt (Mg_succ f _))
theorem Mg_smono (f : Format) {a b : Nat} (h : a < b) : Mg f a < Mg f b := Nat.lt_of_lt_of_le (Mg_succ f a) (Mg_mono f h)
theorem Mg_lt_iff (f : Format) {a b : Nat} : Mg f a < Mg f b ↔ a < b :=
  ⟨fun h => Nat.lt_of_not_le fun h' => absurd (Mg_mono f h') (by omega), Mg_smono f⟩
theorem Mg_le_iff (f : Format) {a b : Nat} : Mg f a ≤ Mg f b ↔ a ≤ b :=
  ⟨fun h => Nat.le_of_not_lt fun h' => absurd (Mg_smono f h') (by omega), Mg_mono f⟩
theorem Mg_inj (f : Format) {a b : Nat} (h : Mg f a = Mg f b) : a = b :=
  Nat.le_antisymm ((Mg_le_iff f).1 (by omega)) ((Mg_le_iff f).1 (by omega))
theorem Mg_zero (f : Format) : Mg f 0 = 0 := by simp [Mg, binade_pos]

/-- every significand of at most the format's digits, however far shifted, is some rung's magnitude -/
theorem Mg_surj (f : Format) (m q : Nat) (hm : m < 2 * f.binade) : ∃ g, Mg f g = m * 2 ^ q := by
  by_cases h0 : m = 0
  · exact ⟨0, by simp [h0, Mg_zero]⟩
  have hB : f.binade = 2 ^ f.fractionBits := rfl
  have hl : m.log2 ≤ f.fractionBits := by
    have : m < 2 ^ (f.fractionBits + 1) := by rw [Nat.pow_succ]; omega
    have := (Nat.log2_lt h0).2 this
    omega
  have hlo := Nat.log2_self_le h0
  have hhi := Nat.lt_log2_self (n := m)
  by_cases h : m.log2 + q ≤ f.fractionBits
  · refine ⟨0 * f.binade + m * 2 ^ q, ?_⟩
    rw [Mg_eq f 0 _ _ (.inl rfl)]
    · simp
    · rw [hB, ← Nat.pow_succ']
      have : m * 2 ^ q < 2 ^ (m.log2 + 1) * 2 ^ q := Nat.mul_lt_mul_of_pos_right hhi (Nat.two_pow_pos _)
      rw [← Nat.pow_add] at this
      have := Nat.pow_le_pow_right (n := 2) (by omega) (by omega : m.log2 + 1 + q ≤ f.fractionBits + 1)
      simp only [Nat.succ_eq_add_one]
      omega
  · refine ⟨(m.log2 + q - f.fractionBits) * f.binade + m * 2 ^ (f.fractionBits - m.log2), ?_⟩
    rw [Mg_eq]
    · rw [Nat.mul_assoc, ← Nat.pow_add]
      congr 2
      omega
    · rw [hB, ← Nat.pow_succ']
      have : m * 2 ^ (f.fractionBits - m.log2) < 2 ^ (m.log2 + 1) * 2 ^ (f.fractionBits - m.log2) := Nat.mul_lt_mul_of_pos_right hhi (Nat.two_pow_pos _)
      rw [← Nat.pow_add] at this
      rw [show f.fractionBits.succ = m.log2 + 1 + (f.fractionBits - m.log2) by omega]
      omega
    · right
      rw [hB]
      have : 2 ^ m.log2 * 2 ^ (f.fractionBits - m.log2) ≤ m * 2 ^ (f.fractionBits - m.log2) := Nat.mul_le_mul_right _ hlo
      rw [← Nat.pow_add, show m.log2 + (f.fractionBits - m.log2) = f.fractionBits by omega] at this
      exact this

/-- rounding to a whole number: off by a half at most -/
theorem cut_even (neg : Bool) (n drop : Nat) :
    2 * n ≤ (2 * Toward.even.cut neg n drop + 1) * 2 ^ drop ∧ 2 * Toward.even.cut neg n drop * 2 ^ drop ≤ 2 * n + 2 ^ drop := by
  unfold Toward.cut
  simp only [Nat.shiftLeft_eq, Nat.one_mul]
  by_cases hd : drop ≤ n.log2 + 2
  · rw [Nat.min_eq_left hd]
    have hg : 0 < 2 ^ drop := Nat.two_pow_pos _
    have h1 := Nat.div_add_mod n (2 ^ drop)
    have h2 := Nat.mod_lt n hg
    generalize 2 ^ drop = G at *
    generalize n / G = Q at *
    generalize n % G = r at *
    have key : ∀ c : Bool, (c = true → G ≤ 2 * r) → (c = false → 2 * r ≤ G) →
        2 * n ≤ (2 * (Q + c.toNat) + 1) * G ∧ 2 * (Q + c.toNat) * G ≤ 2 * n + G := by
      intro c hc1 hc2
      subst h1
      cases c with
      | false =>
        have := hc2 rfl
        simp only [Bool.toNat_false, Nat.add_zero, Nat.add_mul, Nat.one_mul, Nat.mul_assoc, Nat.mul_add, Nat.mul_comm Q G]
        omega
      | true =>
        have := hc1 rfl
        simp only [Bool.toNat_true, Nat.add_mul, Nat.one_mul, Nat.mul_assoc, Nat.mul_add, Nat.mul_comm Q G]
        omega
    apply key
    · intro h
      simp at h
      omega
    · intro h
      simp at h
      omega
  · rw [Nat.min_eq_right (by omega)]
    have hn : n < 2 ^ (n.log2 + 1) := Nat.lt_log2_self
    have e2 : 2 ^ (n.log2 + 2) = 2 * 2 ^ (n.log2 + 1) := by rw [Nat.pow_succ, Nat.mul_comm]
    have hG : 2 ^ (n.log2 + 2) ≤ 2 ^ drop := Nat.pow_le_pow_right (by omega) (by omega)
    have hq : n / 2 ^ (n.log2 + 2) = 0 := Nat.div_eq_of_lt (by omega)
    have hr : n % 2 ^ (n.log2 + 2) = n := Nat.mod_eq_of_lt (by omega)
    rw [hq, hr]
    have c1 : decide (2 ^ (n.log2 + 2) < 2 * n) = false := by simp; omega
    have c2 : (2 ^ (n.log2 + 2) == 2 * n) = false := by simp; omega
    rw [c1, c2]
    simp
    omega

/-- the rung that 'nearest' writes (ahead of the bound by infinity) -/
def nearRung (f : Format) (mag : Nat) (place : Int) : Nat :=
  let last := max (place + mag.log2 - f.fractionBits) f.leastPlace
  (last - f.leastPlace).toNat * f.binade + Toward.even.cut false (mag <<< (place - last).toNat) (last - place).toNat

theorem cut_even_neg (neg : Bool) (n drop : Nat) : Toward.even.cut neg n drop = Toward.even.cut false n drop := rfl

theorem nearest_eq (f : Format) (neg : Bool) (mag : Nat) (place : Int) (h : mag ≠ 0) :
    f.nearest neg mag place = f.word neg (min (nearRung f mag place) f.infRung) := by
  unfold Format.nearest
  rw [if_neg h]
  rfl

/-- what is to be said of the pieces of 'nearRung', in whole numbers -/
theorem near_parts (f : Format) (mag : Nat) (place : Int) (h : mag ≠ 0) : ∃ q K n drop : Nat,
    nearRung f mag place = q * f.binade + K ∧
    mag * 2 ^ (place - f.leastPlace).toNat * 2 ^ drop = n * 2 ^ q * 2 ^ (f.leastPlace - place).toNat ∧
    2 * n ≤ (2 * K + 1) * 2 ^ drop ∧ 2 * K * 2 ^ drop ≤ 2 * n + 2 ^ drop ∧
    n < 2 * f.binade * 2 ^ drop ∧ (q = 0 ∨ f.binade * 2 ^ drop ≤ n) := by
  have hlo := Nat.log2_self_le h
  have hhi := Nat.lt_log2_self (n := mag)
  have hB : f.binade = 2 ^ f.fractionBits := rfl
  unfold nearRung
  generalize hl : max (place + mag.log2 - f.fractionBits) f.leastPlace = last
  simp only []
  have hc := cut_even false (mag <<< (place - last).toNat) (last - place).toNat
  refine ⟨(last - f.leastPlace).toNat, Toward.even.cut false (mag <<< (place - last).toNat) (last - place).toNat, mag <<< (place - last).toNat, (last - place).toNat, rfl, ?_, hc.1, hc.2, ?_, ?_⟩
  · rw [Nat.shiftLeft_eq]
    simp only [Nat.mul_assoc, ← Nat.pow_add]
    congr 2
    omega
  · rw [Nat.shiftLeft_eq, hB, ← Nat.pow_succ', ← Nat.pow_add]
    have : mag * 2 ^ (place - last).toNat < 2 ^ (mag.log2 + 1) * 2 ^ (place - last).toNat := Nat.mul_lt_mul_of_pos_right hhi (Nat.two_pow_pos _)
    rw [← Nat.pow_add] at this
    have h2 := Nat.pow_le_pow_right (n := 2) (by omega) (by omega : mag.log2 + 1 + (place - last).toNat ≤ f.fractionBits.succ + (last - place).toNat)
    omega
  · by_cases hq : (last - f.leastPlace).toNat = 0
    · exact .inl hq
    · right
      rw [Nat.shiftLeft_eq, hB, ← Nat.pow_add]
      have : 2 ^ mag.log2 * 2 ^ (place - last).toNat ≤ mag * 2 ^ (place - last).toNat := Nat.mul_le_mul_right _ hlo
      rw [← Nat.pow_add] at this
      have h2 := Nat.pow_le_pow_right (n := 2) (by omega) (by omega : f.fractionBits + (last - place).toNat ≤ mag.log2 + (place - last).toNat)
      omega

/-- a number that is at most a rung's magnitude is rounded to that rung at most -/
theorem near_le (f : Format) (mag : Nat) (place : Int) (h : mag ≠ 0) (g : Nat)
    (hv : mag * 2 ^ (place - f.leastPlace).toNat ≤ Mg f g * 2 ^ (f.leastPlace - place).toNat) : nearRung f mag place ≤ g := by
  obtain ⟨q, K, n, drop, hR, hid, hc1, hc2, hn1, hn2⟩ := near_parts f mag place h
  have hD : 0 < 2 ^ drop := Nat.two_pow_pos _
  have hb : 0 < 2 ^ (f.leastPlace - place).toNat := Nat.two_pow_pos _
  have hq : 0 < 2 ^ q := Nat.two_pow_pos _
  generalize 2 ^ (f.leastPlace - place).toNat = b at *
  generalize mag * 2 ^ (place - f.leastPlace).toNat = v at *
  have hB := binade_pos f
  refine Nat.le_of_not_lt fun hlt => ?_
  rw [hR] at hlt
  have hKB : q = 0 ∨ f.binade ≤ K := by
    rcases hn2 with h0 | h0
    · exact .inl h0
    · right
      refine Nat.le_of_not_lt fun hk => ?_
      have : 2 * (f.binade * 2 ^ drop) ≤ (2 * K + 1) * 2 ^ drop := Nat.le_trans (Nat.mul_le_mul_left 2 h0) hc1
      rw [← Nat.mul_assoc] at this
      have := Nat.le_of_mul_le_mul_right this hD
      omega
  have hK2 : K ≤ 2 * f.binade := by
    refine Nat.le_of_not_lt fun hk => ?_
    have h1 : 2 * (2 * f.binade + 1) * 2 ^ drop ≤ 2 * K * 2 ^ drop := Nat.mul_le_mul_right _ (by omega)
    have h2 : 2 * (2 * f.binade + 1) * 2 ^ drop = 2 * (2 * f.binade * 2 ^ drop) + 2 * 2 ^ drop := by
      simp only [Nat.mul_add, Nat.add_mul, Nat.mul_one, Nat.mul_assoc]
    omega
  by_cases h1 : q = 0 ∨ f.binade ≤ K - 1
  · have hg : g ≤ q * f.binade + (K - 1) := by omega
    have hm := Mg_mono f hg
    rw [Mg_eq f q (K - 1) (by omega) h1] at hm
    have hv2 : v * 2 ^ drop ≤ (K - 1) * 2 ^ q * b * 2 ^ drop := Nat.mul_le_mul_right _ (Nat.le_trans hv (Nat.mul_le_mul_right _ hm))
    rw [hid] at hv2
    have e : (K - 1) * 2 ^ q * b * 2 ^ drop = (K - 1) * 2 ^ drop * (2 ^ q * b) := by
      simp only [Nat.mul_assoc, Nat.mul_comm, Nat.mul_left_comm]
    rw [e, Nat.mul_assoc] at hv2
    have hn := Nat.le_of_mul_le_mul_right hv2 (Nat.mul_pos hq hb)
    by_cases hK0 : K = 0
    · subst hK0
      rcases h1 with h1 | h1
      · subst h1; omega
      · omega
    · have e2 : 2 * K * 2 ^ drop = 2 * ((K - 1) * 2 ^ drop) + 2 * 2 ^ drop := by
        have : K = (K - 1) + 1 := by omega
        rw [this]
        simp only [Nat.mul_add, Nat.add_mul, Nat.mul_one, Nat.mul_assoc, Nat.add_sub_cancel]
      omega
  · have hqp : q ≠ 0 := fun h0 => h1 (.inl h0)
    have hK : K = f.binade := by
      rcases hKB with h0 | h0
      · exact absurd h0 hqp
      · omega
    subst hK
    have hm := Mg_smono f hlt
    rw [Mg_eq f q f.binade (by omega) (.inr (Nat.le_refl _))] at hm
    have hv2 : v < f.binade * 2 ^ q * b := Nat.lt_of_le_of_lt hv (Nat.mul_lt_mul_of_pos_right hm hb)
    have hv3 : v * 2 ^ drop < f.binade * 2 ^ q * b * 2 ^ drop := Nat.mul_lt_mul_of_pos_right hv2 hD
    rw [hid] at hv3
    have e : f.binade * 2 ^ q * b * 2 ^ drop = f.binade * 2 ^ drop * (2 ^ q * b) := by
      simp only [Nat.mul_assoc, Nat.mul_comm, Nat.mul_left_comm]
    rw [e, Nat.mul_assoc] at hv3
    have hn := Nat.lt_of_mul_lt_mul_right hv3
    rcases hn2 with h0 | h0
    · exact absurd h0 hqp
    · omega

/-- a number that is at least a rung's magnitude is rounded to that rung at least -/
theorem le_near (f : Format) (mag : Nat) (place : Int) (h : mag ≠ 0) (g : Nat)
    (hv : Mg f g * 2 ^ (f.leastPlace - place).toNat ≤ mag * 2 ^ (place - f.leastPlace).toNat) : g ≤ nearRung f mag place := by
  obtain ⟨q, K, n, drop, hR, hid, hc1, hc2, hn1, hn2⟩ := near_parts f mag place h
  have hD : 0 < 2 ^ drop := Nat.two_pow_pos _
  have hb : 0 < 2 ^ (f.leastPlace - place).toNat := Nat.two_pow_pos _
  have hq : 0 < 2 ^ q := Nat.two_pow_pos _
  generalize 2 ^ (f.leastPlace - place).toNat = b at *
  generalize mag * 2 ^ (place - f.leastPlace).toNat = v at *
  have hB := binade_pos f
  refine Nat.le_of_not_lt fun hlt => ?_
  rw [hR] at hlt
  have hKB : q = 0 ∨ f.binade ≤ K := by
    rcases hn2 with h0 | h0
    · exact .inl h0
    · right
      refine Nat.le_of_not_lt fun hk => ?_
      have : 2 * (f.binade * 2 ^ drop) ≤ (2 * K + 1) * 2 ^ drop := Nat.le_trans (Nat.mul_le_mul_left 2 h0) hc1
      rw [← Nat.mul_assoc] at this
      have := Nat.le_of_mul_le_mul_right this hD
      omega
  have hK2 : K ≤ 2 * f.binade := by
    refine Nat.le_of_not_lt fun hk => ?_
    have h1 : 2 * (2 * f.binade + 1) * 2 ^ drop ≤ 2 * K * 2 ^ drop := Nat.mul_le_mul_right _ (by omega)
    have h2 : 2 * (2 * f.binade + 1) * 2 ^ drop = 2 * (2 * f.binade * 2 ^ drop) + 2 * 2 ^ drop := by
      simp only [Nat.mul_add, Nat.add_mul, Nat.mul_one, Nat.mul_assoc]
    omega
  by_cases h1 : K + 1 ≤ 2 * f.binade
  · have hm := Mg_mono f (show q * f.binade + (K + 1) ≤ g by omega)
    rw [Mg_eq f q (K + 1) h1 (by omega)] at hm
    have hv2 : (K + 1) * 2 ^ q * b * 2 ^ drop ≤ v * 2 ^ drop := Nat.mul_le_mul_right _ (Nat.le_trans (Nat.mul_le_mul_right _ hm) hv)
    rw [hid] at hv2
    have e : (K + 1) * 2 ^ q * b * 2 ^ drop = (K + 1) * 2 ^ drop * (2 ^ q * b) := by
      simp only [Nat.mul_assoc, Nat.mul_comm, Nat.mul_left_comm]
    rw [e, Nat.mul_assoc n] at hv2
    have hn := Nat.le_of_mul_le_mul_right hv2 (Nat.mul_pos hq hb)
    have e2 : (2 * K + 1) * 2 ^ drop + 2 ^ drop = 2 * ((K + 1) * 2 ^ drop) := by
      simp only [Nat.add_mul, Nat.mul_assoc, Nat.one_mul, Nat.mul_add]
      omega
    omega
  · have hK : K = 2 * f.binade := by omega
    subst hK
    have hm := Mg_smono f hlt
    rw [Mg_eq f q (2 * f.binade) (Nat.le_refl _) (by omega)] at hm
    have hv2 : 2 * f.binade * 2 ^ q * b < v := Nat.lt_of_lt_of_le (Nat.mul_lt_mul_of_pos_right hm hb) hv
    have hv3 : 2 * f.binade * 2 ^ q * b * 2 ^ drop < v * 2 ^ drop := Nat.mul_lt_mul_of_pos_right hv2 hD
    rw [hid] at hv3
    have e : 2 * f.binade * 2 ^ q * b * 2 ^ drop = 2 * f.binade * 2 ^ drop * (2 ^ q * b) := by
      simp only [Nat.mul_assoc, Nat.mul_comm, Nat.mul_left_comm]
    rw [e, Nat.mul_assoc n] at hv3
    have hn := Nat.lt_of_mul_lt_mul_right hv3
    omega

/-- a number that the format has is rounded to itself -/
theorem near_exact (f : Format) (mag : Nat) (place : Int) (h : mag ≠ 0) (g : Nat)
    (hv : Mg f g * 2 ^ (f.leastPlace - place).toNat = mag * 2 ^ (place - f.leastPlace).toNat) : nearRung f mag place = g :=
  Nat.le_antisymm (near_le f mag place h g (by omega)) (le_near f mag place h g (by omega))

/-! ### Words: sign, rung, value -/
def rg (f : Format) (w : Nat) : Nat := w % f.signWeight
def sg (f : Format) (w : Nat) : Bool := w / f.signWeight % 2 == 1
theorem signWeight_pos (f : Format) : 0 < f.signWeight := Nat.two_pow_pos _
theorem rg_word (f : Format) (s : Bool) {r : Nat} (h : r < f.signWeight) : rg f (f.word s r) = r := by
  unfold rg Format.word
  split
  · rw [Nat.add_mod_left, Nat.mod_eq_of_lt h]
  · exact Nat.mod_eq_of_lt h
theorem sg_word (f : Format) (s : Bool) {r : Nat} (h : r < f.signWeight) : sg f (f.word s r) = s := by
  unfold sg Format.word
  split
  · rename_i hs
    rw [Nat.add_div_left _ (signWeight_pos f), Nat.div_eq_of_lt h]
    simp [hs]
  · rename_i hs
    rw [Nat.div_eq_of_lt h]
    simp at hs
    simp [hs]
theorem binade_le_inf {f : Format} (h : 1 ≤ f.exponentBits) : f.binade ≤ f.infRung := by
  have : 2 ^ 1 ≤ 2 ^ f.exponentBits := Nat.pow_le_pow_right (by omega) h
  unfold Format.infRung
  exact Nat.le_mul_of_pos_left _ (by omega)

theorem read_fin (f : Format) (w : Nat) (h : rg f w < f.infRung) :
    ∃ m e, f.read w = .number (sg f w) m e ∧ f.leastPlace ≤ e ∧ m * 2 ^ (e - f.leastPlace).toNat = Mg f (rg f w) ∧ m < 2 * f.binade := by
  have hB := binade_pos f
  unfold Format.read
  change ∃ m e, (if rg f w < f.binade then Datum.number (sg f w) (rg f w) f.leastPlace else if rg f w < f.infRung then Datum.number (sg f w) (f.binade + rg f w % f.binade) (f.leastPlace + (rg f w / f.binade - 1 : Nat)) else if rg f w = f.infRung then .infinity (sg f w) else .nan (sg f w) (rg f w - f.infRung)) = .number (sg f w) m e ∧ _
  by_cases h1 : rg f w < f.binade
  · rw [if_pos h1]
    refine ⟨_, _, rfl, Int.le_refl _, ?_, by omega⟩
    simp [Mg, h1]
  · rw [if_neg h1, if_pos h]
    refine ⟨_, _, rfl, by omega, ?_, ?_⟩
    · rw [Mg, if_neg h1]
      congr 2
      omega
    · have := Nat.mod_lt (rg f w) hB
      omega
theorem read_inf (f : Format) (he : 1 ≤ f.exponentBits) (w : Nat) (h : rg f w = f.infRung) : f.read w = .infinity (sg f w) := by
  have := binade_le_inf he
  unfold Format.read
  change (if rg f w < f.binade then Datum.number (sg f w) (rg f w) f.leastPlace else if rg f w < f.infRung then Datum.number (sg f w) (f.binade + rg f w % f.binade) (f.leastPlace + (rg f w / f.binade - 1 : Nat)) else if rg f w = f.infRung then .infinity (sg f w) else .nan (sg f w) (rg f w - f.infRung)) = _
  rw [if_neg (by omega), if_neg (by omega), if_pos h]
theorem read_nan (f : Format) (he : 1 ≤ f.exponentBits) (w : Nat) (h : f.infRung < rg f w) : f.read w = .nan (sg f w) (rg f w - f.infRung) := by
  have := binade_le_inf he
  unfold Format.read
  change (if rg f w < f.binade then Datum.number (sg f w) (rg f w) f.leastPlace else if rg f w < f.infRung then Datum.number (sg f w) (f.binade + rg f w % f.binade) (f.leastPlace + (rg f w / f.binade - 1 : Nat)) else if rg f w = f.infRung then .infinity (sg f w) else .nan (sg f w) (rg f w - f.infRung)) = _
  rw [if_neg (by omega), if_neg (by omega), if_neg (by omega)]

/-- what a word stands for, in units of the least place (an infinity: as the rung beyond the greatest number) -/
def sv (f : Format) (w : Nat) : Int := if sg f w = true then -(Mg f (rg f w) : Int) else (Mg f (rg f w) : Int)

theorem compare_scale (a b : Int) (c : Nat) (hc : 0 < c) : compare (a * c) (b * c) = compare a b := by
  have hc' : (0 : Int) < (c : Int) := by omega
  rcases Int.lt_trichotomy a b with h | h | h
  · have := Int.mul_lt_mul_of_pos_right h hc'
    rw [Int.compare_eq_lt.2 h, Int.compare_eq_lt.2 this]
  · subst h
    simp
  · have := Int.mul_lt_mul_of_pos_right h hc'
    rw [Int.compare_eq_gt.2 h, Int.compare_eq_gt.2 this]

theorem order_sv (f : Format) (he : 1 ≤ f.exponentBits) (x y : Nat) (hx : rg f x ≤ f.infRung) (hy : rg f y ≤ f.infRung) :
    f.order x y = some (compare (sv f x) (sv f y)) := by
  have hpos : ∀ g, 0 < g → 0 < Mg f g := fun g hg => by have := Mg_smono f hg; omega
  have hI : 0 < f.infRung := Nat.lt_of_lt_of_le (binade_pos f) (binade_le_inf he)
  unfold Format.order sv
  rcases Nat.lt_or_eq_of_le hx with h1 | h1
  · obtain ⟨m, i, e1, hi, hm, _⟩ := read_fin f x h1
    rcases Nat.lt_or_eq_of_le hy with h2 | h2
    · obtain ⟨n, j, e2, hj, hn, _⟩ := read_fin f y h2
      rw [e1, e2]
      simp only [Datum.order, Option.some.injEq]
      have key : ∀ (s : Bool) (m : Nat) (i base : Int), f.leastPlace ≤ base → base ≤ i → signed s m (i - base).toNat * ((2 ^ (base - f.leastPlace).toNat : Nat) : Int) = if s = true then -((m * 2 ^ (i - f.leastPlace).toNat : Nat) : Int) else ((m * 2 ^ (i - f.leastPlace).toNat : Nat) : Int) := by
        intro s m i base h1 h2
        have e : (m <<< (i - base).toNat) * 2 ^ (base - f.leastPlace).toNat = m * 2 ^ (i - f.leastPlace).toNat := by
          rw [Nat.shiftLeft_eq, Nat.mul_assoc, ← Nat.pow_add]
          congr 2
          omega
        rw [← e]
        unfold signed
        cases s <;> simp [Int.neg_mul]
      rw [← compare_scale _ _ (2 ^ (min i j - f.leastPlace).toNat) (Nat.two_pow_pos _)]
      rw [key _ m i _ (by omega) (by omega), key _ n j _ (by omega) (by omega), hm, hn]
    · rw [e1, read_inf f he y h2]
      simp only [Datum.order, Option.some.injEq]
      have hlt := Mg_smono f h1
      rw [← h2] at hlt
      symm
      cases sg f y <;> cases sg f x <;> simp <;> first | (apply Int.compare_eq_lt.2; omega) | (apply Int.compare_eq_gt.2; omega)
  · rcases Nat.lt_or_eq_of_le hy with h2 | h2
    · obtain ⟨n, j, e2, hj, hn, _⟩ := read_fin f y h2
      rw [e2, read_inf f he x h1]
      simp only [Datum.order, Option.some.injEq]
      have hlt := Mg_smono f h2
      rw [← h1] at hlt
      symm
      cases sg f y <;> cases sg f x <;> simp <;> first | (apply Int.compare_eq_lt.2; omega) | (apply Int.compare_eq_gt.2; omega)
    · rw [read_inf f he x h1, read_inf f he y h2]
      simp only [Datum.order, Option.some.injEq]
      have h3 := hpos _ hI
      rw [h1, h2]
      symm
      cases sg f y <;> cases sg f x <;> simp <;> first | (apply Int.compare_eq_lt.2; omega) | (apply Int.compare_eq_gt.2; omega) | rfl

def nan (k : FloatKind) (b : Nat) : Bool := (k.decode b).isNaN
def qn : FloatKind → Nat
  | .f32 => 2143289344
  | .f64 => 9221120237041090560
def cn (k : FloatKind) (b : Nat) : Nat := if nan k b = true then qn k else b
def FEq (k : FloatKind) (a b : Nat) : Prop := cn k a = cn k b

theorem nan_qn (k : FloatKind) : nan k (qn k) = true := by cases k <;> decide +kernel
theorem FEq.refl (k : FloatKind) (a : Nat) : FEq k a a := rfl
theorem FEq.symm {k : FloatKind} {a b : Nat} (h : FEq k a b) : FEq k b a := Eq.symm h
theorem FEq.trans {k : FloatKind} {a b c : Nat} (h : FEq k a b) (h' : FEq k b c) : FEq k a c := Eq.trans h h'
theorem FEq.cases {k : FloatKind} {a b : Nat} (h : FEq k a b) : a = b ∨ (nan k a = true ∧ nan k b = true) := by
  unfold FEq cn at h
  by_cases ha : nan k a = true <;> by_cases hb : nan k b = true <;> simp [ha, hb] at h ⊢
  · subst h; exact absurd (nan_qn k) hb
  · subst h; exact absurd (nan_qn k) ha
  · exact h
theorem FEq.of_nan {k : FloatKind} {a b : Nat} (ha : nan k a = true) (hb : nan k b = true) : FEq k a b := by
  simp [FEq, cn, ha, hb]
theorem FEq.nan_eq {k : FloatKind} {a b : Nat} (h : FEq k a b) : nan k a = nan k b := by
  rcases h.cases with rfl | ⟨h1, h2⟩
  · rfl
  · rw [h1, h2]
theorem FEq.eq {k : FloatKind} {a b : Nat} (h : FEq k a b) (hn : nan k b = false) : a = b := by
  rcases h.cases with rfl | ⟨h1, h2⟩
  · rfl
  · rw [h2] at hn; cases hn

theorem read_of_nan {k : FloatKind} {b : Nat} (h : nan k b = true) : ∃ s t, k.format.read b = .nan s t := by
  unfold nan FloatKind.decode at h
  cases hd : k.format.read b <;> simp_all [Ieee.Datum.isNaN]

theorem floatBits_nan_left {k : FloatKind} {a : Nat} (h : nan k a = true) (op : BinOp) (b : Nat) : floatBits op k a b = none := by
  obtain ⟨s, t, hd⟩ := read_of_nan h
  cases op <;> simp [floatBits, Ieee.Format.add, Ieee.Format.sub, Ieee.Format.mul, Ieee.Format.div, hd, Ieee.Datum.sum, Ieee.Datum.product, Ieee.Datum.quotient]
theorem floatBits_nan_right {k : FloatKind} {b : Nat} (h : nan k b = true) (op : BinOp) (a : Nat) : floatBits op k a b = none := by
  obtain ⟨s, t, hd⟩ := read_of_nan h
  cases op <;> simp [floatBits, Ieee.Format.add, Ieee.Format.sub, Ieee.Format.mul, Ieee.Format.div, hd, Ieee.Datum.opposite] <;> cases k.format.read a <;> simp [Ieee.Datum.sum, Ieee.Datum.product, Ieee.Datum.quotient]
theorem order_nan_left {k : FloatKind} {a : Nat} (h : nan k a = true) (b : Nat) : k.format.order a b = none := by
  obtain ⟨s, t, hd⟩ := read_of_nan h
  simp [Ieee.Format.order, hd, Ieee.Datum.order]
theorem order_nan_right {k : FloatKind} {b : Nat} (h : nan k b = true) (a : Nat) : k.format.order a b = none := by
  obtain ⟨s, t, hd⟩ := read_of_nan h
  simp [Ieee.Format.order, hd]
  cases k.format.read a <;> simp [Ieee.Datum.order]
theorem order_congr {k : FloatKind} {a a' b b' : Nat} (h : FEq k a a') (h' : FEq k b b') : k.format.order a b = k.format.order a' b' := by
  rcases h.cases with rfl | ⟨h1, h2⟩
  · rcases h'.cases with rfl | ⟨h1, h2⟩
    · rfl
    · rw [order_nan_right h1, order_nan_right h2]
  · rw [order_nan_left h1, order_nan_left h2]

/-- what an operation gives, up to which NaN it is -/
def fop (op : BinOp) (k : FloatKind) (x y : Nat) : Nat := (floatBits op k x y).getD (qn k)
theorem fop_congr {op : BinOp} {k : FloatKind} {a a' b b' : Nat} (h : FEq k a a') (h' : FEq k b b') : fop op k a b = fop op k a' b' := by
  unfold fop
  rcases h.cases with rfl | ⟨h1, h2⟩
  · rcases h'.cases with rfl | ⟨h1, h2⟩
    · rfl
    · rw [floatBits_nan_right h1, floatBits_nan_right h2]
  · rw [floatBits_nan_left h1, floatBits_nan_left h2]

theorem nan_of_rung {k : FloatKind} {b : Nat} (h : k.format.infRung < b % k.format.signWeight) : nan k b = true := by
  have hb : k.format.binade ≤ k.format.infRung := by cases k <;> decide +kernel
  unfold nan FloatKind.decode Ieee.Format.read
  rw [if_neg (by omega), if_neg (by omega), if_neg (by omega)]
  rfl

def isArith : BinOp → Bool
  | .add | .sub | .mul | .quo => true
  | _ => false

theorem cut_nan (k : FloatKind) (x y t : Nat) : nan k (Question.cut (.nanBits k x y) t) = true := by
  apply nan_of_rung
  cases k
  · show 2139095040 < ((t % 2) * 2 ^ 31 + 0x7f800000 + 1 + (t / 2) % (2 ^ 23 - 1)) % 2147483648
    rcases Nat.mod_two_eq_zero_or_one t with h | h <;> rw [h] <;> omega
  · show 9218868437227405312 < ((t % 2) * 2 ^ 63 + 0x7ff0000000000000 + 1 + (t / 2) % (2 ^ 52 - 1)) % 9223372036854775808
    rcases Nat.mod_two_eq_zero_or_one t with h | h <;> rw [h] <;> omega
theorem cut_nanConv (k : FloatKind) (x t : Nat) : nan k (Question.cut (.nanConv k x) t) = true := by
  apply nan_of_rung
  cases k
  · show 2139095040 < ((t % 2) * 2 ^ 31 + 0x7f800000 + 1 + (t / 2) % (2 ^ 23 - 1)) % 2147483648
    rcases Nat.mod_two_eq_zero_or_one t with h | h <;> rw [h] <;> omega
  · show 9218868437227405312 < ((t % 2) * 2 ^ 63 + 0x7ff0000000000000 + 1 + (t / 2) % (2 ^ 52 - 1)) % 9223372036854775808
    rcases Nat.mod_two_eq_zero_or_one t with h | h <;> rw [h] <;> omega

theorem run_fop {P : Program} (w : World) (op : BinOp) (ho : isArith op = true) (t : TypeId) (k : FloatKind) (x y : Nat) :
    ∃ r n, FEq k r (fop op k x y) ∧ (binOp op t (.float k x) (.float k y)).run P w = .ok (.float k r) (w.drewN n) := by
  cases hb : floatBits op k x y with
  | some r =>
    refine ⟨r, 0, ?_, run_float_arith w op t k x y r hb⟩
    simp [fop, hb, FEq.refl]
  | none =>
    refine ⟨_, 1, FEq.of_nan (cut_nan k x y (w.tape w.drawn (.nanBits k x y))) (by simp [fop, hb, nan_qn]), ?_⟩
    cases op <;> simp [isArith] at ho <;> simp [floatBits] at hb <;> simp [binOp, Op.floatArith, hb, choose, Sem.run, Question.forced, World.drewN] <;> rfl

/-- THE WALK'S LAW for + - * / on floats (guarded or not): some bits that are those of 'fop' but for which NaN. -/
theorem wpList_fop {P : Program} {ops : Array Oper} {Q : Exit → Act → World → Prop} {a : Act} {w : World} {rest : List Oper}
    {d : Option Tmp} {op : BinOp} {t t' ty : TypeId} {l r : Operand} {pos : String} {af : Array Edge} {g : Option (Nat × Bool)}
    (ho : isArith op = true) (hw : Region.wanted ⟨d, .binOp op t l r t', ty, pos, af, g⟩ (yielded ops a.tmps) = true)
    {k : FloatKind} {x y : Nat} (hl : a.eval l = .float k x) (hr : a.eval r = .float k y)
    (hK : ∀ v n, FEq k v (fop op k x y) → wpList P ops Q rest (a.put d (.float k v)) (w.drewN n)) :
    wpList P ops Q (⟨d, .binOp op t l r t', ty, pos, af, g⟩ :: rest) a w := by
  refine wpList_step fun K hK' => ?_
  rw [if_pos hw]
  obtain ⟨v, n, hv, hrun⟩ := run_fop (P := P) w op ho t k x y
  have hg : (eqGuard op t l r (.float k x) (.float k y)).run P w = .ok () w := by cases op <;> simp [isArith] at ho <;> rfl
  unfold Oper.wp
  simp [execOp, hl, hr, hg, hrun]
  exact hK' _ _ (hK v n hv)

theorem conv_nan {s k : FloatKind} (hsk : s ≠ k) {x : Nat} (h : nan s x = true) : floatToFloatBits s x k = none := by
  obtain ⟨a, b, hd⟩ := read_of_nan h
  simp [floatToFloatBits, hsk, FloatKind.decode, hd]

theorem run_conv_nan {P : Program} (w : World) {s k : FloatKind} (hsk : s ≠ k) (src dst : TypeId) (hs : (P.underlying src).isSome = true) (hd : P.underlying dst = some (.float k)) {x : Nat} (h : nan s x = true) :
    ∃ v, nan k v = true ∧ (convert src dst (.float s x)).run P w = .ok (.float k v) (w.drewN 1) := by
  obtain ⟨a, b, hdec⟩ := read_of_nan h
  obtain ⟨u, hs'⟩ := Option.isSome_iff_exists.1 hs
  refine ⟨_, cut_nanConv k x (w.tape w.drawn (.nanConv k x)), ?_⟩
  cases u <;> simp [convert, run_underlying hs', run_underlying hd, Conv.floatToFloat, hsk, FloatKind.decode, hdec, choose, Sem.run, Question.forced, World.drewN] <;> rfl

/-! ### Words of the two kinds: NaNs, equality up to which NaN -/
theorem exp_pos (k : FloatKind) : 1 ≤ k.format.exponentBits := by cases k <;> decide
theorem nan_eq (k : FloatKind) (b : Nat) : nan k b = decide (k.format.infRung < rg k.format b) := by
  unfold nan FloatKind.decode
  rcases Nat.lt_trichotomy (rg k.format b) k.format.infRung with h | h | h
  · obtain ⟨m, e, h1, _⟩ := read_fin k.format b h
    rw [h1]
    simp [Datum.isNaN]
    omega
  · rw [read_inf k.format (exp_pos k) b h, h]
    simp [Datum.isNaN]
  · rw [read_nan k.format (exp_pos k) b h]
    simp [Datum.isNaN, h]
theorem rg_le_of {k : FloatKind} {b : Nat} (h : nan k b = false) : rg k.format b ≤ k.format.infRung := by
  rw [nan_eq] at h
  simpa using h
theorem order_self (k : FloatKind) (x : Nat) : (k.format.order x x != some Ordering.eq) = nan k x := by
  cases h : nan k x with
  | true => rw [order_nan_left h]; rfl
  | false =>
    rw [order_sv k.format (exp_pos k) x x (rg_le_of h) (rg_le_of h)]
    simp

/-- two to the power of n, closed to simp -/
def pw (n : Nat) : Nat := 2 ^ n
theorem pw_pos (n : Nat) : 0 < pw n := Nat.two_pow_pos n
theorem pw_mul (a b : Nat) : 2 ^ (a + b) = 2 ^ a * pw b := Nat.pow_add 2 a b
theorem Mg_inf32 : Mg Ieee.single Ieee.single.infRung = pw 277 := by decide +kernel
theorem Mg_inf64 : Mg Ieee.double Ieee.double.infRung = 2 ^ 2098 := by decide +kernel
theorem inf32 : Ieee.single.infRung = 2139095040 := by decide +kernel
theorem inf64 : Ieee.double.infRung = 9218868437227405312 := by decide +kernel
theorem sw32 : Ieee.single.signWeight = 2147483648 := by decide +kernel
theorem sw64 : Ieee.double.signWeight = 9223372036854775808 := by decide +kernel
theorem least32 : Ieee.single.leastPlace = -149 := by decide +kernel
theorem least64 : Ieee.double.leastPlace = -1074 := by decide +kernel

/-- float32 to float64 -/
def fwide (x : Nat) : Nat := (floatToFloatBits .f32 x .f64).getD (qn .f64)
/-- float64 to float32, where it does not pass the greatest float32 -/
def fnar (x : Nat) : Nat := (floatToFloatBits .f64 x .f32).getD (qn .f32)
def Fits (x : Nat) : Prop := nan .f64 x = true ∨ (floatToFloatBits .f64 x .f32).isSome = true

/-- the float64's least place is so much below the float32's -/
def w925 : Nat := pw 925
theorem w925_pos : 0 < w925 := pw_pos 925
theorem w925_mul (a : Nat) : 2 ^ (a + 925) = 2 ^ a * w925 := pw_mul a 925

theorem wide_fin (x : Nat) (h : rg Ieee.single x < 2139095040) :
    floatToFloatBits .f32 x .f64 = some (fwide x) ∧ sg Ieee.double (fwide x) = sg Ieee.single x ∧ rg Ieee.double (fwide x) < 9218868437227405312 ∧ Mg Ieee.double (rg Ieee.double (fwide x)) = Mg Ieee.single (rg Ieee.single x) * w925 := by
  obtain ⟨m, e, hr, he, hm, hlt⟩ := read_fin Ieee.single x (by rw [inf32]; exact h)
  rw [least32] at he hm
  have hb32 : Ieee.single.binade = 8388608 := by decide +kernel
  have hb64 : Ieee.double.binade = 4503599627370496 := by decide +kernel
  obtain ⟨g, hg⟩ := Mg_surj Ieee.double m (e - -1074).toNat (by omega)
  have hgv : Mg Ieee.double g = Mg Ieee.single (rg Ieee.single x) * w925 := by
    rw [hg, ← hm, show (e - -1074).toNat = (e - -149).toNat + 925 by omega, w925_mul, Nat.mul_assoc]
  have hlt32 := Mg_smono Ieee.single (show rg Ieee.single x < Ieee.single.infRung by rw [inf32]; exact h)
  rw [Mg_inf32] at hlt32
  have hgi : g < Ieee.double.infRung := by
    refine (Mg_lt_iff Ieee.double).1 ?_
    rw [hgv, Mg_inf64]
    exact Nat.lt_of_lt_of_le (Nat.mul_lt_mul_of_pos_right hlt32 w925_pos) (of_decide_eq_true (by decide +kernel))
  have hsw : Ieee.double.infRung < Ieee.double.signWeight := by decide +kernel
  have henc : FloatKind.f64.encode (.number (sg Ieee.single x) m e) = Ieee.double.word (sg Ieee.single x) g := by
    show Ieee.double.nearest _ _ _ = _
    by_cases h0 : m = 0
    · subst h0
      have : g = 0 := Mg_inj Ieee.double (by rw [hg, Mg_zero]; simp)
      subst this
      simp [Format.nearest]
    · rw [nearest_eq _ _ _ _ h0, near_exact Ieee.double m e h0 g]
      · rw [Nat.min_eq_left (by omega)]
      · rw [hg, least64, show ((-1074 : Int) - e).toNat = 0 by omega]
        simp
  have hdec : (FloatKind.f64.decode (Ieee.double.word (sg Ieee.single x) g)).isInfinity = false := by
    obtain ⟨m', e', hr', _⟩ := read_fin Ieee.double (Ieee.double.word (sg Ieee.single x) g) (by rw [rg_word _ _ (by omega)]; exact hgi)
    show (Ieee.double.read _).isInfinity = false
    rw [hr']
    rfl
  have hf : floatToFloatBits .f32 x .f64 = some (Ieee.double.word (sg Ieee.single x) g) := by
    unfold floatToFloatBits
    rw [if_neg (by decide)]
    show (match Ieee.single.read x with | .nan _ _ => none | .infinity s => some (FloatKind.f64.encode (.infinity s)) | .number s m e => _) = _
    rw [hr]
    simp only [henc, hdec]
    simp
  have hw : fwide x = Ieee.double.word (sg Ieee.single x) g := by unfold fwide; rw [hf]; rfl
  rw [hw, rg_word _ _ (by omega), sg_word _ _ (by omega)]
  refine ⟨hf, rfl, ?_, hgv⟩
  rw [inf64] at hgi
  exact hgi

theorem wide_inf (x : Nat) (h : rg Ieee.single x = 2139095040) :
    floatToFloatBits .f32 x .f64 = some (fwide x) ∧ sg Ieee.double (fwide x) = sg Ieee.single x ∧ rg Ieee.double (fwide x) = 9218868437227405312 := by
  have hr := read_inf Ieee.single (by decide) x (by rw [inf32]; exact h)
  have hsw : Ieee.double.infRung < Ieee.double.signWeight := by decide +kernel
  have hf : floatToFloatBits .f32 x .f64 = some (Ieee.double.word (sg Ieee.single x) Ieee.double.infRung) := by
    unfold floatToFloatBits
    rw [if_neg (by decide)]
    show (match Ieee.single.read x with | .nan _ _ => none | .infinity s => some (FloatKind.f64.encode (.infinity s)) | .number s m e => _) = _
    rw [hr]
    rfl
  have hw : fwide x = Ieee.double.word (sg Ieee.single x) Ieee.double.infRung := by unfold fwide; rw [hf]; rfl
  rw [hw, rg_word _ _ hsw, sg_word _ _ hsw]
  exact ⟨hf, rfl, inf64⟩

theorem wide_some {x : Nat} (h : nan .f32 x = false) : floatToFloatBits .f32 x .f64 = some (fwide x) := by
  have := rg_le_of h
  change rg Ieee.single x ≤ Ieee.single.infRung at this
  rw [inf32] at this
  rcases Nat.lt_or_eq_of_le this with h1 | h1
  · exact (wide_fin x h1).1
  · exact (wide_inf x h1).1
theorem wide_nan {x : Nat} (h : nan .f32 x = true) : fwide x = qn .f64 := by
  unfold fwide
  rw [conv_nan (by decide) h]
  rfl
theorem nan_wide (x : Nat) : nan .f64 (fwide x) = nan .f32 x := by
  cases h : nan .f32 x with
  | true => rw [wide_nan h, nan_qn]
  | false =>
    have h2 := rg_le_of h
    change rg Ieee.single x ≤ Ieee.single.infRung at h2
    rw [inf32] at h2
    rw [nan_eq]
    change decide (Ieee.double.infRung < rg Ieee.double (fwide x)) = false
    rw [inf64]
    rcases Nat.lt_or_eq_of_le h2 with h1 | h1
    · have := (wide_fin x h1).2.2.1
      simp
      omega
    · have := (wide_inf x h1).2.2
      simp
      omega
theorem fwide_congr {x y : Nat} (h : FEq .f32 x y) : fwide x = fwide y := by
  rcases h.cases with rfl | ⟨h1, h2⟩
  · rfl
  · rw [wide_nan h1, wide_nan h2]
theorem fnar_nan {x : Nat} (h : nan .f64 x = true) : fnar x = qn .f32 := by
  unfold fnar
  rw [conv_nan (by decide) h]
  rfl
theorem fnar_congr {x y : Nat} (h : FEq .f64 x y) : fnar x = fnar y := by
  rcases h.cases with rfl | ⟨h1, h2⟩
  · rfl
  · rw [fnar_nan h1, fnar_nan h2]
theorem Fits.congr {x y : Nat} (h : FEq .f64 x y) (hy : Fits y) : Fits x := by
  rcases h.cases with rfl | ⟨h1, h2⟩
  · exact hy
  · exact .inl h1

section
variable {P : Program} (w : World)
theorem run_wide (src dst : TypeId) (hs : (P.underlying src).isSome = true) (hd : P.underlying dst = some (.float .f64)) (x : Nat) :
    ∃ v n, FEq .f64 v (fwide x) ∧ (convert src dst (.float .f32 x)).run P w = .ok (.float .f64 v) (w.drewN n) := by
  cases h : nan .f32 x with
  | true =>
    obtain ⟨v, hv, hr⟩ := run_conv_nan (P := P) w (s := .f32) (k := .f64) (by decide) src dst hs hd h
    exact ⟨v, 1, FEq.of_nan hv (by rw [nan_wide, h]), hr⟩
  | false => exact ⟨_, 0, FEq.refl _ _, run_convert_float_float w src dst .f32 .f64 x _ hs hd (wide_some h)⟩
theorem run_narrow (src dst : TypeId) (hs : (P.underlying src).isSome = true) (hd : P.underlying dst = some (.float .f32)) (x : Nat) (hx : Fits x) :
    ∃ v n, FEq .f32 v (fnar x) ∧ (convert src dst (.float .f64 x)).run P w = .ok (.float .f32 v) (w.drewN n) := by
  rcases hx with h | h
  · obtain ⟨v, hv, hr⟩ := run_conv_nan (P := P) w (s := .f64) (k := .f32) (by decide) src dst hs hd h
    exact ⟨v, 1, FEq.of_nan hv (by rw [fnar_nan h]; exact nan_qn _), hr⟩
  · obtain ⟨r, hr⟩ := Option.isSome_iff_exists.1 h
    refine ⟨r, 0, ?_, run_convert_float_float w src dst .f64 .f32 x _ hs hd hr⟩
    unfold fnar
    rw [hr]
    rfl
@[go_sem] theorem run_convert_same (src dst : TypeId) (k : FloatKind) (hs : (P.underlying src).isSome = true) (hd : P.underlying dst = some (.float k)) (x : Nat) :
    (convert src dst (.float k x)).run P w = .ok (.float k x) w :=
  run_convert_float_float w src dst k k x x hs hd (by simp [floatToFloatBits])
end

/-- THE WALK'S LAW for float64(x) of a float32 -/
theorem wpList_wide {P : Program} {ops : Array Oper} {Q : Exit → Act → World → Prop} {a : Act} {w : World} {rest : List Oper}
    {d : Option Tmp} {src dst ty : TypeId} {o : Operand} {pos : String} {af : Array Edge} {g : Option (Nat × Bool)}
    (hw : Region.wanted ⟨d, .convert src dst o, ty, pos, af, g⟩ (yielded ops a.tmps) = true)
    {x : Nat} (ho : a.eval o = .float .f32 x) (hs : (P.underlying src).isSome = true) (hd : P.underlying dst = some (.float .f64))
    (hK : ∀ v n, FEq .f64 v (fwide x) → wpList P ops Q rest (a.put d (.float .f64 v)) (w.drewN n)) :
    wpList P ops Q (⟨d, .convert src dst o, ty, pos, af, g⟩ :: rest) a w := by
  refine wpList_step fun K hK' => ?_
  rw [if_pos hw]
  obtain ⟨v, n, hv, hrun⟩ := run_wide (P := P) w src dst hs hd x
  unfold Oper.wp
  simp [execOp, ho, hrun]
  exact hK' _ _ (hK v n hv)

/-- THE WALK'S LAW for float32(x) of a float64 that does not pass the greatest float32 -/
theorem wpList_narrow {P : Program} {ops : Array Oper} {Q : Exit → Act → World → Prop} {a : Act} {w : World} {rest : List Oper}
    {d : Option Tmp} {src dst ty : TypeId} {o : Operand} {pos : String} {af : Array Edge} {g : Option (Nat × Bool)}
    (hw : Region.wanted ⟨d, .convert src dst o, ty, pos, af, g⟩ (yielded ops a.tmps) = true)
    {x : Nat} (ho : a.eval o = .float .f64 x) (hs : (P.underlying src).isSome = true) (hd : P.underlying dst = some (.float .f32)) (hx : Fits x)
    (hK : ∀ v n, FEq .f32 v (fnar x) → wpList P ops Q rest (a.put d (.float .f32 v)) (w.drewN n)) :
    wpList P ops Q (⟨d, .convert src dst o, ty, pos, af, g⟩ :: rest) a w := by
  refine wpList_step fun K hK' => ?_
  rw [if_pos hw]
  obtain ⟨v, n, hv, hrun⟩ := run_narrow (P := P) w src dst hs hd x hx
  unfold Oper.wp
  simp [execOp, ho, hrun]
  exact hK' _ _ (hK v n hv)

/-- returned v, having drawn for a while -/
def Ret (v : Value) (w : World) (e : Ending) (w' : World) : Prop := e = .returned v ∧ ∃ n, w' = w.drewN n
/-- returned a float that is x, up to which NaN, having drawn for a while -/
def RetF (k : FloatKind) (x : Nat) (w : World) (e : Ending) (w' : World) : Prop := ∃ v n, e = .returned (.float k v) ∧ FEq k v x ∧ w' = w.drewN n

def finB (x : Nat) : Bool := FloatKind.f32.format.order (fop .sub .f32 x x) 0 == some .eq

theorem and_mask63 (x : Nat) : (bits .andNot .u64 (x : Int) 9223372036854775808).toNat = x % 9223372036854775808 := by
  have h : bits .andNot .u64 (x : Int) 9223372036854775808 = bits .andNot .u64 ((x % 18446744073709551616 : Nat) : Int) 9223372036854775808 := by
    unfold bits
    have : BitVec.ofInt IntKind.u64.bits (x : Int) = BitVec.ofInt IntKind.u64.bits ((x % 18446744073709551616 : Nat) : Int) := by
      rw [BitVec.ofInt_natCast, BitVec.ofInt_natCast]
      apply BitVec.eq_of_toNat_eq
      simp [BitVec.toNat_ofNat, IntKind.bits]
    rw [this]
  rw [h, u64_andNot _ _ (by omega) (by omega) (by omega) (by omega)]
  simp only [Int.toNat_natCast]
  rw [show (x % 18446744073709551616) &&& (18446744073709551615 - Int.toNat 9223372036854775808) = x % 18446744073709551616 % 9223372036854775808 from Nat.and_two_pow_sub_one_eq_mod _ 63]
  omega
theorem signbit64 (x : Nat) : decide (wrap64 (x : Int) < 0) = sg Ieee.double x := by
  unfold wrap64 sg
  rw [sw64, Bool.eq_iff_iff]
  simp only [decide_eq_true_eq, beq_iff_eq]
  omega
theorem word_parts (f : Format) (w : Nat) (h : w < 2 * f.signWeight) : w = (if sg f w = true then f.signWeight else 0) + rg f w := by
  unfold sg rg
  have := Nat.div_add_mod w f.signWeight
  by_cases h1 : w < f.signWeight
  · rw [Nat.div_eq_of_lt h1, Nat.mod_eq_of_lt h1]
    simp
  · have h2 : w / f.signWeight = 1 := by
      apply Nat.div_eq_of_lt_le <;> omega
    rw [h2] at this ⊢
    simp
    omega
theorem word_ext {f : Format} {a b : Nat} (ha : a < 2 * f.signWeight) (hb : b < 2 * f.signWeight) (h1 : sg f a = sg f b) (h2 : rg f a = rg f b) : a = b := by
  rw [word_parts f a ha, word_parts f b hb, h1, h2]
theorem sg_fwide {x : Nat} (h : nan .f32 x = false) : sg Ieee.double (fwide x) = sg Ieee.single x := by
  have h2 := rg_le_of h
  change rg Ieee.single x ≤ Ieee.single.infRung at h2
  rw [inf32] at h2
  rcases Nat.lt_or_eq_of_le h2 with h1 | h1
  · exact (wide_fin x h1).2.1
  · exact (wide_inf x h1).2.1
theorem fwide_lt {x : Nat} : fwide x < 18446744073709551616 := by
  cases h : nan .f32 x with
  | true => rw [wide_nan h]; decide
  | false =>
    have h1 := wide_some h
    unfold floatToFloatBits at h1
    rw [if_neg (by decide)] at h1
    have hlt : ∀ d, FloatKind.f64.encode d < 18446744073709551616 := fun d => Ieee.double.write_lt d
    split at h1
    · cases h1
    · injection h1 with h1; rw [← h1]; exact hlt _
    · split at h1
      · cases h1
      · injection h1 with h1; rw [← h1]; exact hlt _

/-- the same number: what SameNumber tells -/
def sameB (a b : Nat) : Bool := cn .f32 a == cn .f32 b
theorem same_of_nan {a b : Nat} (h : nan .f32 a = true ∨ nan .f32 b = true) : sameB a b = (nan .f32 a && nan .f32 b) := by
  unfold sameB cn
  have := nan_qn .f32
  by_cases ha : nan .f32 a = true <;> by_cases hb : nan .f32 b = true <;> simp [ha, hb]
  · intro e; rw [← e] at hb; exact hb this
  · intro e; rw [e] at ha; exact ha this
  · simp [ha, hb] at h
theorem eq_of_order {k : FloatKind} {a b : Nat} (ha : nan k a = false) (hb : nan k b = false) (hla : a < 2 * k.format.signWeight) (hlb : b < 2 * k.format.signWeight) :
    (a = b) ↔ (k.format.order a b = some .eq ∧ sg k.format a = sg k.format b) := by
  constructor
  · rintro rfl
    have := order_self k a
    rw [ha] at this
    simp at this
    exact ⟨this, rfl⟩
  · rintro ⟨h1, h2⟩
    rw [order_sv k.format (exp_pos k) a b (rg_le_of ha) (rg_le_of hb)] at h1
    simp only [Option.some.injEq, Int.compare_eq_eq] at h1
    refine word_ext hla hlb h2 (Mg_inj k.format ?_)
    unfold sv at h1
    rw [h2] at h1
    split at h1 <;> omega
theorem same_spell {a b : Nat} (ha : nan .f32 a = false) (hb : nan .f32 b = false) (hla : a < 4294967296) (hlb : b < 4294967296) :
    sameB a b = ((FloatKind.f32.format.order a b == some .eq) && (sg Ieee.double (fwide a) == sg Ieee.double (fwide b))) := by
  have h := eq_of_order ha hb (by show a < 2 * Ieee.single.signWeight; rw [sw32]; omega) (by show b < 2 * Ieee.single.signWeight; rw [sw32]; omega)
  rw [sg_fwide ha, sg_fwide hb]
  unfold sameB cn
  rw [Bool.eq_iff_iff]
  simp only [ha, hb, Bool.false_eq_true, if_false, beq_iff_eq, Bool.and_eq_true]
  exact h

theorem wf32 {x : Nat} (h : (Lit.float .f32 x).wf = true) : x < 4294967296 := by simpa [Lit.wf] using h
theorem wf64 {x : Nat} (h : (Lit.float .f64 x).wf = true) : x < 18446744073709551616 := by simpa [Lit.wf] using h
theorem hid {p : Prop} (h : p) : Hid p := h
theorem ret_bool {a b : Bool} (h : a = b) : Ending.returned (.bool a) = .returned (.bool b) := by rw [h]
theorem ret_int {k : IntKind} {a b : Int} (h : a = b) : Ending.returned (.int k a) = .returned (.int k b) := by rw [h]
theorem ret_float {k : FloatKind} {a b : Nat} (h : a = b) : Ending.returned (.float k a) = .returned (.float k b) := by rw [h]
theorem finB_eq {v x : Nat} (h : FEq .f32 v (fop .sub .f32 x x)) : (FloatKind.f32.format.order v 0 == some .eq) = finB x := by
  rw [order_congr h (FEq.refl _ _)]
  rfl

theorem i64_and_nat (a b : Nat) (ha : a < 9223372036854775808) (hb : b < 9223372036854775808) : bits .and .i64 (a : Int) (b : Int) = ((a &&& b : Nat) : Int) := by
  have h1 : (BitVec.ofInt 64 (a : Int)).toNat = a := by
    rw [BitVec.ofInt_natCast, BitVec.toNat_ofNat]; exact Nat.mod_eq_of_lt (by omega)
  have h2 : (BitVec.ofInt 64 (b : Int)).toNat = b := by
    rw [BitVec.ofInt_natCast, BitVec.toNat_ofNat]; exact Nat.mod_eq_of_lt (by omega)
  show IntKind.i64.wrap ((BitVec.ofInt 64 (a : Int) &&& BitVec.ofInt 64 (b : Int)).toNat : Int) = _
  rw [BitVec.toNat_and, h1, h2]
  have : a &&& b ≤ a := Nat.and_le_left
  simp [IntKind.wrap, IntKind.bits, IntKind.signed]
  omega
theorem and_zero_mask (x k n : Nat) : (x &&& ((2 ^ n - 1) * 2 ^ k) = 0) ↔ x / 2 ^ k % 2 ^ n = 0 := by
  rw [show (2 ^ n - 1) * 2 ^ k = (2 ^ n - 1) <<< k by rw [Nat.shiftLeft_eq]]
  constructor
  · intro h
    have h2 : (x &&& (2 ^ n - 1) <<< k) >>> k = 0 := by rw [h]; simp
    rw [Nat.shiftRight_and_distrib, Nat.shiftLeft_shiftRight, Nat.and_two_pow_sub_one_eq_mod, Nat.shiftRight_eq_div_pow] at h2
    exact h2
  · intro h
    have h2 : (x >>> k) &&& (2 ^ n - 1) = 0 := by rw [Nat.and_two_pow_sub_one_eq_mod, Nat.shiftRight_eq_div_pow]; exact h
    apply Nat.eq_of_testBit_eq
    intro i
    have h3 := congrArg (fun y => Nat.testBit y (i - k)) h2
    simp only [Nat.testBit_and, Nat.testBit_shiftRight, Nat.zero_testBit] at h3
    simp only [Nat.testBit_and, Nat.testBit_shiftLeft, Nat.zero_testBit]
    by_cases hk : k ≤ i
    · rw [show k + (i - k) = i by omega] at h3
      simp only [hk, decide_true, Bool.true_and]
      exact h3
    · simp [hk]
/-- zero or subnormal: the exponent field is nought -/
theorem low_exponent (x : Nat) (hx : x < 4294967296) : (bits .and .i64 (x : Int) 2139095040 == 0) = decide (rg Ieee.single x < 8388608) := by
  have e := i64_and_nat x 2139095040 (by omega) (by omega)
  rw [show ((2139095040 : Nat) : Int) = 2139095040 from rfl] at e
  rw [e]
  have h := and_zero_mask x 23 8
  rw [show (2 ^ 8 - 1) * 2 ^ 23 = 2139095040 from rfl] at h
  unfold rg
  rw [sw32, Bool.eq_iff_iff]
  simp only [beq_iff_eq, decide_eq_true_eq]
  rw [show ((x &&& 2139095040 : Nat) : Int) = 0 ↔ (x &&& 2139095040) = 0 from by omega, h]
  omega
theorem low_exponent_qn : (bits .and .i64 ((qn .f32 : Nat) : Int) 2139095040 == 0) = false := by decide +kernel

def subB (x : Nat) : Bool := decide (rg Ieee.single x ≠ 0 ∧ rg Ieee.single x < 8388608)
theorem neq_zero32 (x : Nat) : (FloatKind.f32.format.order x 0 != some Ordering.eq) = (nan .f32 x || decide (rg Ieee.single x ≠ 0)) := by
  cases h : nan .f32 x with
  | true => rw [order_nan_left h]; rfl
  | false =>
    rw [order_sv FloatKind.f32.format (by decide) x 0 (rg_le_of h) (by decide +kernel)]
    have h0 : sv FloatKind.f32.format 0 = 0 := by decide +kernel
    rw [h0]
    have hm : Mg Ieee.single (rg Ieee.single x) = 0 ↔ rg Ieee.single x = 0 := by
      constructor
      · intro e; exact Mg_inj Ieee.single (by rw [e, Mg_zero])
      · intro e; rw [e, Mg_zero]
    have hs : sv FloatKind.f32.format x = 0 ↔ rg Ieee.single x = 0 := by
      rw [← hm]
      unfold sv
      change (if sg Ieee.single x = true then -(Mg Ieee.single (rg Ieee.single x) : Int) else (Mg Ieee.single (rg Ieee.single x) : Int)) = 0 ↔ _
      split <;> omega
    rw [Bool.eq_iff_iff]
    simp only [Bool.false_or, decide_eq_true_eq, bne_iff_ne, ne_eq, Option.some.injEq, Int.compare_eq_eq, hs]
theorem rg_rg (f : Format) (x : Nat) : rg f (rg f x) = rg f x := by
  unfold rg
  exact Nat.mod_eq_of_lt (Nat.mod_lt _ (signWeight_pos f))
theorem sg_rg (f : Format) (x : Nat) : sg f (rg f x) = false := by
  unfold sg rg
  rw [Nat.div_eq_of_lt (Nat.mod_lt _ (signWeight_pos f))]
  rfl
theorem nan_rg {k : FloatKind} (x : Nat) : nan k (rg k.format x) = nan k x := by rw [nan_eq, nan_eq, rg_rg]
theorem Mg_2_126 : Mg Ieee.double 4039728865751334912 = Mg Ieee.single 8388608 * w925 := by decide +kernel
/-- nearer to 0 than 2 to the power of -126: the same asked of the wide number -/
theorem low_wide (x : Nat) (h : nan .f32 x = false) : (FloatKind.f64.format.order (rg Ieee.double (fwide x)) 4039728865751334912 == some Ordering.lt) = decide (rg Ieee.single x < 8388608) := by
  have h2 := rg_le_of h
  change rg Ieee.single x ≤ Ieee.single.infRung at h2
  rw [inf32] at h2
  have hn : nan .f64 (fwide x) = false := by rw [nan_wide, h]
  have hle := rg_le_of hn
  rw [order_sv FloatKind.f64.format (by decide) _ _ (by show rg Ieee.double (rg Ieee.double _) ≤ _; rw [rg_rg]; exact hle) (by decide +kernel)]
  have hc : sv FloatKind.f64.format 4039728865751334912 = (Mg Ieee.single 8388608 * w925 : Nat) := by rw [← Mg_2_126]; decide +kernel
  have hs : sv FloatKind.f64.format (rg Ieee.double (fwide x)) = (Mg Ieee.double (rg Ieee.double (fwide x)) : Nat) := by
    unfold sv
    change (if sg Ieee.double (rg Ieee.double (fwide x)) = true then -(Mg Ieee.double (rg Ieee.double (rg Ieee.double (fwide x))) : Int) else (Mg Ieee.double (rg Ieee.double (rg Ieee.double (fwide x))) : Int)) = _
    rw [sg_rg, rg_rg]
    simp
  rw [hc, hs, Bool.eq_iff_iff]
  simp only [beq_iff_eq, Option.some.injEq, Int.compare_eq_lt, decide_eq_true_eq, Int.ofNat_lt]
  rcases Nat.lt_or_eq_of_le h2 with h1 | h1
  · rw [(wide_fin x h1).2.2.2]
    rw [Nat.mul_lt_mul_right w925_pos, Mg_lt_iff]
  · rw [(wide_inf x h1).2.2, ← Mg_2_126, Mg_lt_iff, h1]
    omega

/-- what the program's IsSubnormal asks of a number that is not zero -/
theorem low_told {x v : Nat} (h : nan .f32 x = true ∨ rg Ieee.single x ≠ 0) (hv : FEq .f64 v (fwide x)) :
    (FloatKind.f64.format.order (rg Ieee.double v) 4039728865751334912 == some Ordering.lt) = subB x := by
  cases hn : nan .f32 x with
  | true =>
    rw [order_nan_left (show nan .f64 (rg Ieee.double v) = true by rw [show rg Ieee.double v = rg FloatKind.f64.format v from rfl, nan_rg, hv.nan_eq, nan_wide, hn])]
    rw [nan_eq] at hn
    change decide (Ieee.single.infRung < rg Ieee.single x) = true at hn
    rw [inf32] at hn
    simp at hn
    unfold subB
    symm
    simp
    omega
  | false =>
    rw [hv.eq (by rw [nan_wide, hn]), low_wide x hn]
    rw [hn] at h
    unfold subB
    rcases h with h | h
    · cases h
    · simp [h]
theorem subB_zero {x : Nat} (h : ¬ (nan .f32 x = true ∨ rg Ieee.single x ≠ 0)) : subB x = false := by
  unfold subB
  simp
  intro h1
  exact absurd (.inr h1) h
/-- what the reference's IsSubnormal asks of the bits of a number that is not zero -/
theorem low_bits {x : Nat} (hx : x < 4294967296) (h : nan .f32 x = true ∨ rg Ieee.single x ≠ 0) :
    (bits .and .i64 ((cn .f32 x : Nat) : Int) 2139095040 == 0) = subB x := by
  cases hn : nan .f32 x with
  | true =>
    rw [show cn .f32 x = qn .f32 by simp [cn, hn], low_exponent_qn]
    rw [nan_eq] at hn
    change decide (Ieee.single.infRung < rg Ieee.single x) = true at hn
    rw [inf32] at hn
    simp at hn
    unfold subB
    symm
    simp
    omega
  | false =>
    rw [show cn .f32 x = x by simp [cn, hn], low_exponent x hx]
    rw [hn] at h
    unfold subB
    rcases h with h | h
    · cases h
    · simp [h]

theorem wide_same {g w v v' : Nat} (h : FEq .f32 g w) (hv : FEq .f64 v (fwide g)) (hv' : FEq .f64 v' (fwide w)) : FEq .f64 v v' := by
  rw [fwide_congr h] at hv
  exact hv.trans hv'.symm

/-- a subnormal number flushed to a zero of its sign -/
def flush (x : Nat) : Nat := if rg Ieee.single x < 8388608 then (if sg Ieee.single x = true then 2147483648 else 0) else x
def flush64 (x : Nat) : Nat := if sg Ieee.double x = true then 9223372036854775808 else 0
theorem low_not_nan {x : Nat} (h : rg Ieee.single x < 8388608) : nan .f32 x = false := by
  rw [nan_eq]
  change decide (Ieee.single.infRung < rg Ieee.single x) = false
  rw [inf32]
  simp
  omega
theorem and_pow (x k : Nat) : x &&& 2 ^ k = if Nat.testBit x k = true then 2 ^ k else 0 := by
  apply Nat.eq_of_testBit_eq
  intro i
  by_cases hi : k = i
  · subst hi
    cases h : Nat.testBit x k <;> simp [h]
  · cases h : Nat.testBit x k <;> simp [hi]
theorem and_sign64 (x : Nat) : bits .or .u64 (bits .andNot .u64 0 9223372036854775808) (bits .and .u64 (x : Int) 9223372036854775808) = (flush64 x : Nat) := by
  have h0 : bits .andNot .u64 0 9223372036854775808 = 0 := by decide +kernel
  have h : bits .and .u64 (x : Int) 9223372036854775808 = bits .and .u64 ((x % 18446744073709551616 : Nat) : Int) 9223372036854775808 := by
    unfold bits
    have : BitVec.ofInt IntKind.u64.bits (x : Int) = BitVec.ofInt IntKind.u64.bits ((x % 18446744073709551616 : Nat) : Int) := by
      rw [BitVec.ofInt_natCast, BitVec.ofInt_natCast]
      apply BitVec.eq_of_toNat_eq
      simp [BitVec.toNat_ofNat, IntKind.bits]
    rw [this]
  rw [h0, h, u64_and _ _ (by omega) (by omega) (by omega) (by omega)]
  simp only [Int.toNat_natCast]
  unfold flush64 sg
  rw [sw64]
  have e := and_pow (x % 18446744073709551616) 63
  rw [show (2 : Nat) ^ 63 = Int.toNat 9223372036854775808 from rfl] at e
  rw [e]
  have e2 : Nat.testBit (x % 18446744073709551616) 63 = (x / 9223372036854775808 % 2 == 1) := by
    rw [Nat.testBit_eq_decide_div_mod_eq, Bool.eq_iff_iff]
    simp only [decide_eq_true_eq, beq_iff_eq]
    omega
  rw [e2]
  cases (x / 9223372036854775808 % 2 == 1) <;> decide +kernel
theorem flush_wide {x : Nat} (h : nan .f32 x = false) : flush64 (fwide x) = if sg Ieee.single x = true then 9223372036854775808 else 0 := by
  unfold flush64
  rw [sg_fwide h]
theorem fits_zero (b : Bool) : Fits (if b = true then 9223372036854775808 else 0) := by
  cases b
  · exact .inr (by decide +kernel)
  · exact .inr (by decide +kernel)
theorem nar_zero (b : Bool) : fnar (if b = true then 9223372036854775808 else 0) = if b = true then 2147483648 else 0 := by
  cases b <;> decide +kernel
theorem nan_zero (b : Bool) : nan .f32 (if b = true then 2147483648 else 0) = false := by cases b <;> decide +kernel
theorem low_mask {x : Nat} (hx : x < 4294967296) (h : rg Ieee.single x < 8388608) : (bits .and .i64 ((cn .f32 x : Nat) : Int) 2147483648) = ((if sg Ieee.single x = true then 2147483648 else 0 : Nat) : Int) := by
  have hn := low_not_nan h
  rw [show cn .f32 x = x by simp [cn, hn]]
  have e := i64_and_nat x 2147483648 (by omega) (by omega)
  rw [show ((2147483648 : Nat) : Int) = 2147483648 from rfl] at e
  rw [e]
  have e := and_pow x 31
  rw [show (2 : Nat) ^ 31 = 2147483648 from rfl] at e
  rw [e]
  unfold sg
  rw [sw32]
  have e2 : Nat.testBit x 31 = (x / 2147483648 % 2 == 1) := by
    rw [Nat.testBit_eq_decide_div_mod_eq, Bool.eq_iff_iff]
    simp
  rw [e2]
theorem flush_zero {x : Nat} (hx : x < 4294967296) (h : rg Ieee.single x = 0) : flush x = x := by
  have := word_parts Ieee.single x (by rw [sw32]; omega)
  rw [h, sw32] at this
  unfold flush
  rw [h, if_pos (by decide)]
  exact this.symm
theorem flush_other {x : Nat} (hx : x < 4294967296) (h : subB x = false) : flush x = x := by
  by_cases h0 : rg Ieee.single x = 0
  · exact flush_zero hx h0
  · unfold subB at h
    simp [h0] at h
    unfold flush
    rw [if_neg (by omega)]
theorem flush_low {x : Nat} (h : rg Ieee.single x < 8388608) : flush x = if sg Ieee.single x = true then 2147483648 else 0 := by
  unfold flush
  rw [if_pos h]
/-- the bits of the exponent are asked of the bits of a number -/
theorem low_cn {x : Nat} (hx : x < 4294967296) : (bits .and .i64 ((cn .f32 x : Nat) : Int) 2139095040 == 0) = decide (rg Ieee.single x < 8388608) := by
  cases hn : nan .f32 x with
  | true =>
    rw [show cn .f32 x = qn .f32 by simp [cn, hn], low_exponent_qn]
    rw [nan_eq] at hn
    change decide (Ieee.single.infRung < rg Ieee.single x) = true at hn
    rw [inf32] at hn
    simp at hn
    symm
    simp
    omega
  | false => rw [show cn .f32 x = x by simp [cn, hn], low_exponent x hx]

/-- what float64(x) of a float32 gives in a world: for a NaN, what the tape says -/
def wv (x : Nat) (w : World) : Nat := if nan .f32 x = true then Question.cut (.nanConv .f64 x) (w.tape w.drawn (.nanConv .f64 x)) else fwide x
def wn (x : Nat) : Nat := if nan .f32 x = true then 1 else 0
theorem wv_feq (x : Nat) (w : World) : FEq .f64 (wv x w) (fwide x) := by
  unfold wv
  cases h : nan .f32 x with
  | true => exact FEq.of_nan (by simpa using cut_nanConv .f64 x _) (by rw [nan_wide, h])
  | false => exact FEq.refl _ _
theorem run_wide_eq {P : Program} (src dst : TypeId) (hs : (P.underlying src).isSome = true) (hd : P.underlying dst = some (.float .f64)) (x : Nat) (w : World) :
    (convert src dst (.float .f32 x)).run P w = .ok (.float .f64 (wv x w)) (w.drewN (wn x)) := by
  unfold wv wn
  cases h : nan .f32 x with
  | true =>
    obtain ⟨a, b, hdec⟩ := read_of_nan h
    obtain ⟨u, hs'⟩ := Option.isSome_iff_exists.1 hs
    cases u <;> simp [convert, run_underlying hs', run_underlying hd, Conv.floatToFloat, FloatKind.decode, hdec, choose, Sem.run, Question.forced, World.drewN] <;> rfl
  | false => exact run_convert_float_float w src dst .f32 .f64 x _ hs hd (wide_some h)

/-- returned a float that is x, up to which NaN, and a bool; having drawn for a while -/
def RetFB (k : FloatKind) (x : Nat) (b : Bool) (w : World) (e : Ending) (w' : World) : Prop := ∃ v n, e = .returned (.tuple #[.float k v, .bool b]) ∧ FEq k v x ∧ w' = w.drewN n
end Go.Proofs.Fl
/-
  The entries of package math that have no body here: what a call of each gives.
-/
namespace Go.Proofs.YtkbfhooiloaokaaGreatDoor
open Go.RowKit Go.Proofs.Fl
set_option linter.unusedVariables false

@[go_sem] theorem ext_Float32bits (x : Nat) (w : World) : (callFunc 56 #[.float .f32 x]).run Tryz.prog w = .ok (.value (.int .u32 x)) w := by rw [run_callFunc_extern (e := Extern.MathFloatBits.float32bits) Tryz.func56 (by kernel_rfl) (by kernel_rfl) (by kernel_rfl) (by kernel_rfl)]; rfl
@[go_sem] theorem ext_Float32frombits (x : Int) (w : World) : (callFunc 55 #[.int .u32 x]).run Tryz.prog w = .ok (.value (.float .f32 x.toNat)) w := by rw [run_callFunc_extern (e := Extern.MathFloatBits.float32frombits) Tryz.func55 (by kernel_rfl) (by kernel_rfl) (by kernel_rfl) (by kernel_rfl)]; rfl
@[go_sem] theorem ext_Float64bits (x : Nat) (w : World) : (callFunc 82 #[.float .f64 x]).run Tryz.prog w = .ok (.value (.int .u64 x)) w := by rw [run_callFunc_extern (e := Extern.MathFloatBits.float64bits) Tryz.func82 (by kernel_rfl) (by kernel_rfl) (by kernel_rfl) (by kernel_rfl)]; rfl
@[go_sem] theorem ext_Float64frombits (x : Int) (w : World) : (callFunc 81 #[.int .u64 x]).run Tryz.prog w = .ok (.value (.float .f64 x.toNat)) w := by rw [run_callFunc_extern (e := Extern.MathFloatBits.float64frombits) Tryz.func81 (by kernel_rfl) (by kernel_rfl) (by kernel_rfl) (by kernel_rfl)]; rfl

namespace Num
end Num
end Go.Proofs.YtkbfhooiloaokaaGreatDoor
/-
  Slices that are read: a slice value whose elements, of one cell each, are a given list. Over no program.
-/
namespace Go.Proofs.Fl
open Go Go.RowKit

@[go_sem] theorem run_store_float (P : Program) (w : World) (a : Addr) (m : Mode) (k : FloatKind) (b : Nat) : (store a (.float k b) m).run P w = stored P w a (.float k b) m := run_store P w a _ m rfl
@[go_sem] theorem run_store_complex (P : Program) (w : World) (a : Addr) (m : Mode) (k : FloatKind) (b c : Nat) : (store a (.complex k b c) m).run P w = stored P w a (.complex k b c) m := run_store P w a _ m rfl

/-- the slice at A reads as the values xs, and lies below block B -/
def Rd (w : World) (B : Nat) (A : Option Addr) (xs : List Value) : Prop :=
  xs = [] ∨ ∃ b off, A = some ⟨b, off, none⟩ ∧ b < B ∧ ∀ j u, xs[j]? = some u → w.cell? ⟨b, off + j, none⟩ = some u

theorem Rd.nil {w : World} {B : Nat} {A : Option Addr} : Rd w B A [] := .inl rfl
theorem Rd.at_ {w : World} {B : Nat} {A : Option Addr} {xs : List Value} (h : Rd w B A xs) {k : Nat} (hk : k < xs.length) :
    ∃ b off, A = some ⟨b, off, none⟩ ∧ b < B ∧ w.cell? ⟨b, off + k, none⟩ = some (xs[k]) := by
  rcases h with rfl | ⟨b, off, hA, hb, hc⟩
  · simp at hk
  · exact ⟨b, off, hA, hb, hc k _ (List.getElem?_eq_getElem hk)⟩
theorem Rd.keep {w w' : World} {B : Nat} {A : Option Addr} {xs : List Value} (h : Rd w B A xs) (hk : ∀ p : Addr, p.block < B → w'.cell? p = w.cell? p) : Rd w' B A xs := by
  rcases h with rfl | ⟨b, off, hA, hb, hc⟩
  · exact .inl rfl
  · exact .inr ⟨b, off, hA, hb, fun j u hu => (hk _ hb).trans (hc j u hu)⟩
theorem Rd.more {w : World} {B B' : Nat} {A : Option Addr} {xs : List Value} (h : Rd w B A xs) (hB : B ≤ B') : Rd w B' A xs := by
  rcases h with rfl | ⟨b, off, hA, hb, hc⟩
  · exact .inl rfl
  · exact .inr ⟨b, off, hA, by omega, hc⟩
theorem Rd.below {w w' : World} {B : Nat} {A : Option Addr} {xs : List Value} (h : Rd w B A xs) (hb : Below B w w') : Rd w' B A xs := h.keep fun _ hp => hb.cell hp
theorem Rd.drewN {w : World} {B : Nat} {A : Option Addr} {xs : List Value} (h : Rd w B A xs) (k : Nat) : Rd (w.drewN k) B A xs := h
theorem Rd.of_own {w : World} {base : Nat} {e : TypeId} {A : Option Addr} {n c : Nat} {xs : List Value} (h : w.ownsRow base e 1 (.slice A n c) n xs) : Rd w w.heap.size A xs := by
  rcases h.2 with ⟨hv, hn⟩ | ⟨g, cap, cur, hv, hb, hg, hcap, hm, hs, ht⟩
  · left
    have := h.1
    rw [hn] at this
    exact List.eq_nil_of_length_eq_zero (by simpa using this)
  · right
    have hA : A = some ⟨g, 0, none⟩ := by injection hv
    refine ⟨g, 0, hA, (Array.getElem?_eq_some_iff.1 hg).1, fun j u hu => ?_⟩
    rw [Nat.zero_add, cell_of_row w g j cur e (0, 0) hg]
    rw [← ht, List.getElem?_take] at hu
    split at hu
    · simpa using hu
    · cases hu

/-- a slice of float32 that came in -/
def f32s (xs : List Nat) : List Value := xs.map (Value.float .f32)
@[simp] theorem f32s_length (xs : List Nat) : (f32s xs).length = xs.length := by simp [f32s]
theorem f32s_at {w : World} {B : Nat} {A : Option Addr} {xs : List Nat} (h : Rd w B A (f32s xs)) {k : Nat} (hk : k < xs.length) :
    ∃ b off, A = some ⟨b, off, none⟩ ∧ b < B ∧ w.cell? ⟨b, off + k, none⟩ = some (.float .f32 xs[k]) := by
  obtain ⟨b, off, h1, h2, h3⟩ := h.at_ (k := k) (by simpa using hk)
  exact ⟨b, off, h1, h2, by simpa [f32s] using h3⟩
def i64s (xs : List Int) : List Value := xs.map (Value.int .i64)
@[simp] theorem i64s_length (xs : List Int) : (i64s xs).length = xs.length := by simp [i64s]
theorem i64s_at {w : World} {B : Nat} {A : Option Addr} {xs : List Int} (h : Rd w B A (i64s xs)) {k : Nat} (hk : k < xs.length) :
    ∃ b off, A = some ⟨b, off, none⟩ ∧ b < B ∧ w.cell? ⟨b, off + k, none⟩ = some (.int .i64 xs[k]) := by
  obtain ⟨b, off, h1, h2, h3⟩ := h.at_ (k := k) (by simpa using hk)
  exact ⟨b, off, h1, h2, by simpa [i64s] using h3⟩
def bools (xs : List Bool) : List Value := xs.map Value.bool
@[simp] theorem bools_length (xs : List Bool) : (bools xs).length = xs.length := by simp [bools]
theorem bools_at {w : World} {B : Nat} {A : Option Addr} {xs : List Bool} (h : Rd w B A (bools xs)) {k : Nat} (hk : k < xs.length) :
    ∃ b off, A = some ⟨b, off, none⟩ ∧ b < B ∧ w.cell? ⟨b, off + k, none⟩ = some (.bool xs[k]) := by
  obtain ⟨b, off, h1, h2, h3⟩ := h.at_ (k := k) (by simpa using hk)
  exact ⟨b, off, h1, h2, by simpa [bools] using h3⟩

section
open Go.ChangeShapes Go.WideShapes Go.Deep
variable {H : Type} {enc : TypeId × Value → H} {P : Program} {w : World} {spare : Nat → Bool} {held : Bool}
/-- down: a slice argument whose elements are one cell each -/
theorem rd_of_trod {t e : TypeId} {v : Value} {d : DataW H} {p : List MemPlace} (ht : P.underlying t = some (.slice e)) (hc : P.cellsOf e = 1)
    (hok : ∃ A n c, v = .slice A n c) (h : DataW.Trod enc P w 0 spare held t v d p)
    (Q : Value → Prop) (hQ : ∀ fuel u x, DataW.trod enc P w 0 spare held fuel e [u] = some x → Q u) :
    ∃ A n c xs, v = .slice A n c ∧ xs.length = n ∧ n ≤ c ∧ c ≤ maxLen ∧ Rd w w.heap.size A xs ∧ ∀ u ∈ xs, Q u := by
  obtain ⟨A, n, c, rfl⟩ := hok
  obtain ⟨fuel, hf⟩ := h
  have hf' : DataW.trod enc P w 0 spare held fuel t [.slice A n c] = some (d, p) := by simpa [Value.cells] using hf
  rcases open_slice1 ht hc hf' with ⟨h1, _⟩ | ⟨a, len, cap, m, n', V, D, Pl, h1, hb, hl, hm, hmm, _, hx⟩
  · simp at h1
    obtain ⟨rfl, rfl, rfl⟩ := h1
    exact ⟨none, 0, 0, [], rfl, rfl, Nat.le_refl _, by simp [maxLen], .inl rfl, by simp⟩
  · simp at h1
    obtain ⟨rfl, rfl, rfl⟩ := h1
    have hle : n ≤ m := by rw [hmm]; split <;> omega
    refine ⟨_, n, c, (List.range n).map V, rfl, by simp, hl, hm, ?_, ?_⟩
    · by_cases hn : n = 0
      · left; simp [hn]
      · right
        obtain ⟨b, off, spot⟩ := a
        have h0 := (hx 0 (by omega)).1
        have hspot : spot = none := by simpa [Addr.add] using World.cell?_spot h0
        subst hspot
        refine ⟨b, off, rfl, World.block_lt_of_cell? w _ (by simpa [Addr.add] using h0), fun j u hu => ?_⟩
        have hj : j < n := by
          have := (List.getElem?_eq_some_iff.1 hu).1
          simpa using this
        have hc := (hx j (by omega)).1
        have e : (⟨b, off, none⟩ : Addr).add j = ⟨b, off + j, none⟩ := by unfold Addr.add; split <;> simp_all
        rw [e] at hc
        rw [hc]
        simpa [hj] using hu
    · intro u hu
      obtain ⟨j, hj, rfl⟩ := List.mem_map.1 hu
      exact hQ _ _ _ (hx j (by have := List.mem_range.1 hj; omega)).2
end

section
open Go.ChangeShapes Go.WideShapes Go.Deep
variable {H : Type} {enc : TypeId × Value → H} {P : Program} {w : World} {spare : Nat → Bool} {held : Bool}
theorem exists_list {α : Type} {f : α → Value} {q : α → Prop} : ∀ (l : List Value), (∀ u ∈ l, ∃ x, u = f x ∧ q x) → ∃ zs : List α, l = zs.map f ∧ ∀ z ∈ zs, q z
  | [], _ => ⟨[], rfl, by simp⟩
  | u :: us, h => by
    obtain ⟨x, rfl, hx⟩ := h u (by simp)
    obtain ⟨zs, rfl, hz⟩ := exists_list us fun v hv => h v (by simp [hv])
    exact ⟨x :: zs, rfl, by simpa using ⟨hx, hz⟩⟩
theorem trod_float {e : TypeId} {k : FloatKind} {fuel : Nat} {u : Value} {x : DataW H × List MemPlace} (he : P.underlying e = some (.float k))
    (h : DataW.trod enc P w 0 spare held fuel e [u] = some x) : ∃ b, u = .float k b ∧ (Lit.float k b).wf = true := by
  cases fuel with
  | zero => simp [DataW.trod] at h
  | succ n =>
    simp only [DataW.trod, he] at h
    cases u <;> simp at h
    rename_i k' b
    obtain ⟨⟨rfl, hw⟩, _⟩ := h
    exact ⟨b, rfl, hw⟩
theorem trod_bool {e : TypeId} {fuel : Nat} {u : Value} {x : DataW H × List MemPlace} (he : P.underlying e = some .bool)
    (h : DataW.trod enc P w 0 spare held fuel e [u] = some x) : ∃ b, u = .bool b ∧ True := by
  cases fuel with
  | zero => simp [DataW.trod] at h
  | succ n =>
    simp only [DataW.trod, he] at h
    cases u <;> simp at h
    exact ⟨_, rfl, trivial⟩
theorem open_f32s {base : Nat} {t e : TypeId} {v : Value} {d : DataW H} {p : List MemPlace} (ht : P.underlying t = some (.slice e)) (he : P.underlying e = some (.float .f32)) (hc : P.cellsOf e = 1)
    {r : Reach} (hok : Value.okWide P w r base t v) (h : DataW.Trod enc P w 0 spare held t v d p) :
    ∃ A n c zs, v = .slice A n c ∧ zs.length = n ∧ n ≤ c ∧ c ≤ maxLen ∧ Rd w w.heap.size A (f32s zs) ∧ ∀ z ∈ zs, (Lit.float .f32 z).wf = true := by
  obtain ⟨A0, l0, c0, hv⟩ := okWide_slice ht hok
  obtain ⟨A, n, c, xs, rfl, hl, h1, h2, h3, h4⟩ := rd_of_trod ht hc ⟨A0, l0, c0, hv⟩ h (fun u => ∃ b, u = .float .f32 b ∧ (Lit.float .f32 b).wf = true) (fun _ _ _ hh => trod_float he hh)
  obtain ⟨zs, rfl, hz⟩ := exists_list xs h4
  exact ⟨A, n, c, zs, rfl, by simpa using hl, h1, h2, h3, hz⟩
theorem open_i64s {base : Nat} {t e : TypeId} {v : Value} {d : DataW H} {p : List MemPlace} (ht : P.underlying t = some (.slice e)) (he : P.underlying e = some (.int .i64)) (hc : P.cellsOf e = 1)
    {r : Reach} (hok : Value.okWide P w r base t v) (h : DataW.Trod enc P w 0 spare held t v d p) :
    ∃ A n c zs, v = .slice A n c ∧ zs.length = n ∧ n ≤ c ∧ c ≤ maxLen ∧ Rd w w.heap.size A (i64s zs) ∧ ∀ z ∈ zs, (Lit.int .i64 z).wf = true := by
  obtain ⟨A0, l0, c0, hv⟩ := okWide_slice ht hok
  obtain ⟨A, n, c, xs, rfl, hl, h1, h2, h3, h4⟩ := rd_of_trod ht hc ⟨A0, l0, c0, hv⟩ h (fun u => ∃ b, u = .int .i64 b ∧ (Lit.int .i64 b).wf = true) (fun _ u _ hh => by
    obtain ⟨m, hm, _, hw⟩ := DataW.trod_int he hh
    simp at hm
    exact ⟨m, hm, hw⟩)
  obtain ⟨zs, rfl, hz⟩ := exists_list xs h4
  exact ⟨A, n, c, zs, rfl, by simpa using hl, h1, h2, h3, hz⟩
theorem open_bytes {base : Nat} {t e : TypeId} {v : Value} {d : DataW H} {p : List MemPlace} (ht : P.underlying t = some (.slice e)) (he : P.underlying e = some (.int .u8)) (hc : P.cellsOf e = 1)
    {r : Reach} (hok : Value.okWide P w r base t v) (h : DataW.Trod enc P w 0 spare held t v d p) :
    ∃ A n c, ∃ zs : List Int, v = .slice A n c ∧ zs.length = n ∧ n ≤ c ∧ c ≤ maxLen ∧ Rd w w.heap.size A (zs.map (Value.int .u8)) ∧ ∀ z ∈ zs, (Lit.int .u8 z).wf = true := by
  obtain ⟨A0, l0, c0, hv⟩ := okWide_slice ht hok
  obtain ⟨A, n, c, xs, rfl, hl, h1, h2, h3, h4⟩ := rd_of_trod ht hc ⟨A0, l0, c0, hv⟩ h (fun u => ∃ b, u = .int .u8 b ∧ (Lit.int .u8 b).wf = true) (fun _ u _ hh => by
    obtain ⟨m, hm, _, hw⟩ := DataW.trod_int he hh
    simp at hm
    exact ⟨m, hm, hw⟩)
  obtain ⟨zs, rfl, hz⟩ := exists_list xs h4
  exact ⟨A, n, c, zs, rfl, by simpa using hl, h1, h2, h3, hz⟩
theorem open_bools {base : Nat} {t e : TypeId} {v : Value} {d : DataW H} {p : List MemPlace} (ht : P.underlying t = some (.slice e)) (he : P.underlying e = some .bool) (hc : P.cellsOf e = 1)
    {r : Reach} (hok : Value.okWide P w r base t v) (h : DataW.Trod enc P w 0 spare held t v d p) :
    ∃ A n c zs, v = .slice A n c ∧ zs.length = n ∧ n ≤ c ∧ c ≤ maxLen ∧ Rd w w.heap.size A (bools zs) := by
  obtain ⟨A0, l0, c0, hv⟩ := okWide_slice ht hok
  obtain ⟨A, n, c, xs, rfl, hl, h1, h2, h3, h4⟩ := rd_of_trod ht hc ⟨A0, l0, c0, hv⟩ h (fun u => ∃ b, u = .bool b ∧ True) (fun _ _ _ hh => trod_bool he hh)
  obtain ⟨zs, rfl, hz⟩ := exists_list xs h4
  exact ⟨A, n, c, zs, rfl, by simpa using hl, h1, h2, h3⟩
end

/-- returned a new slice of n elements xs, of one cell each; what was there is as it was -/
def RetOwn (E : TypeId) (n : Nat) (xs : List Value) (w : World) (e : Ending) (w' : World) : Prop :=
  ∃ g, e = .returned (.slice (some ⟨g, 0, none⟩) n n) ∧ w'.ownsRow w.heap.size E 1 (.slice (some ⟨g, 0, none⟩) n n) n xs ∧ Below w.heap.size w w'

/-- copied so far: the first k of xs, zeros behind -/
def copied {α : Type} (f : α → Value) (z : Value) (xs : List α) (n k : Nat) : List Value := (xs.take k).map f ++ List.replicate (n - k) z
theorem copied_zero {α : Type} (f : α → Value) (z : Value) (xs : List α) (n : Nat) : copied f z xs n 0 = List.replicate n z := by simp [copied]
theorem copied_set {α : Type} (f : α → Value) (z : Value) (xs : List α) (n k : Nat) (hn : xs.length = n) (hk : k < xs.length) : (copied f z xs n k).set k (f xs[k]) = copied f z xs n (k + 1) := by
  unfold copied
  have hl : ((xs.take k).map f).length = k := by simp; omega
  rw [List.set_append, if_neg (by omega), hl, Nat.sub_self]
  have hr : n - k = (n - (k + 1)) + 1 := by omega
  rw [hr, List.replicate_succ, List.set_cons_zero, List.take_succ_eq_append_getElem hk, List.map_append]
  rw [List.append_assoc]
  rfl
theorem copied_all {α : Type} (f : α → Value) (z : Value) (xs : List α) (n k : Nat) (hn : xs.length = n) (hk : n ≤ k) : copied f z xs n k = xs.map f := by
  unfold copied
  rw [List.take_of_length_le (by omega), show n - k = 0 by omega]
  simp
theorem copied_length {α : Type} (f : α → Value) (z : Value) (xs : List α) (n k : Nat) (hn : xs.length = n) (hk : k ≤ n) : (copied f z xs n k).length = n := by
  unfold copied
  simp
  omega
end Go.Proofs.Fl
/-
  Decimal numerals, as plain functions on lists of bytes: digits put in front one by one give the numeral; what a numeral is read as. Over no program.
-/
namespace Go.Proofs.Dc
open Go Go.Lib

/-- the digits that are still to come, none for 0 -/
def decRest (u : Nat) : List UInt8 := if u = 0 then [] else decDigits u
theorem decRest_zero : decRest 0 = [] := rfl
theorem decRest_pos {u : Nat} (h : u ≠ 0) : decRest u = decDigits u := by rw [decRest, if_neg h]
theorem dec_step (u : Nat) : decDigits u = decRest (u / 10) ++ [UInt8.ofNat (48 + u % 10)] := by
  rw [decDigits]
  by_cases h : u < 10
  · rw [dif_pos h, show u / 10 = 0 by omega, decRest_zero, show u % 10 = u by omega]; rfl
  · rw [dif_neg h, decRest_pos (by omega)]
/-- one round of the loop: what has been put in front so far, what is left -/
theorem dec_round {u : Nat} {out : List UInt8} {n : Nat} (h : if out = [] then u = n else decDigits n = decRest u ++ out) (hgo : out = [] ∨ u ≠ 0) :
    decDigits n = decRest (u / 10) ++ (UInt8.ofNat (48 + u % 10) :: out) := by
  by_cases ho : out = []
  · rw [if_pos ho] at h
    subst ho h
    rw [dec_step u]
  · rw [if_neg ho] at h
    have hu : u ≠ 0 := hgo.resolve_left ho
    rw [h, decRest_pos hu, dec_step u, List.append_assoc]
    rfl

theorem dec_len (u : Nat) (k : Nat) (h : u < 10 ^ (k + 1)) : (decDigits u).length ≤ k + 1 := by
  rw [decDigits_length]
  induction k generalizing u with
  | zero => rw [nDigits_small (by simpa using h)]; omega
  | succ k ih =>
    by_cases h10 : u < 10
    · rw [nDigits_small h10]; omega
    · rw [nDigits_big h10]
      have := ih (u / 10) (by rw [Nat.pow_succ] at h; omega)
      omega
theorem dec_ne (u : Nat) : decDigits u ≠ [] := by
  rw [dec_step]
  simp
theorem natAbs_tdiv10 (r : Int) : (r.tdiv 10).natAbs = r.natAbs / 10 := by rw [Int.natAbs_tdiv]; rfl
theorem natAbs_tmod10 (r : Int) : (r.tmod 10).natAbs = r.natAbs % 10 := by rw [Int.natAbs_tmod]; rfl

/-! ### What a numeral is read as -/
def isDig (c : UInt8) : Bool := decide (48 ≤ c.toNat ∧ c.toNat ≤ 57)
/-- the reference: bytes that are no digits are passed over -/
def valStep (n : Nat) (c : UInt8) : Nat := if isDig c then 10 * n + (c.toNat - 48) else n
def valD (l : List UInt8) : Nat := l.foldl valStep 0
/-- the reference: a minus ahead -/
def intOfL (l : List UInt8) : Int := if l.head? = some 45 then -(valD l : Int) else (valD l : Int)
theorem dig_toNat (d : Nat) (h : d < 10) : (UInt8.ofNat (48 + d)).toNat = 48 + d := by
  rw [UInt8.toNat_ofNat']
  omega
theorem val_dig (l : List UInt8) (d : Nat) (h : d < 10) (n : Nat) : (l ++ [UInt8.ofNat (48 + d)]).foldl valStep n = 10 * l.foldl valStep n + d := by
  rw [List.foldl_append]
  simp only [List.foldl_cons, List.foldl_nil, valStep]
  have := dig_toNat d h
  rw [if_pos (by simp only [isDig, decide_eq_true_eq]; omega)]
  omega
theorem val_dec (u : Nat) : valD (decDigits u) = u := by
  induction u using Nat.strongRecOn with
  | _ u ih =>
    unfold valD at *
    rw [dec_step, val_dig _ _ (by omega)]
    by_cases h : u / 10 = 0
    · rw [h, decRest_zero]
      simp only [List.foldl_nil]
      omega
    · rw [decRest_pos h, ih (u / 10) (by omega)]
      omega
theorem all_dig (u : Nat) : ∀ c ∈ decDigits u, isDig c = true := by
  induction u using Nat.strongRecOn with
  | _ u ih =>
    intro c hc
    rw [dec_step] at hc
    rcases List.mem_append.1 hc with hc | hc
    · by_cases h : u / 10 = 0
      · rw [h, decRest_zero] at hc; cases hc
      · rw [decRest_pos h] at hc
        exact ih (u / 10) (by omega) c hc
    · simp only [List.mem_singleton] at hc
      subst hc
      have := dig_toNat (u % 10) (by omega)
      simp only [isDig, decide_eq_true_eq]
      omega
theorem head_dig (u : Nat) : ∃ c r, decDigits u = c :: r ∧ isDig c = true := by
  cases h : decDigits u with
  | nil => exact absurd h (dec_ne u)
  | cons c r => exact ⟨c, r, rfl, all_dig u c (by rw [h]; simp)⟩
theorem val_itoa (v : Int) : intOfL (itoa v) = v := by
  unfold intOfL itoa
  by_cases h : v < 0
  · rw [if_pos h]
    simp only [List.head?_cons, if_true]
    have : valD (45 :: decDigits v.natAbs) = valD (decDigits v.natAbs) := by
      unfold valD
      rw [List.foldl_cons]
      rfl
    rw [this, val_dec]
    omega
  · rw [if_neg h]
    obtain ⟨c, r, hc, hd⟩ := head_dig v.toNat
    have hne : ¬ (decDigits v.toNat).head? = some 45 := by
      rw [hc]
      simp only [List.head?_cons, Option.some.injEq]
      rintro rfl
      exact absurd hd (by decide)
    rw [if_neg hne, val_dec]
    omega
theorem itoa_len17 (v : Int) (h : v.natAbs ≤ 1000000000000000) : 1 ≤ (itoa v).length ∧ (itoa v).length ≤ 17 := by
  have hl (u : Nat) (hu : u ≤ 1000000000000000) := dec_len u 15 (by omega)
  have hn (u : Nat) : 1 ≤ (decDigits u).length := by
    have := dec_ne u
    cases h : decDigits u with
    | nil => exact absurd h this
    | cons => simp
  unfold itoa
  by_cases h0 : v < 0
  · rw [if_pos h0]
    simp only [List.length_cons]
    have := hl v.natAbs h
    omega
  · rw [if_neg h0]
    have := hl v.toNat (by omega)
    have := hn v.toNat
    omega

/-! ### ParseInt reads a numeral back -/
theorem parseUintM_append (M : Nat) (acc : Nat) (l r : List UInt8) (u : Nat) (h : parseUintM M acc l = .ok u) : parseUintM M acc (l ++ r) = parseUintM M u r := by
  induction l generalizing acc with
  | nil =>
    simp only [parseUintM] at h
    injection h with h
    subst h
    rfl
  | cons c l ih =>
    simp only [parseUintM, List.cons_append] at h ⊢
    split at h
    · rename_i h1
      rw [if_pos h1]
      split at h
      · cases h
      · rename_i h2
        rw [if_neg h2]
        split at h
        · cases h
        · rename_i h3
          rw [if_neg h3]
          exact ih _ h
    · cases h
theorem parse_dec (M u : Nat) (hM : u ≤ M) (hb : u < 18446744073709551616) : parseUintM M 0 (decDigits u) = .ok u := by
  induction u using Nat.strongRecOn with
  | _ u ih =>
    have hlast (acc : Nat) (ha : acc = u / 10) : parseUintM M acc [UInt8.ofNat (48 + u % 10)] = .ok u := by
      have := dig_toNat (u % 10) (by omega)
      simp only [parseUintM]
      rw [if_pos (by omega), if_neg (by omega), if_neg (by omega)]
      congr 1
      omega
    rw [dec_step]
    by_cases h : u / 10 = 0
    · rw [h, decRest_zero]
      exact hlast 0 h.symm
    · rw [decRest_pos h, parseUintM_append _ _ _ _ _ (ih (u / 10) (by omega) (by omega) (by omega))]
      exact hlast _ rfl
theorem parse_itoa (v : Int) (h0 : -9223372036854775808 ≤ v) (h1 : v ≤ 9223372036854775807) : parseIntB 64 (itoa v) = .ok v := by
  unfold itoa
  by_cases h : v < 0
  · rw [if_pos h]
    simp only [parseIntB, parseUintB]
    have e45 : (45 : UInt8).toNat = 45 := rfl
    simp only [e45, or_true, if_true]
    rw [if_neg (dec_ne _), parse_dec _ _ (by omega) (by omega)]
    simp only [not_true, false_and, if_false, true_and]
    rw [if_neg (by omega)]
    congr 1
    omega
  · rw [if_neg h]
    obtain ⟨c, r, hc, hd⟩ := head_dig v.toNat
    have hp := parse_dec (2 ^ 64 - 1) v.toNat (by omega) (by omega)
    rw [hc] at hp ⊢
    simp only [isDig, decide_eq_true_eq] at hd
    have n1 : ¬ (c.toNat = 43 ∨ c.toNat = 45) := by omega
    have n2 : ¬ c.toNat = 45 := by omega
    have n3 : ¬ c.toNat = 43 := by omega
    simp only [parseIntB, n2, n3, or_false, if_false, parseUintB]
    rw [if_neg (by simp), hp]
    simp only [not_false_eq_true, true_and, false_and, if_false]
    rw [if_neg (by omega)]
    congr 1
    omega

/-! ### The number with a text -/
/-- the number from -10^15 to 10^15 whose numeral it is -/
def rdDec (l : List UInt8) : Option Int := if (-1000000000000000 ≤ intOfL l ∧ intOfL l ≤ 1000000000000000) ∧ itoa (intOfL l) = l then some (intOfL l) else none
theorem rdDec_of {v : Int} (h0 : -1000000000000000 ≤ v) (h1 : v ≤ 1000000000000000) : rdDec (itoa v) = some v := by
  unfold rdDec
  rw [val_itoa, if_pos ⟨⟨h0, h1⟩, rfl⟩]
theorem rdDec_some {l : List UInt8} {v : Int} (h : rdDec l = some v) : -1000000000000000 ≤ v ∧ v ≤ 1000000000000000 ∧ itoa v = l := by
  unfold rdDec at h
  split at h
  · rename_i h1
    simp only [Option.some.injEq] at h
    subst h
    exact ⟨h1.1.1, h1.1.2, h1.2⟩
  · cases h
theorem rdDec_len {l : List UInt8} (h : ¬ (1 ≤ l.length ∧ l.length ≤ 17)) : rdDec l = none := by
  cases hr : rdDec l with
  | none => rfl
  | some v =>
    obtain ⟨h0, h1, rfl⟩ := rdDec_some hr
    exact absurd (itoa_len17 v (by omega)) h
/-- the program: what ParseInt reads, where its numeral is the text -/
theorem rdDec_parse {l : List UInt8} {v : Int} (h : parseIntB 64 l = .ok v) : rdDec l = if (-1000000000000000 ≤ v ∧ v ≤ 1000000000000000) ∧ itoa v = l then some v else none := by
  by_cases hc : (-1000000000000000 ≤ v ∧ v ≤ 1000000000000000) ∧ itoa v = l
  · rw [if_pos hc, ← hc.2, rdDec_of hc.1.1 hc.1.2]
  · rw [if_neg hc]
    cases hr : rdDec l with
    | none => rfl
    | some v' =>
      obtain ⟨h0, h1, rfl⟩ := rdDec_some hr
      rw [parse_itoa v' (by omega) (by omega)] at h
      injection h with h
      subst h
      exact absurd ⟨⟨h0, h1⟩, rfl⟩ hc
theorem rdDec_bad {l : List UInt8} (h : ∀ v, parseIntB 64 l ≠ .ok v) : rdDec l = none := by
  cases hr : rdDec l with
  | none => rfl
  | some v =>
    obtain ⟨h0, h1, rfl⟩ := rdDec_some hr
    exact absurd (parse_itoa v (by omega) (by omega)) (h v)
theorem val_snoc (l : List UInt8) (k : Nat) (h : k < l.length) : valD (l.take (k + 1)) = valStep (valD (l.take k)) l[k] := by
  rw [List.take_succ_eq_append_getElem h]
  unfold valD
  rw [List.foldl_append]
  rfl
theorem val_bound (l : List UInt8) (k : Nat) : valD (l.take k) < 10 ^ k := by
  induction k with
  | zero => simp [valD]
  | succ k ih =>
    by_cases h : k < l.length
    · rw [val_snoc l k h]
      unfold valStep
      rw [Nat.pow_succ]
      split
      · rename_i hd
        simp only [isDig, decide_eq_true_eq] at hd
        omega
      · omega
    · rw [List.take_of_length_le (by omega)] at ih ⊢
      exact Nat.lt_of_lt_of_le ih (Nat.pow_le_pow_right (by omega) (by omega))
end Go.Proofs.Dc
/-
  The reference's decimal numeral (l01Dec): digits put in front one by one.
-/
namespace Go.Proofs.YtkbfhooiloaokaaGreatDoor.Num
open Go.RowKit Go.Proofs.Fl Go.Proofs.Dc Go.Lib
set_option linter.unusedVariables false
set_option linter.unusedSimpArgs false

theorem run_append_zero {P : Program} (w : World) (t ty e : TypeId) (i : TypeInfo) (ht : P.underlying t = some (.slice e)) (hi : P.info? e = some i) (b x : Option Addr) (n c c' : Nat) (h : n ≤ c) :
    (Builtin.append_ #[t, t] ty #[.slice b n c, .slice x 0 c']).run P w = .ok (.slice b n c) w := by
  have h0 (a : Addr) : (loadCells a 0).run P w = .ok #[] w := by unfold loadCells loadCellsFrom; rfl
  have h1 (a : Addr) : (storeCells a []).run P w = .ok () w := by unfold storeCells; rfl
  cases b <;> cases x <;> simp [Builtin.append_, run_underlying ht, sizeOf, typeInfo, hi, Builtin.lenOf, Builtin.firstCells, h, h0, h1]
theorem wpList_append_zero {P : Program} {w : World} {ops : Array Oper} {rest : List Oper} {o : Oper} {a : Act} {Q : Exit → Act → World → Prop} (hgd : o.guard = none) (s x : Operand) (t : TypeId)
    (ho : o.op = .call { callee := .builtin .append, args := #[s, x], argTypes := #[t, t] })
    (e : TypeId) (i : TypeInfo) (ht : P.underlying t = some (.slice e)) (hi : P.info? e = some i)
    (b y : Option Addr) (n c c' : Nat) (hs : a.eval s = .slice b n c) (hx : a.eval x = .slice y 0 c') (hn : n ≤ c)
    (h : wpList P ops Q rest (a.put o.dst (.slice b n c)) w) : wpList P ops Q (o :: rest) a w := by
  refine wpList_plain hgd fun K hK => ?_
  have hrun := run_append_zero (P := P) w t o.type e i ht hi b y n c c' hn
  unfold Oper.wp
  simp [execOp, ho, resolve, invoke, builtin, hs, hx, hrun, Result.andThen]
  exact hK _ _ h
theorem u8_info : (Tryz.prog.info? 5).map (fun i => (i.zero, i.size, i.bytes)) = some (some (Value.int .u8 0), 1, 1) := by kernel_rfl
theorem info_parts1 {P : Program} {e : TypeId} {z : Value} {s b : Nat} (h : (P.info? e).map (fun i => (i.zero, i.size, i.bytes)) = some (some z, s, b)) : ∃ i, P.info? e = some i ∧ i.zero = some z ∧ i.size = s ∧ i.bytes = b := by
  cases hi : P.info? e with
  | none => rw [hi] at h; simp at h
  | some i =>
    rw [hi] at h
    simp only [Option.map_some, Option.some.injEq, Prod.mk.injEq] at h
    exact ⟨i, rfl, h.1, h.2.1, h.2.2⟩
/-- a new block of one cell is a list of one's own -/
theorem own_one {w : World} {base e : Nat} (x : Value) (hb : base ≤ w.heap.size) : (w.alloc (.cells #[x] e)).ownsRow base e 1 (.slice (some ⟨w.heap.size, 0, none⟩) 1 1) 1 [x] :=
  ⟨by simp, .inr ⟨w.heap.size, 1, #[x], rfl, hb, heap_alloc_new w _, Nat.le_refl _, by simp [maxLen], by simp, by simp⟩⟩
theorem own_none {w : World} {base e : Nat} (hb : base ≤ w.heap.size) : (w.alloc (.cells #[] e)).ownsRow base e 1 (.slice (some ⟨w.heap.size, 0, none⟩) 0 0) 0 [] :=
  ⟨by simp, .inr ⟨w.heap.size, 0, #[], rfl, hb, heap_alloc_new w _, Nat.le_refl _, by simp [maxLen], by simp, by simp⟩⟩
theorem own_succ1 {w : World} {base e size : Nat} {v : Value} {k : Nat} {xs : List Value} (h : w.ownsRow base e size v (k + 1) xs) : ∃ g cap, v = .slice (some ⟨g, 0, none⟩) (k + 1) cap ∧ k + 1 ≤ cap := by
  rcases h.2 with ⟨hv, hn⟩ | ⟨g, cap, cur, hv, hb, hg, hcap, _⟩
  · cases hn
  · exact ⟨g, cap, hv, hcap⟩
theorem bytes_oneCell (l : List UInt8) : ∀ u ∈ byteCells l, u.oneCell' = true := by
  intro u hu
  obtain ⟨b, _, rfl⟩ := List.mem_map.1 hu
  rfl
/-- what is written so far (l), what is left (r) -/
def DecInv (n r : Int) (l : List UInt8) : Prop := (if l = [] then r.natAbs = n.natAbs else decDigits n.natAbs = decRest r.natAbs ++ l) ∧ (l = [] → r = n) ∧ l.length ≤ 20 ∧ -9223372036854775808 ≤ r ∧ r ≤ 9223372036854775807
theorem digits_le (n : Int) (h0 : -9223372036854775808 ≤ n) (h1 : n ≤ 9223372036854775807) : (decDigits n.natAbs).length ≤ 19 := dec_len n.natAbs 18 (by omega)
theorem DecInv.start {n : Int} (h0 : -9223372036854775808 ≤ n) (h1 : n ≤ 9223372036854775807) : DecInv n n [] := ⟨by simp, fun _ => rfl, by simp, h0, h1⟩
theorem DecInv.round {n r : Int} {l : List UInt8} (h0 : -9223372036854775808 ≤ n) (h1 : n ≤ 9223372036854775807) (h : DecInv n r l) (hgo : l = [] ∨ r ≠ 0) :
    DecInv n (r.tdiv 10) (UInt8.ofNat (48 + r.natAbs % 10) :: l) := by
  have hr := dec_round h.1 (hgo.imp_right (by omega))
  have hd := digits_le n h0 h1
  refine ⟨by rw [if_neg (by simp), natAbs_tdiv10]; exact hr, by simp, ?_, ?_, ?_⟩
  · rw [hr] at hd
    simp only [List.length_append, List.length_cons] at hd ⊢
    omega
  · have := h.2.2.2.1; have := h.2.2.2.2; have := natAbs_tdiv10 r; omega
  · have := h.2.2.2.1; have := h.2.2.2.2; have := natAbs_tdiv10 r; omega
theorem DecInv.done {n : Int} {l : List UInt8} (h : DecInv n 0 l) (hl : l ≠ []) : decDigits n.natAbs = l := by
  have := h.1
  rw [if_neg hl] at this
  simpa [decRest] using this
theorem neg_itoa {n : Int} {l : List UInt8} (h : decDigits n.natAbs = l) (hn : n < 0) : itoa n = 45 :: l := by rw [itoa, if_pos hn, h]
theorem pos_itoa {n : Int} {l : List UInt8} (h : decDigits n.natAbs = l) (hn : ¬ n < 0) : itoa n = l := by rw [itoa, if_neg hn, ← h, show n.toNat = n.natAbs by omega]
theorem digit_u8 (r : Int) : IntKind.u8.wrap (48 + ((r.natAbs % 10 : Nat) : Int)) = ((UInt8.ofNat (48 + r.natAbs % 10)).toNat : Int) := by
  rw [dig_toNat _ (by omega), IntKind.wrap_u8]
  omega
def RetStr (l : List UInt8) (w : World) (e : Ending) (w' : World) : Prop := e = .returned (.string ⟨l.toArray⟩) ∧ Below w.heap.size w w'
end Go.Proofs.YtkbfhooiloaokaaGreatDoor.Num
/-
  The reference's decimal numeral, walked (l01Dec).
-/
namespace Go.Proofs.YtkbfhooiloaokaaGreatDoor.Num
open Go.RowKit Go.Proofs.Fl Go.Proofs.Dc
open Go.Lib (itoa decDigits byteCells byteCells_length byteCells_append)
set_option linter.unusedVariables false
set_option linter.unusedSimpArgs false
theorem dec_abs {r : Int} (h : r.tmod 10 < 0) : -(r.tmod 10) = ((r.natAbs % 10 : Nat) : Int) := by have := natAbs_tmod10 r; omega
theorem dec_abs' {r : Int} (h : ¬ r.tmod 10 < 0) : r.tmod 10 = ((r.natAbs % 10 : Nat) : Int) := by have := natAbs_tmod10 r; omega
def lz : Value → Nat
  | .slice _ 0 _ => 1
  | _ => 0
theorem cons_own {w : World} {base e : Nat} {v : Value} {k : Nat} {x : UInt8} {l : List UInt8} (h : w.ownsRow base e 1 v (1 + k) ([Value.int .u8 (x.toNat : Int)] ++ byteCells l)) : w.ownsRow base e 1 v (1 + k) (byteCells (x :: l)) := h
theorem byte_at {w : World} {base e g k c : Nat} {l : List UInt8} (h : w.ownsRow base e 1 (.slice (some ⟨g, 0, none⟩) k c) k (byteCells l)) (o : Obj) : ∀ j u, (byteCells l)[j]? = some u → (w.alloc o).cell? ((⟨g, 0, none⟩ : Addr).add j) = some u := fun j u hu => by
  have hlt : g < w.heap.size := by
    have := World.ownsRow.lt h g rfl
    exact this.2
  have := World.ownsRow.cells h (g := g) rfl j u hu
  exact ((Below.refl _ _).alloc (Nat.le_refl _) o).cell (by rw [show ((⟨g, 0, none⟩ : Addr).add j).block = g by unfold Addr.add; split <;> rfl]; exact hlt) |>.trans this
theorem own_cap {w : World} {base e size g n c : Nat} {xs : List Value} (h : w.ownsRow base e size (.slice (some ⟨g, 0, none⟩) n c) n xs) : n ≤ c := by
  rcases h.2 with ⟨hv, hn⟩ | ⟨g', cap, cur, hv, hb, hg, hcap, _⟩
  · cases hv
  · simp only [Value.slice.injEq] at hv
    omega
theorem cons_below {w wr w' : World} {o : Obj} {k c : Nat} (h : Below w.heap.size w wr) (hg : (wr.alloc o).grownBy w' (Value.slice (some ⟨wr.heap.size, 0, none⟩) k c).ownBlock) : Below w.heap.size w w' :=
  (h.alloc h.size o).grown hg (by simp; have := h.size; omega) fun k hk => by
    simp [Value.ownBlock] at hk
    have := h.size
    omega
theorem lz0 {A : Option Addr} {k c : Nat} (h : k ≠ 0) : lz (.slice A k c) = 0 := by
  cases k with
  | zero => exact absurd rfl h
  | succ => rfl
theorem conv_own {w : World} {base g k c : Nat} {l : List UInt8} (h : w.ownsRow base 5 1 (.slice (some ⟨g, 0, none⟩) k c) k (byteCells l)) (hl : l.length = k) : (convert 22 9 (.slice (some ⟨g, 0, none⟩) k c)).run Tryz.prog w = .ok (.string ⟨l.toArray⟩) w := by
  subst hl
  refine run_convert_bytes_back w _ _ 5 _ c l Tryz.underlying22 Tryz.underlying5 Tryz.underlying9 fun j hj => ?_
  refine World.ownsRow.cells h (g := g) rfl j _ ?_
  simp [byteCells, List.getElem?_map, List.getElem?_eq_getElem hj]
end Go.Proofs.YtkbfhooiloaokaaGreatDoor.Num
/-
  The bits of a float32, one number for all NaNs.
-/
namespace Go.Proofs.YtkbfhooiloaokaaGreatDoor.Num
open Go.RowKit Go.Proofs.Fl
set_option linter.unusedVariables false

theorem l01Bits_calls (x : Nat) (hx : x < 4294967296) (w : World) : Calls Tryz.prog 69 #[.float .f32 x] w (Ret (.int .i64 (cn .f32 x)) w) := by
  go_enter Tryz.func69, Tryz.ntmps69
  go_wp2
  all_goals go_ret
  all_goals rename_i h
  all_goals rw [order_self] at h
  all_goals exact ⟨ret_int (by simp [cn, h, qn]), 0, rfl⟩
end Go.Proofs.YtkbfhooiloaokaaGreatDoor.Num
/-
  Hexadecimal numerals of 8 digits, as plain functions on lists of bytes: both ways of writing one agree; what is read back. Over no program.
-/
namespace Go.Proofs.Hx
open Go Go.Lib

def hexd (d : Nat) : UInt8 := if d < 10 then UInt8.ofNat (48 + d) else UInt8.ofNat (87 + d)
theorem hexd_fin : ∀ d : Fin 16, (hexd d.val).toNat = if d.val < 10 then 48 + d.val else 87 + d.val := by decide +kernel
theorem hexd_toNat (d : Nat) (h : d < 16) : (hexd d).toNat = if d < 10 then 48 + d else 87 + d := hexd_fin ⟨d, h⟩
/-- k digits of u, from the last ones -/
def hexK : Nat → Nat → List UInt8
  | 0, _ => []
  | k + 1, u => hexK k (u / 16) ++ [hexd (u % 16)]
theorem hexK_length (k u : Nat) : (hexK k u).length = k := by
  induction k generalizing u with
  | zero => rfl
  | succ k ih => simp [hexK, ih]
theorem hexK_zero (k : Nat) : hexK k 0 = List.replicate k 48 := by
  induction k with
  | zero => rfl
  | succ k ih =>
    rw [hexK, Nat.zero_div, ih, List.replicate_succ']
    rfl
/-- as many digits as it takes, one for 0 -/
def hexDigits (u : Nat) : List UInt8 :=
  if _h : u < 16 then [hexd u] else hexDigits (u / 16) ++ [hexd (u % 16)]
termination_by u
decreasing_by omega
theorem hexDigits_pos (u : Nat) : 1 ≤ (hexDigits u).length := by
  rw [hexDigits]
  split
  · simp
  · simp
theorem hex_pad (k u : Nat) (h : u < 16 ^ (k + 1)) : (hexDigits u).length ≤ k + 1 ∧ List.replicate (k + 1 - (hexDigits u).length) 48 ++ hexDigits u = hexK (k + 1) u := by
  induction k generalizing u with
  | zero =>
    have h16 : u < 16 := by simpa using h
    rw [hexDigits, dif_pos h16]
    simp [hexK, Nat.mod_eq_of_lt h16]
  | succ k ih =>
    by_cases h16 : u < 16
    · rw [hexDigits, dif_pos h16, hexK, show u / 16 = 0 by omega, hexK_zero, Nat.mod_eq_of_lt h16]
      simp
    · have hd : u / 16 < 16 ^ (k + 1) := by rw [Nat.pow_succ] at h; omega
      obtain ⟨h1, h2⟩ := ih (u / 16) hd
      rw [hexDigits, dif_neg h16, hexK]
      simp only [List.length_append, List.length_cons, List.length_nil]
      refine ⟨by omega, ?_⟩
      rw [← List.append_assoc, ← h2]
      congr 3
      omega
def hex8 (u : Nat) : List UInt8 := hexK 8 u
theorem hex8_length (u : Nat) : (hex8 u).length = 8 := hexK_length 8 u

/-! ### Reading -/
/-- a digit of the reference's: small letters alone -/
def digL (c : UInt8) : Option Nat := if 48 ≤ c.toNat ∧ c.toNat ≤ 57 then some (c.toNat - 48) else if 97 ≤ c.toNat ∧ c.toNat ≤ 102 then some (c.toNat - 87) else none
/-- a digit of strconv's: great letters too -/
def digU (c : UInt8) : Option Nat := if 48 ≤ c.toNat ∧ c.toNat ≤ 57 then some (c.toNat - 48) else if 97 ≤ c.toNat ∧ c.toNat ≤ 102 then some (c.toNat - 87) else if 65 ≤ c.toNat ∧ c.toNat ≤ 70 then some (c.toNat - 55) else none
def numBy (dg : UInt8 → Option Nat) (acc : Nat) : List UInt8 → Option Nat
  | [] => some acc
  | c :: r => match dg c with
    | some d => numBy dg (16 * acc + d) r
    | none => none
theorem numBy_append (dg : UInt8 → Option Nat) (acc : Nat) (l r : List UInt8) : numBy dg acc (l ++ r) = (numBy dg acc l).bind fun u => numBy dg u r := by
  induction l generalizing acc with
  | nil => rfl
  | cons c l ih =>
    simp only [List.cons_append, numBy]
    cases dg c with
    | none => rfl
    | some d => exact ih _
theorem digL_lt {c : UInt8} {d : Nat} (h : digL c = some d) : d < 16 ∧ hexd d = c := by
  unfold digL at h
  split at h
  · rename_i h1
    simp only [Option.some.injEq] at h
    subst h
    refine ⟨by omega, ?_⟩
    apply UInt8.toNat_inj.1
    rw [hexd_toNat _ (by omega), if_pos (by omega)]
    omega
  · split at h
    · rename_i h1
      simp only [Option.some.injEq] at h
      subst h
      refine ⟨by omega, ?_⟩
      apply UInt8.toNat_inj.1
      rw [hexd_toNat _ (by omega), if_neg (by omega)]
      omega
    · cases h
theorem digL_hexd (d : Nat) (h : d < 16) : digL (hexd d) = some d := by
  have := hexd_toNat d h
  unfold digL
  rw [this]
  by_cases h10 : d < 10
  · rw [if_pos h10, if_pos (by omega)]
    congr 1
    omega
  · rw [if_neg h10, if_neg (by omega), if_pos (by omega)]
    congr 1
    omega
theorem digU_of {c : UInt8} {d : Nat} (h : digL c = some d) : digU c = some d := by
  unfold digL at h
  unfold digU
  split at h
  · rename_i h1; rw [if_pos h1]; exact h
  · rename_i h1
    rw [if_neg h1]
    split at h
    · rename_i h2; rw [if_pos h2]; exact h
    · cases h
theorem digU_lt {c : UInt8} {d : Nat} (h : digU c = some d) : d < 16 := by
  unfold digU at h
  split at h
  · simp only [Option.some.injEq] at h; omega
  · split at h
    · simp only [Option.some.injEq] at h; omega
    · split at h
      · simp only [Option.some.injEq] at h; omega
      · cases h
def rdL (l : List UInt8) : Option Nat := numBy digL 0 l
def rdU (l : List UInt8) : Option Nat := numBy digU 0 l
theorem numU_of {l : List UInt8} {acc u : Nat} (h : numBy digL acc l = some u) : numBy digU acc l = some u := by
  induction l generalizing acc with
  | nil => exact h
  | cons c l ih =>
    simp only [numBy] at h ⊢
    cases hd : digL c with
    | none => rw [hd] at h; cases h
    | some d =>
      rw [hd] at h
      rw [digU_of hd]
      exact ih h
theorem rdU_of {l : List UInt8} {u : Nat} (h : rdL l = some u) : rdU l = some u := numU_of h
theorem num_bound {dg : UInt8 → Option Nat} (hd : ∀ c d, dg c = some d → d < 16) {l : List UInt8} {acc u : Nat} (h : numBy dg acc l = some u) : u < (acc + 1) * 16 ^ l.length := by
  induction l generalizing acc with
  | nil =>
    simp only [numBy, Option.some.injEq] at h
    subst h
    simp
  | cons c l ih =>
    simp only [numBy] at h
    cases hc : dg c with
    | none => rw [hc] at h; cases h
    | some d =>
      rw [hc] at h
      have h1 := ih h
      have h2 := hd c d hc
      have h3 : (16 * acc + d + 1) * 16 ^ l.length ≤ ((acc + 1) * 16) * 16 ^ l.length := Nat.mul_le_mul_right _ (by omega)
      rw [List.length_cons, Nat.pow_succ, Nat.mul_comm (16 ^ l.length), ← Nat.mul_assoc]
      omega
theorem rdL_lt {l : List UInt8} {u : Nat} (hl : l.length = 8) (h : rdL l = some u) : u < 4294967296 := by
  have := num_bound (fun c d h => (digL_lt h).1) h
  rw [hl] at this
  simpa using this
theorem rdU_lt {l : List UInt8} {u : Nat} (hl : l.length = 8) (h : rdU l = some u) : u < 4294967296 := by
  have := num_bound (fun c d h => digU_lt h) h
  rw [hl] at this
  simpa using this
/-- a numeral that the reference reads is the one that it writes -/
theorem rdL_hexK (l : List UInt8) (u : Nat) (h : rdL l = some u) : hexK l.length u = l := by
  unfold rdL at h
  generalize hn : l.length = n
  induction n generalizing l u with
  | zero => rw [List.length_eq_zero_iff.1 hn]; rfl
  | succ n ih =>
    obtain ⟨r, c, rfl⟩ : ∃ r c, l = r ++ [c] := ⟨l.dropLast, l.getLast (by intro e; subst e; cases hn), (List.dropLast_concat_getLast _).symm⟩
    rw [numBy_append] at h
    cases hr : numBy digL 0 r with
    | none => rw [hr] at h; cases h
    | some a =>
      rw [hr] at h
      simp only [Option.bind_some, numBy] at h
      cases hc : digL c with
      | none => rw [hc] at h; cases h
      | some d =>
        rw [hc] at h
        simp only [Option.some.injEq] at h
        obtain ⟨hd, he⟩ := digL_lt hc
        subst h
        rw [hexK, show (16 * a + d) / 16 = a by omega, show (16 * a + d) % 16 = d by omega, he, ih r a hr (by simpa using hn)]
theorem num_hexK (k u : Nat) (h : u < 16 ^ k) : numBy digL 0 (hexK k u) = some u := by
  induction k generalizing u with
  | zero =>
    have : u = 0 := by simpa using h
    subst this
    rfl
  | succ k ih =>
    rw [hexK, numBy_append, ih (u / 16) (by rw [Nat.pow_succ] at h; omega)]
    simp only [Option.bind_some, numBy]
    rw [digL_hexd _ (by omega)]
    simp only [Option.some.injEq]
    omega
theorem rdL_hex8 (u : Nat) (h : u < 4294967296) : rdL (hex8 u) = some u := num_hexK 8 u (by simpa using h)
theorem rdL_eq {l : List UInt8} {u : Nat} (hl : l.length = 8) (h : rdL l = some u) : hex8 u = l := by
  have := rdL_hexK l u h
  rw [hl] at this
  exact this

/-! ### Texts of lists -/
/-- pieces of one length, commas between them: told apart -/
theorem joinTail_inj (k : Nat) (sep : List UInt8) (xs ys : List (List UInt8)) (hx : ∀ x ∈ xs, x.length = k) (hy : ∀ y ∈ ys, y.length = k) (hl : xs.length = ys.length) (h : joinTail sep xs = joinTail sep ys) : xs = ys := by
  induction xs generalizing ys with
  | nil =>
    cases ys with
    | nil => rfl
    | cons => cases hl
  | cons x xs ih =>
    cases ys with
    | nil => cases hl
    | cons y ys =>
      simp only [joinTail, List.map_cons, List.flatten_cons, List.append_assoc] at h
      have h1 := List.append_cancel_left h
      have hxy := List.append_inj h1 (by rw [hx x (by simp), hy y (by simp)])
      rw [hxy.1, ih ys (fun z hz => hx z (by simp [hz])) (fun z hz => hy z (by simp [hz])) (by simpa using hl) hxy.2]
theorem join_inj (k : Nat) (sep : List UInt8) (xs ys : List (List UInt8)) (hx : ∀ x ∈ xs, x.length = k) (hy : ∀ y ∈ ys, y.length = k) (hl : xs.length = ys.length) (h : join xs sep = join ys sep) : xs = ys := by
  cases xs with
  | nil =>
    cases ys with
    | nil => rfl
    | cons => cases hl
  | cons x xs =>
    cases ys with
    | nil => cases hl
    | cons y ys =>
      rw [join_cons, join_cons] at h
      have hxy := List.append_inj h (by rw [hx x (by simp), hy y (by simp)])
      rw [hxy.1, joinTail_inj k sep xs ys (fun z hz => hx z (by simp [hz])) (fun z hz => hy z (by simp [hz])) (by simpa using hl) hxy.2]
end Go.Proofs.Hx
/-
  Texts with commas between them, as plain functions on lists of bytes; what bounds their length. Over no program.
-/
namespace Go.Proofs.Tx
open Go Go.Lib

def none4 : List UInt8 := [110, 111, 110, 101]
/-- texts with commas between them, "none" if there are none -/
def textJ (ts : List (List UInt8)) : List UInt8 := if ts = [] then none4 else join ts [44]
/-- the first k + 1 of them -/
def headJ (ts : List (List UInt8)) (k : Nat) : List UInt8 := join (ts.take (k + 1)) [44]
theorem headJ_zero (t : List UInt8) (ts : List (List UInt8)) : headJ (t :: ts) 0 = t := by unfold headJ; exact join_one t [44]
theorem headJ_succ (ts : List (List UInt8)) (k : Nat) (t : List UInt8) (h : ts[k + 1]? = some t) : headJ ts (k + 1) = headJ ts k ++ (44 :: t) := by
  cases ts with
  | nil => simp at h
  | cons x r =>
    unfold headJ
    rw [List.take_succ_cons, List.take_succ_cons, join_cons, join_cons, joinTail_take_succ [44] r k t (by simpa using h)]
    simp
theorem headJ_all (ts : List (List UInt8)) (k : Nat) (h : ts.length ≤ k + 1) (hne : ts ≠ []) : headJ ts k = textJ ts := by
  unfold headJ textJ
  rw [List.take_of_length_le h, if_neg hne]
theorem lens_le (m : Nat) (ts : List (List UInt8)) (h : ∀ t ∈ ts, t.length ≤ m) : lens ts ≤ m * ts.length := by
  induction ts with
  | nil => simp [lens]
  | cons t r ih =>
    have h1 := ih fun u hu => h u (by simp [hu])
    have h2 := h t (by simp)
    simp only [lens, List.map_cons, List.sum_cons, List.length_cons] at h1 ⊢
    rw [Nat.mul_succ]
    omega
theorem join_le (m : Nat) (ts : List (List UInt8)) (h : ∀ t ∈ ts, t.length ≤ m) : (join ts [44]).length ≤ (m + 1) * ts.length := by
  cases ts with
  | nil => simp [join_nil]
  | cons t r =>
    rw [join_length]
    have := lens_le m (t :: r) h
    simp only [List.length_cons, List.length_nil] at this ⊢
    have e : (m + 1) * (r.length + 1) = m * (r.length + 1) + (r.length + 1) := Nat.succ_mul _ _
    omega
theorem headJ_le (m : Nat) (ts : List (List UInt8)) (k : Nat) (h : ∀ t ∈ ts, t.length ≤ m) : (headJ ts k).length ≤ (m + 1) * ts.length := by
  have h1 := join_le m (ts.take (k + 1)) fun t ht => h t (List.mem_of_mem_take ht)
  have h2 : (m + 1) * (ts.take (k + 1)).length ≤ (m + 1) * ts.length := Nat.mul_le_mul_left _ (by rw [List.length_take]; omega)
  unfold headJ
  omega
theorem mk_append (a b : List UInt8) : (⟨a.toArray⟩ : ByteArray) ++ ⟨b.toArray⟩ = ⟨(a ++ b).toArray⟩ := by
  apply ByteArray.ext
  rw [ByteArray.data_append]
  simp
/-- texts as values -/
def strs (ts : List (List UInt8)) : List Value := ts.map fun t => .string ⟨t.toArray⟩
theorem strs_length (ts : List (List UInt8)) : (strs ts).length = ts.length := by simp [strs]
end Go.Proofs.Tx
/-
  DERIVED: THE SHELF's CONTRACTS AT THIS DUMP, IN PLAIN WORDS (tools/lay-plain.mjs out of 'TryzShelfOf.lean', which tools/lay-shelf.mjs wrote): THE SAME DECLARATIONS UNDER THE SAME NAMES: 'import', 'namespace', 'open', 'def', 'theorem' AND NOTHING ELSE: no command of the shelf's: FOR A HAND-IN. Each laying: the table of numbers ('.._ren') and one theorem, a field a fact of the dump's own or the kernel's comparison; each contract: ONE APPLICATION.
-/
namespace Go.Proofs
open Go.Shelf
def Tryz.lays156_ren : Go.Shelf.Ren := ⟨fun | 156 => 74 | 165 => 87 | 166 => 88 | 169 => 90 | 240 => 101 | 241 => 102 | 276 => 117 | 277 => 118 | n => n, fun | 31 => 69 | 9 => 9 | 3 => 3 | 4 => 4 | 0 => 0 | 20 => 20 | 72 => 108 | 76 => 110 | 70 => 106 | 37 => 22 | 75 => 94 | 127 => 126 | 164 => 141 | 5 => 5 | 80 => 113 | n => n, fun | n => n⟩
theorem Tryz.lays156 : Go.Proofs.Lays.n156 Tryz.prog Tryz.lays156_ren := {
  mixed := by kernel_rfl
  f156 := Tryz.func74.trans (congrArg some (by kernel_rfl))
  f165 := Tryz.func87.trans (congrArg some (by kernel_rfl))
  f166 := Tryz.func88.trans (congrArg some (by kernel_rfl))
  f169 := Tryz.func90.trans (congrArg some (by kernel_rfl))
  f240 := Tryz.func101.trans (congrArg some (by kernel_rfl))
  f241 := Tryz.func102.trans (congrArg some (by kernel_rfl))
  f276 := Tryz.func117.trans (congrArg some (by kernel_rfl))
  f277 := Tryz.func118.trans (congrArg some (by kernel_rfl))
  t0 := Tryz.underlying0
  a0 := Tryz.isAgg0
  z0 := Tryz.sizeOf0
  v0 := Tryz.zeroValue0
  t3 := Tryz.underlying3
  a3 := Tryz.isAgg3
  z3 := Tryz.sizeOf3
  v3 := Tryz.zeroValue3
  t4 := Tryz.underlying4
  a4 := Tryz.isAgg4
  z4 := Tryz.sizeOf4
  v4 := Tryz.zeroValue4
  t9 := Tryz.underlying9
  a9 := Tryz.isAgg9
  z9 := Tryz.sizeOf9
  v9 := Tryz.zeroValue9
  t20 := Tryz.underlying20
  a20 := Tryz.isAgg20
  z20 := Tryz.sizeOf20
  v20 := Tryz.zeroValue20
  t31 := Tryz.underlying69
  a31 := Tryz.isAgg69
  z31 := Tryz.sizeOf69
  v31 := Tryz.zeroValue69
  t37 := Tryz.underlying22
  a37 := Tryz.isAgg22
  z37 := Tryz.sizeOf22
  v37 := Tryz.zeroValue22
  t70 := Tryz.underlying106
  a70 := Tryz.isAgg106
  z70 := Tryz.sizeOf106
  v70 := Tryz.zeroValue106
  t72 := Tryz.underlying108
  a72 := Tryz.isAgg108
  z72 := Tryz.sizeOf108
  v72 := Tryz.zeroValue108
  t75 := Tryz.underlying94
  a75 := Tryz.isAgg94
  z75 := Tryz.sizeOf94
  v75 := Tryz.zeroValue94
  t76 := Tryz.underlying110
  a76 := Tryz.isAgg110
  z76 := Tryz.sizeOf110
  v76 := Tryz.zeroValue110
  t127 := Tryz.underlying126
  a127 := Tryz.isAgg126
  z127 := Tryz.sizeOf126
  v127 := Tryz.zeroValue126
  t164 := Tryz.underlying141
  a164 := Tryz.isAgg141
  z164 := Tryz.sizeOf141
  v164 := Tryz.zeroValue141 }
theorem Tryz.Builder_Extra_156 : Builder.Extra Tryz.prog Tryz.lays156_ren := {
  sizeBuilder := by kernel_rfl
  liesBuilder := by kernel_rfl
  t5 := Tryz.underlying5
  a5 := Tryz.isAgg5
  z5 := Tryz.sizeOf5
  v5 := Tryz.zeroValue5
  infoByte := by kernel_rfl
  cellsByte := by kernel_rfl
  sizeByte := by kernel_rfl
  neB5 := by decide }
open Go.RowKit in
/-- No element: the empty string; the world is as it was. (Whatever the slice's address and capacity: a nil slice too.) (LAID: no walk: one application.) -/
theorem Tryz.strings_Join_none (a : Option Addr) (c : Nat) (sep : ByteArray) (w : World) :
    Calls Tryz.prog 74 #[.slice a 0 c, .string sep] w fun e w' => e = .returned (.string ⟨#[]⟩) ∧ w' = w := Any.strings_Join_none Tryz.lays156 Tryz.Builder_Extra_156 a c sep w
open Go.RowKit in
/-- strings.Join: "Join concatenates the elements of its first argument to create a single string. The separator string sep is placed between elements in the resulting string.": HOWEVER MANY ELEMENTS. Below the heap's end the world is as it was. (LAID: no walk: one application.) -/
theorem Tryz.strings_Join (bk o c : Nat) (xs : List ByteArray) (sep : ByteArray) (w : World) (hcells : ∀ (j : Nat) x, xs[j]? = some x → w.cell? ⟨bk, o + j, none⟩ = some (.string x)) (hbk : bk < w.heap.size) (hN : xs.length ≤ 140737488355328) (hcap : xs.length ≤ c) (hlen : (Lib.join (xs.map (·.data.toList)) sep.data.toList).length ≤ 140737488355328) :
    Calls Tryz.prog 74 #[.slice (some ⟨bk, o, none⟩) xs.length c, .string sep] w fun e w' => e = .returned (.string ⟨(Lib.join (xs.map (·.data.toList)) sep.data.toList).toArray⟩) ∧ Below w.heap.size w w' := Any.strings_Join Tryz.lays156 Tryz.Builder_Extra_156 bk o c xs sep w hcells hbk hN hcap hlen
end Go.Proofs
/-
  Lists of texts that a call owns; texts joined by commas (joined), by the library's contract.
-/
namespace Go.Proofs.YtkbfhooiloaokaaGreatDoor.Num
open Go.RowKit Go.Proofs.Fl Go.Proofs.Tx
open Go.Lib (join)
set_option linter.unusedVariables false
set_option linter.unusedSimpArgs false
theorem str_info : (Tryz.prog.info? 9).map (fun i => (i.zero, i.size, i.bytes)) = some (some (Value.string ByteArray.empty), 1, 16) := by kernel_rfl
theorem strs_oneCell (ts : List (List UInt8)) : ∀ u ∈ strs ts, u.oneCell' = true := by
  intro u hu
  obtain ⟨b, _, rfl⟩ := List.mem_map.1 hu
  rfl
theorem strs_snoc (ts : List (List UInt8)) (t : List UInt8) : strs ts ++ [.string ⟨t.toArray⟩] = strs (ts ++ [t]) := by simp [strs]
/-- a list of texts that a call owns -/
def OwnT (w : World) (B : Nat) (v : Value) (k : Nat) (ts : List (List UInt8)) : Prop := w.ownsRow B 9 1 v k (strs ts)
theorem OwnT.len {w : World} {B k : Nat} {v : Value} {ts : List (List UInt8)} (h : OwnT w B v k ts) : ts.length = k := by
  have := h.1
  rw [strs_length] at this
  omega
theorem map_data (ts : List (List UInt8)) : (ts.map fun t => (⟨t.toArray⟩ : ByteArray)).map (·.data.toList) = ts := by
  rw [List.map_map]
  conv => rhs; rw [← List.map_id ts]
  refine List.map_congr_left fun t _ => ?_
  simp
theorem Join_calls (g c : Nat) (ts : List (List UInt8)) (k B : Nat) (w : World) (h : OwnT w B (.slice (some ⟨g, 0, none⟩) k c) k ts) (hlen : (join ts [44]).length ≤ 140737488355328) (hk : k ≤ 1048576) :
    Calls Tryz.prog 74 #[.slice (some ⟨g, 0, none⟩) k c, .string ⟨#[44]⟩] w (RetStr (join ts [44]) w) := by
  obtain rfl := h.len
  have hcells : ∀ (j : Nat) x, (ts.map fun t => (⟨t.toArray⟩ : ByteArray))[j]? = some x → w.cell? ⟨g, 0 + j, none⟩ = some (.string x) := by
    intro j x hx
    have hj : j < ts.length := by have := (List.getElem?_eq_some_iff.1 hx).1; simpa using this
    rw [Nat.zero_add, World.ownsRow.cellAt h j (by omega)]
    rw [List.getElem?_map] at hx
    unfold strs
    rw [List.getElem?_map]
    cases ht : ts[j]? with
    | none => rw [ht] at hx; cases hx
    | some t => rw [ht] at hx; simp only [Option.map_some, Option.some.injEq] at hx ⊢; rw [hx]
  have hlt : g < w.heap.size := (World.ownsRow.lt h g rfl).2
  have hcap : ts.length ≤ c := own_cap h
  have hm : (ts.map fun t => (⟨t.toArray⟩ : ByteArray)).length = ts.length := by simp
  have := Tryz.strings_Join g 0 c (ts.map fun t => (⟨t.toArray⟩ : ByteArray)) ⟨#[44]⟩ w hcells hlt (by rw [hm]; omega) (by rw [hm]; exact hcap) (by rw [map_data]; exact hlen)
  rw [map_data, hm] at this
  exact this
theorem joined_calls (A : Option Addr) (c : Nat) (ts : List (List UInt8)) (k B : Nat) (w : World) (h : OwnT w B (.slice A k c) k ts) (hlen : (join ts [44]).length ≤ 140737488355328) (hk : k ≤ 1048576) :
    Calls Tryz.prog 48 #[.slice A k c] w (RetStr (textJ ts) w) := by
  by_cases h0 : k = 0
  · subst h0
    have HT := hid (show textJ ts = none4 by rw [List.length_eq_zero_iff.1 h.len]; rfl)
    clear h hlen
    go_enter Tryz.func48, Tryz.ntmps48
    go_wp2
    go_ret
    exact ⟨by rw [HT.out]; rfl, Below.refl _ _⟩
  · obtain ⟨g, c', he, _⟩ : ∃ g cap, (Value.slice A k c) = .slice (some ⟨g, 0, none⟩) k cap ∧ k ≤ cap := by
      obtain ⟨k', rfl⟩ : ∃ k', k = k' + 1 := ⟨k - 1, by omega⟩
      exact own_succ1 h
    simp only [Value.slice.injEq, true_and] at he
    obtain ⟨rfl, rfl⟩ := he
    have HJ := hid (Join_calls g c ts k B w h hlen hk)
    have HT := hid (show textJ ts = join ts [44] by unfold textJ; rw [if_neg (by intro e; have := h.len; subst e; simp at this; omega)])
    have hk0 : ((k : Int) == 0) = false := by simp; omega
    clear h hlen
    go_enter Tryz.func48, Tryz.ntmps48
    go_wp2_with (go_at_call 74; refine HJ.out.mono ?_; rintro e w1 ⟨rfl, hb⟩; have HB := hid hb; clear hb)
    go_ret
    exact ⟨by rw [HT.out]; rfl, HB.out⟩
end Go.Proofs.YtkbfhooiloaokaaGreatDoor.Num
/-
  Whether a number lies within bounds (the program's within, the reference's l00In).
-/
namespace Go.Proofs.YtkbfhooiloaokaaGreatDoor.Num
open Go.RowKit Go.Proofs.Fl
set_option linter.unusedVariables false

def inB (n lo hi : Int) : Bool := decide (lo ≤ n) && decide (n ≤ hi)
theorem inB_yes {n lo hi : Int} (h1 : lo ≤ n) (h2 : n ≤ hi) : inB n lo hi = true := by simp [inB, h1, h2]
theorem inB_no {n lo hi : Int} (h : n < lo ∨ hi < n) : inB n lo hi = false := by
  unfold inB
  rcases h with h | h
  · rw [decide_eq_false (by omega)]; rfl
  · rw [decide_eq_false (p := n ≤ hi) (by omega)]; simp

theorem within_is (n lo hi : Int) (b : Bool) (h : inB n lo hi = b) (w : World) : Calls Tryz.prog 54 #[.int .i64 n, .int .i64 lo, .int .i64 hi] w (Ret (.bool b) w) := by
  have H := hid h
  clear h
  by_cases h1 : lo ≤ n
  all_goals
    go_enter Tryz.func54, Tryz.ntmps54
    go_wp2
    go_ret
    exact ⟨ret_bool (by rw [← H.out]; simp [inB]; omega), 0, rfl⟩
end Go.Proofs.YtkbfhooiloaokaaGreatDoor.Num
/-
  The reference's number with a decimal text (l01Value).
-/
namespace Go.Proofs.YtkbfhooiloaokaaGreatDoor.Num
open Go.RowKit Go.Proofs.Fl Go.Proofs.Dc
open Go.Lib (itoa)
set_option linter.unusedVariables false
set_option linter.unusedSimpArgs false
def RetRd (r : Option Int) (w : World) (e : Ending) (w' : World) : Prop := e = .returned (.tuple #[.int .i64 (r.getD 0), .bool r.isSome]) ∧ Below w.heap.size w w'
theorem arr_eq (s : ByteArray) (l : List UInt8) : ((⟨l.toArray⟩ : ByteArray) = s) ↔ l = s.data.toList := by
  constructor
  · rintro rfl; rfl
  · rintro rfl; rfl
theorem head_eq (s : ByteArray) (h : 0 < s.size) : (s.data.toList.head? = some 45) ↔ s[0] = 45 := by
  have hl : 0 < s.data.toList.length := by simpa using h
  have : s.data.toList.head? = some (s[0]) := by
    rw [List.head?_eq_getElem?, List.getElem?_eq_getElem hl]
    rfl
  rw [this]
  simp
theorem val_told (s : ByteArray) (k : Nat) (h : k < s.size) : valD (s.data.toList.take (k + 1)) = valStep (valD (s.data.toList.take k)) s[k] := val_snoc s.data.toList k (by simpa using h)
theorem val_all (s : ByteArray) (k : Nat) (h : s.size ≤ k) : s.data.toList.take k = s.data.toList := List.take_of_length_le (by simpa using h)
theorem below_drewN' {w w1 : World} {n : Nat} (h : Below (w.drewN n).heap.size (w.drewN n) w1) : Below w.heap.size w w1 := ⟨h.os, h.tape, h.output, h.size, h.block⟩
end Go.Proofs.YtkbfhooiloaokaaGreatDoor.Num
/-
  The text of a list of whole numbers: the reference (l01List, l01Text, ListText).
-/
namespace Go.Proofs.YtkbfhooiloaokaaGreatDoor.Num
open Go.RowKit Go.Proofs.Fl Go.Proofs.Dc Go.Proofs.Tx
open Go.Lib (itoa join)
set_option linter.unusedVariables false
set_option linter.unusedSimpArgs false
/-- all numbers from -10^15 to 10^15 -/
def inAll (zs : List Int) : Bool := zs.all fun z => inB z (-1000000000000000) 1000000000000000
theorem inAll_take {zs : List Int} {k : Nat} (hk : k < zs.length) (h : inAll (zs.take k) = true) (hz : inB zs[k] (-1000000000000000) 1000000000000000 = true) : inAll (zs.take (k + 1)) = true := by
  unfold inAll at *
  rw [List.take_succ_eq_append_getElem hk, List.all_append, h]
  simp [hz]
theorem inAll_bad {zs : List Int} {k : Nat} (hk : k < zs.length) (hz : inB zs[k] (-1000000000000000) 1000000000000000 = false) : inAll zs = false := by
  unfold inAll
  rw [List.all_eq_false]
  exact ⟨zs[k], List.getElem_mem hk, by simp [hz]⟩
theorem inAll_end {zs : List Int} {k : Nat} (hk : zs.length ≤ k) (h : inAll (zs.take k) = true) : inAll zs = true := by rwa [List.take_of_length_le hk] at h
def okList (zs : List Int) : Bool := inAll zs && decide (zs.length ≤ 64)
theorem inAll_mem {zs : List Int} (h : inAll zs = true) : ∀ z ∈ zs, -1000000000000000 ≤ z ∧ z ≤ 1000000000000000 := by
  intro z hz
  have := List.all_eq_true.1 h z hz
  simpa [inB] using this
theorem itoa_le {zs : List Int} (h : inAll zs = true) : ∀ t ∈ zs.map itoa, t.length ≤ 17 := by
  intro t ht
  obtain ⟨z, hz, rfl⟩ := List.mem_map.1 ht
  have := inAll_mem h z hz
  exact (itoa_len17 z (by omega)).2
def RetText (o : Option (List UInt8)) (w : World) (e : Ending) (w' : World) : Prop := e = .returned (.tuple #[.string ⟨(o.getD []).toArray⟩, .bool o.isSome]) ∧ Below w.heap.size w w'
def listText (zs : List Int) : Option (List UInt8) := if okList zs = true then some (textJ (zs.map itoa)) else none
theorem head_step {zs : List Int} {k : Nat} (h : k + 1 < zs.length) : headJ (zs.map itoa) (k + 1) = headJ (zs.map itoa) k ++ (44 :: itoa zs[k + 1]) := headJ_succ _ _ _ (by simp [List.getElem?_eq_getElem h])
theorem head_start {zs : List Int} (h : 0 < zs.length) : headJ (zs.map itoa) 0 = itoa zs[0] := by
  cases zs with
  | nil => simp at h
  | cons z r => exact headJ_zero _ _
theorem head_end {zs : List Int} {k : Nat} (h : zs.length ≤ k + 1) (h0 : 0 < zs.length) : headJ (zs.map itoa) k = textJ (zs.map itoa) := headJ_all _ _ (by simpa using h) (by intro e; simp at e; subst e; simp at h0)
end Go.Proofs.YtkbfhooiloaokaaGreatDoor.Num
/-
  The program's decimal numeral (Decimal), by the library's contract; the table that it reads.
-/
namespace Go.Proofs.YtkbfhooiloaokaaGreatDoor.Num
open Go.RowKit Go.Proofs.Fl Go.Proofs.Dc
open Go.Lib (itoa decDigits byteCells byteCells_length byteCells_append)
set_option linter.unusedVariables false
set_option linter.unusedSimpArgs false
/-- the table of the powers of 10 reads as it is laid, whatever is done from block B on -/
def Tab (B : Nat) (w : World) : Prop := Lib.TabBelow Tryz.prog B w "internal/strconv.uint64pow10" .u64 Lib.pow10Tab
theorem Tab.on {B : Nat} {w w1 : World} (h : Tab B w) (hb : Below B w w1) : Tab B w1 := Lib.TabBelow.on h hb
theorem Tab.next {B : Nat} {w w1 : World} (h : Tab B w) (hB : B ≤ w.heap.size) (hb : Below w.heap.size w w1) : Tab B w1 := h.on (hb.mono hB)
end Go.Proofs.YtkbfhooiloaokaaGreatDoor.Num
/-
  The program's number with a decimal text (ReadDecimal), by the library's contracts.
-/
namespace Go.Proofs.YtkbfhooiloaokaaGreatDoor.Num
open Go.RowKit Go.Proofs.Fl Go.Proofs.Dc
open Go.Lib (itoa)
set_option linter.unusedVariables false
set_option linter.unusedSimpArgs false
theorem var_below {P : Program} {w w' : World} {n : String} {cs : Array Value} (h : w.var? P n = some cs) (hb : Below w.heap.size w w') : w'.var? P n = some cs := by
  unfold World.var? at *
  cases hg : P.globalNamed n with
  | none => simp [hg] at h
  | some g =>
    simp only [hg, Option.bind_some] at h ⊢
    have hlt : g < w.heap.size := by
      rcases Nat.lt_or_ge g w.heap.size with h' | h'
      · exact h'
      · rw [Array.getElem?_eq_none h'] at h; simp at h
    rw [hb.block g hlt]
    exact h
/-- the library's two errors hold pointers, whatever is done from block B on -/
structure Errs (B : Nat) (w : World) : Prop where
  synt : ∃ a : Addr, ∀ w', Below B w w' → w'.var? Tryz.prog "strconv.ErrSyntax" = some #[.iface 153 (.pointer (some a))]
  rang : ∃ a : Addr, ∀ w', Below B w w' → w'.var? Tryz.prog "strconv.ErrRange" = some #[.iface 153 (.pointer (some a))]
theorem Errs.of {w : World} (h1 : ∃ a : Addr, w.var? Tryz.prog "strconv.ErrSyntax" = some #[.iface 153 (.pointer (some a))]) (h2 : ∃ a : Addr, w.var? Tryz.prog "strconv.ErrRange" = some #[.iface 153 (.pointer (some a))]) : Errs w.heap.size w :=
  ⟨h1.imp fun a h w' hb => var_below h hb, h2.imp fun a h w' hb => var_below h hb⟩
theorem Errs.on {B : Nat} {w w1 : World} (h : Errs B w) (hb : Below B w w1) : Errs B w1 := ⟨h.synt.imp fun a h w' h' => h w' (hb.trans h'), h.rang.imp fun a h w' h' => h w' (hb.trans h')⟩
end Go.Proofs.YtkbfhooiloaokaaGreatDoor.Num
/-
  The text of a list of whole numbers: the program (areValues, listText, ListText).
-/
namespace Go.Proofs.YtkbfhooiloaokaaGreatDoor.Num
open Go.RowKit Go.Proofs.Fl Go.Proofs.Dc Go.Proofs.Tx
open Go.Lib (itoa join)
set_option linter.unusedVariables false
set_option linter.unusedSimpArgs false
theorem own_step {w w' : World} {B e size : Nat} {v : Value} {n : Nat} {xs : List Value} (h : w.ownsRow B e size v n xs) (hb : Below w.heap.size w w') : w'.ownsRow B e size v n xs := by
  refine ⟨h.1, ?_⟩
  rcases h.2 with hn | ⟨g, cap, cur, hv, hB, hg, rest⟩
  · exact .inl hn
  · exact .inr ⟨g, cap, cur, hv, hB, (hb.block g (Array.getElem?_eq_some_iff.1 hg).1).trans hg, rest⟩
theorem str_new (w : World) (B : Nat) (x : Value) : ∀ j u, [x][j]? = some u → (w.alloc (.cells #[x] 9)).cell? ((⟨w.heap.size, 0, none⟩ : Addr).add j) = some u := fun j u hu => by
  have := World.ownsRow.cells (own_one (w := w) (base := w.heap.size) (e := 9) x (Nat.le_refl _)) (g := w.heap.size) rfl j u hu
  exact this
theorem grown_below {w wr w' : World} {o : Obj} {A : Option Addr} {k c : Nat} {xs : List Value} {e : Nat} (h : Below w.heap.size w wr) (ho : wr.ownsRow w.heap.size e 1 (.slice A k c) k xs) (hg : (wr.alloc o).grownBy w' (Value.slice A k c).ownBlock) : Below w.heap.size w w' :=
  (h.alloc h.size o).grown hg (by simp; have := h.size; omega) fun k hk => (World.ownsRow.lt ho k hk).1
end Go.Proofs.YtkbfhooiloaokaaGreatDoor.Num
/-
  The hexadecimal digits of the bits of a float32: the reference's l01Hex.
-/
namespace Go.Proofs.YtkbfhooiloaokaaGreatDoor.Num
open Go.RowKit Go.Proofs.Fl Go.Proofs.Hx
open Go.Lib (byteCells byteCells_length byteCells_append)
set_option linter.unusedVariables false
set_option linter.unusedSimpArgs false
theorem cn_lt {x : Nat} (hx : x < 4294967296) : cn .f32 x < 4294967296 := by
  unfold cn
  split
  · decide
  · exact hx
/-- the 16 digits as a constant text -/
def dig16 : ByteArray := ⟨#[48, 49, 50, 51, 52, 53, 54, 55, 56, 57, 97, 98, 99, 100, 101, 102]⟩
theorem dig16_at : ∀ k : Fin 16, dig16.data.toList[k.val]? = some (hexd k.val) := by decide +kernel
theorem idx_dig {P : Program} (s : ByteArray) (hs : ∀ k, k < 16 → s.data.toList[k]? = some (hexd k)) (hl : 16 ≤ s.size) (t : TypeId) (ht : P.underlying t = some .string) (kd : IntKind) (z : Int) (i : Nat) (hz : z = (i : Int)) (hi : i < 16) (w : World) :
    (Instr.index t (.string s) (.int kd z)).run P w = .ok (.int .u8 ((hexd i).toNat : Int)) w := by
  subst hz
  rw [run_index_string w t s kd _ ht, dif_pos ⟨by omega, by omega⟩]
  have e : ((i : Int)).toNat = i := by omega
  simp only [e]
  have h := hs i hi
  have : s[i]'(by omega) = hexd i := by
    rw [List.getElem?_eq_getElem (by simpa using (by omega : i < s.size))] at h
    have h2 : s.data[i]'(by show i < s.size; omega) = hexd i := by simpa using h
    exact h2
  rw [this]
theorem byte_snoc (l : List UInt8) (x : UInt8) : byteCells l ++ [.int .u8 (x.toNat : Int)] = byteCells (l ++ [x]) := by simp [byteCells]
theorem u8_new (w : World) (x : Value) : ∀ j u, [x][j]? = some u → (w.alloc (.cells #[x] 5)).cell? ((⟨w.heap.size, 0, none⟩ : Addr).add j) = some u := fun j u hu =>
  World.ownsRow.cells (own_one (w := w) (base := w.heap.size) (e := 5) x (Nat.le_refl _)) (g := w.heap.size) rfl j u hu
theorem and15 (u j : Nat) (hu : u < 4294967296) (hj : j < 8) : bits .and .i64 ((u : Int) / 2 ^ (28 - 4 * j)) 15 = ((u / 16 ^ (7 - j) % 16 : Nat) : Int) := by
  have e : ((u : Int) / 2 ^ (28 - 4 * j)) = ((u / 2 ^ (28 - 4 * j) : Nat) : Int) := by norm_cast
  have e2 : 2 ^ (28 - 4 * j) = 16 ^ (7 - j) := by rw [show (16 : Nat) = 2 ^ 4 from rfl, ← Nat.pow_mul, show 28 - 4 * j = 4 * (7 - j) by omega]
  rw [e, e2]
  have hle : u / 16 ^ (7 - j) ≤ u := Nat.div_le_self _ _
  have := i64_and_nat (u / 16 ^ (7 - j)) 15 (by omega) (by omega)
  rw [show ((15 : Nat) : Int) = 15 from rfl] at this
  rw [this, show (15 : Nat) = 2 ^ 4 - 1 from rfl, Nat.and_two_pow_sub_one_eq_mod]
theorem hexK_step (u j : Nat) (hj : j < 8) : hexK (j + 1) (u / 16 ^ (8 - (j + 1))) = hexK j (u / 16 ^ (8 - j)) ++ [hexd (u / 16 ^ (7 - j) % 16)] := by
  rw [hexK, show 8 - (j + 1) = 7 - j by omega, Nat.div_div_eq_div_mul, ← Nat.pow_succ, show (7 - j).succ = 8 - j by omega]
end Go.Proofs.YtkbfhooiloaokaaGreatDoor.Num
/-
  Whether a list of float32 has at most 256 numbers (the reference's l01Few).
-/
namespace Go.Proofs.YtkbfhooiloaokaaGreatDoor.Num
open Go.RowKit Go.Proofs.Fl
end Go.Proofs.YtkbfhooiloaokaaGreatDoor.Num
/-
  The text of a list of float32: the reference (l01NText, NumbersText).
-/
namespace Go.Proofs.YtkbfhooiloaokaaGreatDoor.Num
open Go.RowKit Go.Proofs.Fl Go.Proofs.Hx Go.Proofs.Tx
open Go.Lib (join)
set_option linter.unusedVariables false
set_option linter.unusedSimpArgs false
/-- the digits of a number's bits -/
def hexT (x : Nat) : List UInt8 := hex8 (cn .f32 x)
theorem hexT_len (x : Nat) : (hexT x).length = 8 := hex8_length _
theorem hexT_le (xs : List Nat) : ∀ t ∈ xs.map hexT, t.length ≤ 8 := by
  intro t ht
  obtain ⟨z, _, rfl⟩ := List.mem_map.1 ht
  exact Nat.le_of_eq (hexT_len z)
def numText (xs : List Nat) : Option (List UInt8) := if xs.length ≤ 256 then some (textJ (xs.map hexT)) else none
theorem nhead_step {xs : List Nat} {k : Nat} (h : k + 1 < xs.length) : headJ (xs.map hexT) (k + 1) = headJ (xs.map hexT) k ++ (44 :: hexT xs[k + 1]) := headJ_succ _ _ _ (by simp [List.getElem?_eq_getElem h])
theorem nhead_start {xs : List Nat} (h : 0 < xs.length) : headJ (xs.map hexT) 0 = hexT xs[0] := by
  cases xs with
  | nil => simp at h
  | cons z r => exact headJ_zero _ _
theorem nhead_end {xs : List Nat} {k : Nat} (h : xs.length ≤ k + 1) (h0 : 0 < xs.length) : headJ (xs.map hexT) k = textJ (xs.map hexT) := headJ_all _ _ (by simpa using h) (by intro e; simp at e; subst e; simp at h0)
end Go.Proofs.YtkbfhooiloaokaaGreatDoor.Num
/-
  A text cut at its commas, as plain functions on lists of bytes: the library's way (cut at the first instance, again and again) and byte by byte. Over no program.
-/
namespace Go.Proofs.Tx
open Go Go.Lib

def glue (b : UInt8) : List (List UInt8) → List (List UInt8)
  | [] => [[b]]
  | x :: r => (b :: x) :: r
def cut : List UInt8 → List (List UInt8)
  | [] => [[]]
  | b :: l => if b = 44 then [] :: cut l else glue b (cut l)
theorem glue_ne (b : UInt8) (x : List (List UInt8)) : glue b x ≠ [] := by cases x <;> simp [glue]
theorem cut_ne (l : List UInt8) : cut l ≠ [] := by
  cases l with
  | nil => simp [cut]
  | cons b l =>
    unfold cut
    split
    · simp
    · exact glue_ne _ _
theorem splitK_cons (b : UInt8) (h : b ≠ 44) (k : Nat) (l : List UInt8) : splitK [44] 0 k (b :: l) = glue b (splitK [44] 0 k l) := by
  have hp : ([44] : List UInt8).isPrefixOf (b :: l) = false := by simp [List.isPrefixOf, Ne.symm h]
  have hix : index (b :: l) [44] = if index l [44] == -1 then -1 else index l [44] + 1 := by rw [index, hp]; simp
  cases k with
  | zero => rfl
  | succ k =>
    unfold splitK
    by_cases hm : index l [44] = -1
    · have h1 : (index (b :: l) [44] == -1) = true := by rw [hix, if_pos (beq_iff_eq.2 hm)]; rfl
      have h2 : (index l [44] == -1) = true := beq_iff_eq.2 hm
      rw [if_pos h1, if_pos h2]
      rfl
    · have hge := index_ge l [44]
      obtain ⟨j, hj⟩ : ∃ j : Nat, index l [44] = j := ⟨(index l [44]).toNat, by omega⟩
      have hix' : index (b :: l) [44] = ((j + 1 : Nat) : Int) := by rw [hix, if_neg (fun e => hm (beq_iff_eq.1 e)), hj]; omega
      rw [if_neg (by rw [hix']; simp; omega), if_neg (by rw [hj]; simp), hix', hj]
      simp [glue]
theorem split_cut (l : List UInt8) : splitK [44] 0 (count l [44]) l = cut l := by
  induction l with
  | nil => rw [count_one]; rfl
  | cons b l ih =>
    by_cases h : b = 44
    · subst h
      have hix : index (44 :: l) [44] = 0 := by rw [index]; simp [List.isPrefixOf]
      rw [count_cons_eq, Nat.add_comm, splitK, if_neg (by rw [hix]; decide), hix]
      simp only [cut, if_true]
      rw [← ih]
      rfl
    · rw [count_cons_ne b 44 l h, splitK_cons b h, ih]
      simp only [cut, if_neg h]
theorem glue_append (b : UInt8) (x y : List (List UInt8)) (h : x ≠ []) : glue b (x ++ y) = glue b x ++ y := by
  cases x with
  | nil => exact absurd rfl h
  | cons => rfl
theorem cut_sep (l : List UInt8) : cut (l ++ [44]) = cut l ++ [[]] := by
  induction l with
  | nil => rfl
  | cons b l ih =>
    simp only [List.cons_append, cut, ih]
    split
    · rfl
    · exact glue_append _ _ _ (cut_ne l)
theorem cut_more (b : UInt8) (hb : b ≠ 44) (l : List UInt8) : ∀ (xs : List (List UInt8)) (y : List UInt8), cut l = xs ++ [y] → cut (l ++ [b]) = xs ++ [y ++ [b]] := by
  induction l with
  | nil =>
    intro xs y h
    cases xs with
    | nil =>
      simp only [cut, List.nil_append, List.cons.injEq, and_true] at h
      subst h
      simp [cut, hb, glue]
    | cons x xs => simp [cut] at h
  | cons a l ih =>
    intro xs y h
    by_cases ha : a = 44
    · simp only [cut, ha, if_true] at h
      simp only [List.cons_append, cut, ha, if_true]
      cases xs with
      | nil => simp at h; exact absurd h.2 (cut_ne l)
      | cons x xs =>
        simp only [List.cons_append, List.cons.injEq] at h
        rw [← h.1, ih xs y h.2]
        rfl
    · simp only [cut, ha, if_false] at h
      simp only [List.cons_append, cut, ha, if_false]
      cases hc : cut l with
      | nil => exact absurd hc (cut_ne l)
      | cons z r =>
        rw [hc] at h
        simp only [glue] at h
        cases xs with
        | nil =>
          simp only [List.nil_append, List.cons.injEq] at h
          obtain ⟨h1, h2⟩ := h
          subst h1 h2
          rw [ih [] z (by rw [hc]; rfl)]
          rfl
        | cons x xs =>
          simp only [List.cons_append, List.cons.injEq] at h
          obtain ⟨h1, h2⟩ := h
          subst h1
          rw [ih (z :: xs) y (by rw [hc, h2]; rfl)]
          rfl
/-- what the reference holds behind i bytes: whole pieces, and where the last one begins -/
def CutInv (l : List UInt8) (i : Nat) (out : List (List UInt8)) (f : Nat) : Prop := f ≤ i ∧ i ≤ l.length ∧ cut (l.take i) = out ++ [(l.take i).drop f]
theorem CutInv.start (l : List UInt8) : CutInv l 0 [] 0 := ⟨Nat.le_refl _, Nat.zero_le _, rfl⟩
theorem CutInv.sep {l : List UInt8} {i f : Nat} {out : List (List UInt8)} (h : CutInv l i out f) (hi : i < l.length) (hs : l[i] = 44) : CutInv l (i + 1) (out ++ [(l.take i).drop f]) (i + 1) := by
  refine ⟨Nat.le_refl _, hi, ?_⟩
  rw [List.take_succ_eq_append_getElem hi, hs, cut_sep, h.2.2, List.drop_of_length_le (l := l.take i ++ [44]) (by simp; omega)]
theorem CutInv.more {l : List UInt8} {i f : Nat} {out : List (List UInt8)} (h : CutInv l i out f) (hi : i < l.length) (hs : l[i] ≠ 44) : CutInv l (i + 1) out f := by
  refine ⟨Nat.le_succ_of_le h.1, hi, ?_⟩
  rw [List.take_succ_eq_append_getElem hi, cut_more _ hs _ _ _ h.2.2, List.drop_append_of_le_length (by rw [List.length_take]; have := h.1; omega)]
theorem CutInv.done {l : List UInt8} {f : Nat} {out : List (List UInt8)} (h : CutInv l l.length out f) : cut l = out ++ [(l.take l.length).drop f] := by
  have := h.2.2
  rwa [List.take_of_length_le (Nat.le_refl _)] at this ⊢
theorem cut_len (l : List UInt8) : (cut l).length ≤ l.length + 1 := by
  induction l with
  | nil => simp [cut]
  | cons b l ih =>
    unfold cut
    split
    · simp; exact ih
    · cases h : cut l with
      | nil => simp [glue]
      | cons x r => rw [h] at ih; simp [glue] at ih ⊢; omega

/-! ### Pieces that are all read, or not -/
section
variable {α : Type} (rd : List UInt8 → Option α) (d : α)
def okAll (ps : List (List UInt8)) : Bool := ps.all fun p => (rd p).isSome
def vals (ps : List (List UInt8)) : List α := ps.map fun p => (rd p).getD d
theorem vals_length (ps : List (List UInt8)) : (vals rd d ps).length = ps.length := by simp [vals]
theorem okAll_take {ps : List (List UInt8)} {k : Nat} (hk : k < ps.length) (h : okAll rd (ps.take k) = true) {v : α} (hv : rd ps[k] = some v) : okAll rd (ps.take (k + 1)) = true ∧ vals rd d (ps.take (k + 1)) = vals rd d (ps.take k) ++ [v] := by
  unfold okAll vals at *
  rw [List.take_succ_eq_append_getElem hk, List.all_append, h, List.map_append]
  simp [hv]
theorem okAll_bad {ps : List (List UInt8)} {k : Nat} (hk : k < ps.length) (hv : rd ps[k] = none) : okAll rd ps = false := by
  unfold okAll
  rw [List.all_eq_false]
  exact ⟨ps[k], List.getElem_mem hk, by simp [hv]⟩
end
end Go.Proofs.Tx
/-
  The laws' toInt64S: a copy of a slice.
-/
namespace Go.Proofs.YtkbfhooiloaokaaGreatDoor.Num
open Go.RowKit Go.Proofs.Fl
set_option linter.unusedVariables false

theorem toInt64S_info : (Tryz.prog.info? 2).map (fun i => (i.zero, i.size, i.bytes)) = some (some (Value.int .i64 0), 1, 8) := by kernel_rfl

end Go.Proofs.YtkbfhooiloaokaaGreatDoor.Num
/-
  A list of whole numbers in a block of one's own.
-/
namespace Go.Proofs.YtkbfhooiloaokaaGreatDoor.Num
open Go.RowKit Go.Proofs.Fl
set_option linter.unusedVariables false
set_option linter.unusedSimpArgs false
def OwnI (w : World) (g s : Nat) (zs : List Int) : Prop := w.ownsRow g 2 1 (.slice (some ⟨g, 0, none⟩) s s) s (i64s zs)
theorem OwnI.len {w : World} {g s : Nat} {zs : List Int} (h : OwnI w g s zs) : zs.length = s := by simpa using h.1
theorem OwnI.cell {w : World} {g s : Nat} {zs : List Int} (h : OwnI w g s zs) {k : Nat} (hk : k < s) : w.cell? ⟨g, k, none⟩ = some (.int .i64 (zs.getD k 0)) := by
  have hz : k < zs.length := by rw [h.len]; exact hk
  rw [World.ownsRow.cellAt h k (by omega)]
  unfold i64s
  rw [List.getElem?_map, List.getD_eq_getElem?_getD, List.getElem?_eq_getElem hz]
  rfl
theorem OwnI.frozen {w : World} {g s : Nat} {zs : List Int} (h : OwnI w g s zs) (k : Nat) : w.frozen? ⟨g, k, none⟩ = false := World.ownsRow.frozenAt h k
theorem OwnI.set {w : World} {g s : Nat} {zs : List Int} (h : OwnI w g s zs) (k : Nat) (v : Int) : OwnI (w.setCell ⟨g, k, none⟩ (.int .i64 v)) g s (zs.set k v) := by
  have := (World.ownsRow.stored h k (.int .i64 v)).1
  unfold OwnI
  have e : i64s (zs.set k v) = (i64s zs).set k (.int .i64 v) := by unfold i64s; rw [List.map_set]
  rw [e]
  exact this
theorem OwnI.rd {w : World} {g s : Nat} {zs : List Int} (h : OwnI w g s zs) : Rd w w.heap.size (some ⟨g, 0, none⟩) (i64s zs) := Rd.of_own h
theorem OwnI.drew {w : World} {g s : Nat} {zs : List Int} (h : OwnI w g s zs) : OwnI w.drew g s zs := h
theorem OwnI.drewN {w : World} {g s : Nat} {zs : List Int} (h : OwnI w g s zs) (k : Nat) : OwnI (w.drewN k) g s zs := h
theorem OwnI.lt {w : World} {g s : Nat} {zs : List Int} (h : OwnI w g s zs) : g < w.heap.size := by
  rcases h.2 with ⟨hv, hn⟩ | ⟨g', cap, cur, hv, hb, hg, _⟩
  · cases hv
  · simp only [Value.slice.injEq, Option.some.injEq, Addr.mk.injEq, and_true, true_and] at hv
    obtain ⟨rfl, _⟩ := hv
    exact (Array.getElem?_eq_some_iff.1 hg).1
theorem OwnI.keep {w w' : World} {g s : Nat} {zs : List Int} (h : OwnI w g s zs) (hk : w'.heap[g]? = w.heap[g]?) : OwnI w' g s zs := by
  refine ⟨h.1, ?_⟩
  rcases h.2 with hn | ⟨g', cap, cur, hv, hb, hg, rest⟩
  · exact .inl hn
  · refine .inr ⟨g', cap, cur, hv, hb, ?_, rest⟩
    simp only [Value.slice.injEq, Option.some.injEq, Addr.mk.injEq, and_true, true_and] at hv
    obtain ⟨rfl, _⟩ := hv
    rw [hk]; exact hg
theorem OwnI.step {w w' : World} {g s : Nat} {zs : List Int} (h : OwnI w g s zs) (hb : Below w.heap.size w w') : OwnI w' g s zs := h.keep (hb.block g h.lt)
theorem OwnI.other {w : World} {g s : Nat} {zs : List Int} (h : OwnI w g s zs) {p : Addr} (hp : g ≠ p.block) (u : Value) : OwnI (w.setCell p u) g s zs := h.keep (Below.heap_setCell w p u g hp)
theorem OwnI.of {w : World} {base g s : Nat} {zs : List Int} (h : w.ownsRow base 2 1 (.slice (some ⟨g, 0, none⟩) s s) s (i64s zs)) : OwnI w g s zs := by
  refine ⟨h.1, ?_⟩
  rcases h.2 with hn | ⟨g', cap, cur, hv, hb, rest⟩
  · exact .inl hn
  · refine .inr ⟨g', cap, cur, hv, ?_, rest⟩
    simp only [Value.slice.injEq, Option.some.injEq, Addr.mk.injEq, and_true, true_and] at hv
    omega
theorem i64s_rep (s : Nat) : List.replicate s (Value.int .i64 0) = i64s (List.replicate s 0) := by unfold i64s; rw [List.map_replicate]
end Go.Proofs.YtkbfhooiloaokaaGreatDoor.Num
/-
  Lists of whole numbers that a call owns, with or without a block; what is kept while some blocks are written.
-/
namespace Go.Proofs.YtkbfhooiloaokaaGreatDoor.Num
open Go.RowKit Go.Proofs.Fl
set_option linter.unusedVariables false
set_option linter.unusedSimpArgs false
/-- the blocks of w, but those listed, stand in w' as they were -/
structure Kept (w w' : World) (R : List (Option Nat)) : Prop where
  os : w'.os = w.os
  tape : w'.tape = w.tape
  output : w'.output = w.output
  size : w.heap.size ≤ w'.heap.size
  block : ∀ b, b < w.heap.size → (∀ r ∈ R, some b ≠ r) → w'.heap[b]? = w.heap[b]?
theorem Kept.refl (w : World) (R : List (Option Nat)) : Kept w w R := ⟨rfl, rfl, rfl, Nat.le_refl _, fun _ _ _ => rfl⟩
theorem Kept.trans {a b c : World} {R : List (Option Nat)} (h : Kept a b R) (k : Kept b c R) : Kept a c R :=
  ⟨k.os.trans h.os, k.tape.trans h.tape, k.output.trans h.output, Nat.le_trans h.size k.size, fun i hi hr => (k.block i (Nat.lt_of_lt_of_le hi h.size) hr).trans (h.block i hi hr)⟩
theorem Kept.more {w w' : World} {R R' : List (Option Nat)} (h : Kept w w' R) (hs : ∀ r ∈ R, r ∈ R') : Kept w w' R' := ⟨h.os, h.tape, h.output, h.size, fun b hb hr => h.block b hb fun r hm => hr r (hs r hm)⟩
theorem Kept.of_below {w w' : World} (h : Below w.heap.size w w') (R : List (Option Nat)) : Kept w w' R := ⟨h.os, h.tape, h.output, h.size, fun b hb _ => h.block b hb⟩
theorem Kept.below {w w' : World} {R : List (Option Nat)} {B : Nat} (h : Kept w w' R) (hB : B ≤ w.heap.size) (hr : ∀ r ∈ R, ∀ g, r = some g → B ≤ g) : Below B w w' :=
  ⟨h.os, h.tape, h.output, h.size, fun b hb => h.block b (by omega) fun r hm e => by have := hr r hm b e.symm; omega⟩
theorem Kept.set {w w' : World} {R : List (Option Nat)} (h : Kept w w' R) {p : Addr} (hp : some p.block ∈ R) (u : Value) : Kept w (w'.setCell p u) R :=
  h.trans ⟨rfl, rfl, rfl, by simp [World.setCell], fun b hb hr => Below.heap_setCell _ _ _ _ fun e => hr _ hp (by rw [e])⟩
theorem Kept.cell {w w' : World} {R : List (Option Nat)} (h : Kept w w' R) {b : Nat} (hb : b < w.heap.size) (hr : ∀ r ∈ R, some b ≠ r) (o : Nat) : w'.cell? ⟨b, o, none⟩ = w.cell? ⟨b, o, none⟩ := World.cell?_of_block (w := w) (h.block b hb hr)
/-- the block of an address -/
def blk (A : Option Addr) : Option Nat := A.map (·.block)
theorem Rd.kept {w w' : World} {R : List (Option Nat)} {A : Option Addr} {xs : List Value} (h : Rd w w.heap.size A xs) (hk : Kept w w' R) (hr : xs = [] ∨ ∀ r ∈ R, blk A ≠ r) : Rd w' w'.heap.size A xs := by
  rcases h with h0 | ⟨b, off, hA, hb, hc⟩
  · exact .inl h0
  · rcases hr with h0 | hr
    · exact .inl h0
    · refine .inr ⟨b, off, hA, Nat.lt_of_lt_of_le hb hk.size, fun j u hu => ?_⟩
      rw [← hc j u hu]
      exact hk.cell hb (fun r hm => by have := hr r hm; rw [hA] at this; exact this) _
/-- a list that a call owns: none at all, or a block from its head on -/
def OwnL (w : World) (e size : Nat) (A : Option Addr) (n c : Nat) (zs : List Int) : Prop := zs.length = n * size ∧ (n = 0 ∨ ∃ g, A = some ⟨g, 0, none⟩ ∧ w.ownsRow g e size (.slice A n c) n (i64s zs))
theorem own_lt {w : World} {base e size g n c : Nat} {xs : List Value} (h : w.ownsRow base e size (.slice (some ⟨g, 0, none⟩) n c) n xs) : g < w.heap.size := by
  rcases h.2 with ⟨hv, hn⟩ | ⟨g', cap, cur, hv, hb, hg, _⟩
  · cases hv
  · simp only [Value.slice.injEq, Option.some.injEq, Addr.mk.injEq, and_true, true_and] at hv
    obtain ⟨rfl, _⟩ := hv
    exact (Array.getElem?_eq_some_iff.1 hg).1
theorem own_keep {w w' : World} {base e size g n c : Nat} {xs : List Value} (h : w.ownsRow base e size (.slice (some ⟨g, 0, none⟩) n c) n xs) (hk : w'.heap[g]? = w.heap[g]?) : w'.ownsRow base e size (.slice (some ⟨g, 0, none⟩) n c) n xs := by
  refine ⟨h.1, ?_⟩
  rcases h.2 with hn | ⟨g', cap, cur, hv, hb, hg, rest⟩
  · exact .inl hn
  · refine .inr ⟨g', cap, cur, hv, hb, ?_, rest⟩
    simp only [Value.slice.injEq, Option.some.injEq, Addr.mk.injEq, and_true, true_and] at hv
    obtain ⟨rfl, _⟩ := hv
    rw [hk]; exact hg
theorem own_rebase {w : World} {base e size g n c : Nat} {xs : List Value} (h : w.ownsRow base e size (.slice (some ⟨g, 0, none⟩) n c) n xs) : w.ownsRow g e size (.slice (some ⟨g, 0, none⟩) n c) n xs := by
  refine ⟨h.1, ?_⟩
  rcases h.2 with hn | ⟨g', cap, cur, hv, hb, rest⟩
  · exact .inl hn
  · refine .inr ⟨g', cap, cur, hv, ?_, rest⟩
    simp only [Value.slice.injEq, Option.some.injEq, Addr.mk.injEq, and_true, true_and] at hv
    omega
theorem OwnL.rd {w : World} {e size : Nat} {A : Option Addr} {n c : Nat} {zs : List Int} (h : OwnL w e size A n c zs) : Rd w w.heap.size A (i64s zs) := by
  rcases h.2 with h0 | ⟨g, rfl, ho⟩
  · left
    have hz : zs.length = 0 := by rw [h.1, h0]; simp
    rw [List.length_eq_zero_iff.1 hz]; rfl
  · refine .inr ⟨g, 0, rfl, own_lt ho, fun j u hu => ?_⟩
    have hj : j < zs.length := by have := (List.getElem?_eq_some_iff.1 hu).1; simpa using this
    rw [Nat.zero_add, World.ownsRow.cellAt ho j (by rw [← h.1]; exact hj)]
    exact hu
theorem OwnL.kept {w w' : World} {R : List (Option Nat)} {e size : Nat} {A : Option Addr} {n c : Nat} {zs : List Int} (h : OwnL w e size A n c zs) (hk : Kept w w' R) (hr : n = 0 ∨ ∀ r ∈ R, blk A ≠ r) : OwnL w' e size A n c zs := by
  refine ⟨h.1, ?_⟩
  rcases h.2 with h0 | ⟨g, rfl, ho⟩
  · exact .inl h0
  · rcases hr with h0 | hr
    · exact .inl h0
    · exact .inr ⟨g, rfl, own_keep ho (hk.block g (own_lt ho) fun r hm => hr r hm)⟩
theorem OwnL.step {w w' : World} {e size : Nat} {A : Option Addr} {n c : Nat} {zs : List Int} (h : OwnL w e size A n c zs) (hb : Below w.heap.size w w') : OwnL w' e size A n c zs := h.kept (Kept.of_below hb []) (.inr (by simp))
theorem OwnI.ownL {w : World} {g s : Nat} {zs : List Int} (h : OwnI w g s zs) : OwnL w 2 1 (some ⟨g, 0, none⟩) s s zs := ⟨by rw [h.len]; omega, .inr ⟨g, rfl, h⟩⟩
/-- the block that a list lies in, if it has any element -/
def rowN (n : Nat) (A : Option Addr) : Option Nat := if n = 0 then none else blk A
theorem rowN_zero (A : Option Addr) : rowN 0 A = none := rfl
theorem rowN_some {n g : Nat} (h : n ≠ 0) : rowN n (some ⟨g, 0, none⟩) = some g := by simp [rowN, h, blk]
theorem OwnL.row_lt {w : World} {e size : Nat} {A : Option Addr} {n c : Nat} {zs : List Int} (h : OwnL w e size A n c zs) {g : Nat} (hg : rowN n A = some g) : g < w.heap.size := by
  rcases h.2 with h0 | ⟨g', rfl, ho⟩
  · subst h0; cases hg
  · by_cases hn : n = 0
    · subst hn; cases hg
    · rw [rowN_some hn] at hg; cases hg; exact own_lt ho
/-- kept, as its block is none of those written -/
theorem OwnL.apart {w w' : World} {R : List (Option Nat)} {e size : Nat} {A : Option Addr} {n c : Nat} {zs : List Int} (h : OwnL w e size A n c zs) (hk : Kept w w' R) (hr : ∀ g, rowN n A = some g → ∀ r ∈ R, some g ≠ r) : OwnL w' e size A n c zs := by
  refine ⟨h.1, ?_⟩
  rcases h.2 with h0 | ⟨g, rfl, ho⟩
  · exact .inl h0
  · by_cases hn : n = 0
    · exact .inl hn
    · exact .inr ⟨g, rfl, own_keep ho (hk.block g (own_lt ho) fun r hm => hr g (rowN_some hn) r hm)⟩
/-- kept, as its block lies below -/
theorem OwnL.under {w w' : World} {lo : Nat} {e size : Nat} {A : Option Addr} {n c : Nat} {zs : List Int} (h : OwnL w e size A n c zs) (hb : Below lo w w') (hr : ∀ g, rowN n A = some g → g < lo) : OwnL w' e size A n c zs := by
  refine ⟨h.1, ?_⟩
  rcases h.2 with h0 | ⟨g, rfl, ho⟩
  · exact .inl h0
  · by_cases hn : n = 0
    · exact .inl hn
    · exact .inr ⟨g, rfl, own_keep ho (hb.block g (hr g (rowN_some hn)))⟩
end Go.Proofs.YtkbfhooiloaokaaGreatDoor.Num
/-
  A text cut at its commas: the reference's l01Cut.
-/
namespace Go.Proofs.YtkbfhooiloaokaaGreatDoor.Num
open Go.RowKit Go.Proofs.Fl Go.Proofs.Tx
set_option linter.unusedVariables false
set_option linter.unusedSimpArgs false
/-- a list of texts of the call's own -/
def RetT (ts : List (List UInt8)) (w : World) (e : Ending) (w' : World) : Prop := ∃ A c, e = .returned (.slice A ts.length c) ∧ OwnT w' w.heap.size (.slice A ts.length c) ts.length ts ∧ Below w.heap.size w w'
theorem piece_told (s : ByteArray) (f i : Nat) (hi : i ≤ s.size) : s.extract f i = ⟨((s.data.toList.take i).drop f).toArray⟩ := by
  rw [← Go.Lib.mk_data (s.extract f i), Go.Lib.extract_data, List.drop_take]
theorem len_snoc {α : Type} (l : List α) (x : α) : (l ++ [x]).length = l.length + 1 := by simp
end Go.Proofs.YtkbfhooiloaokaaGreatDoor.Num
/-
  DERIVED: THE SHELF's CONTRACTS AT THIS DUMP, IN PLAIN WORDS (tools/lay-plain.mjs out of 'TryzShelfOf.lean', which tools/lay-shelf.mjs wrote): THE SAME DECLARATIONS UNDER THE SAME NAMES: 'import', 'namespace', 'open', 'def', 'theorem' AND NOTHING ELSE: no command of the shelf's: FOR A HAND-IN. Each laying: the table of numbers ('.._ren') and one theorem, a field a fact of the dump's own or the kernel's comparison; each contract: ONE APPLICATION.
-/
namespace Go.Proofs
open Go.Shelf
def Tryz.lays146_ren : Go.Shelf.Ren := ⟨fun | 146 => 75 | 221 => 91 | 268 => 103 | 138 => 104 | 143 => 105 | 195 => 119 | 197 => 120 | 218 => 121 | 219 => 122 | 260 => 128 | 217 => 129 | 225 => 130 | 224 => 131 | 267 => 132 | 266 => 134 | 314 => 135 | n => n, fun | 9 => 9 | 31 => 69 | 3 => 3 | 4 => 4 | 0 => 0 | 105 => 145 | 21 => 21 | 5 => 5 | 46 => 102 | 119 => 158 | 139 => 161 | 138 => 160 | 146 => 122 | 51 => 79 | n => n, fun | 1 => 4 | 3 => 7 | 4 => 8 | n => n⟩
theorem Tryz.lays146 : Go.Proofs.Lays.n146 Tryz.prog Tryz.lays146_ren := {
  mixed := by kernel_rfl
  f138 := Tryz.func104.trans (congrArg some (by kernel_rfl))
  f143 := Tryz.func105.trans (congrArg some (by kernel_rfl))
  f146 := Tryz.func75.trans (congrArg some (by kernel_rfl))
  f195 := Tryz.func119.trans (congrArg some (by kernel_rfl))
  f197 := Tryz.func120.trans (congrArg some (by kernel_rfl))
  f217 := Tryz.func129.trans (congrArg some (by kernel_rfl))
  f218 := Tryz.func121.trans (congrArg some (by kernel_rfl))
  f219 := Tryz.func122.trans (congrArg some (by kernel_rfl))
  f221 := Tryz.func91.trans (congrArg some (by kernel_rfl))
  f224 := Tryz.func131.trans (congrArg some (by kernel_rfl))
  f225 := Tryz.func130.trans (congrArg some (by kernel_rfl))
  f260 := Tryz.func128.trans (congrArg some (by kernel_rfl))
  f266 := Tryz.func134.trans (congrArg some (by kernel_rfl))
  f267 := Tryz.func132.trans (congrArg some (by kernel_rfl))
  f268 := Tryz.func103.trans (congrArg some (by kernel_rfl))
  f314 := Tryz.func135.trans (congrArg some (by kernel_rfl))
  t0 := Tryz.underlying0
  a0 := Tryz.isAgg0
  z0 := Tryz.sizeOf0
  v0 := Tryz.zeroValue0
  t3 := Tryz.underlying3
  a3 := Tryz.isAgg3
  z3 := Tryz.sizeOf3
  v3 := Tryz.zeroValue3
  t4 := Tryz.underlying4
  a4 := Tryz.isAgg4
  z4 := Tryz.sizeOf4
  v4 := Tryz.zeroValue4
  t5 := Tryz.underlying5
  a5 := Tryz.isAgg5
  z5 := Tryz.sizeOf5
  v5 := Tryz.zeroValue5
  t9 := Tryz.underlying9
  a9 := Tryz.isAgg9
  z9 := Tryz.sizeOf9
  v9 := Tryz.zeroValue9
  t21 := Tryz.underlying21
  a21 := Tryz.isAgg21
  z21 := Tryz.sizeOf21
  v21 := Tryz.zeroValue21
  t31 := Tryz.underlying69
  a31 := Tryz.isAgg69
  z31 := Tryz.sizeOf69
  v31 := Tryz.zeroValue69
  t46 := Tryz.underlying102
  a46 := Tryz.isAgg102
  z46 := Tryz.sizeOf102
  v46 := Tryz.zeroValue102
  t51 := Tryz.underlying79
  a51 := Tryz.isAgg79
  z51 := Tryz.sizeOf79
  v51 := Tryz.zeroValue79
  t105 := Tryz.underlying145
  a105 := Tryz.isAgg145
  z105 := Tryz.sizeOf145
  v105 := Tryz.zeroValue145
  t119 := Tryz.underlying158
  a119 := Tryz.isAgg158
  z119 := Tryz.sizeOf158
  t138 := Tryz.underlying160
  a138 := Tryz.isAgg160
  z138 := Tryz.sizeOf160
  v138 := Tryz.zeroValue160
  t139 := Tryz.underlying161
  a139 := Tryz.isAgg161
  z139 := Tryz.sizeOf161
  v139 := Tryz.zeroValue161
  t146 := Tryz.underlying122
  a146 := Tryz.isAgg122
  z146 := Tryz.sizeOf122
  v146 := Tryz.zeroValue122
  g1 := by kernel_rfl
  g3 := by kernel_rfl
  g4 := by kernel_rfl }
open Go.RowKit Go.Lib in
/-- strings.Split. (LAID: no walk: one application.) -/
theorem Tryz.strings_Split (s sep : ByteArray) (m : Int) (w : World) (hs : s.size < 4294967281) (hm : w.cell? ⟨4, 0, none⟩ = some (.int .i64 m)) (h1 : 1 ≤ sep.size) :
    Calls Tryz.prog 75 #[.string s, .string sep] w fun e w' =>
      e = .returned (.slice (some ⟨w.heap.size, 0, none⟩) (Lib.countB s sep + 1) (Lib.countB s sep + 1)) ∧ w' = w.alloc (.cells ((Lib.splitB sep 0 (Lib.countB s sep) s).map Value.string).toArray 9) := Any.strings_Split Tryz.lays146 (by kernel_rfl) s sep m w hs hm h1
end Go.Proofs
/-
  The pieces of a text between commas (the program's pieces), by the library's contract.
-/
namespace Go.Proofs.YtkbfhooiloaokaaGreatDoor.Num
open Go.RowKit Go.Proofs.Fl Go.Proofs.Tx
set_option linter.unusedVariables false
set_option linter.unusedSimpArgs false
/-- the library's variable that the search reads holds some number, whatever is done from block B on -/
def MaxL (B : Nat) (w : World) : Prop := ∃ m, ∀ w', Below B w w' → w'.cell? ⟨4, 0, none⟩ = some (.int .i64 m)
theorem MaxL.on {B : Nat} {w w1 : World} (h : MaxL B w) (hb : Below B w w1) : MaxL B w1 := h.imp fun m h w' h' => h w' (hb.trans h')
theorem MaxL.of {w : World} (h : ∃ m, w.cell? ⟨4, 0, none⟩ = some (.int .i64 m)) : MaxL w.heap.size w := h.imp fun m h w' hb => by
  have hlt : 4 < w.heap.size := World.block_lt_of_cell? w _ h
  exact (hb.cell (p := ⟨4, 0, none⟩) hlt).trans h
theorem own_many {w : World} {e : Nat} (xs : List Value) (n : Nat) (hn : xs.length = n) (hm : n ≤ maxLen) : (w.alloc (.cells xs.toArray e)).ownsRow w.heap.size e 1 (.slice (some ⟨w.heap.size, 0, none⟩) n n) n xs := by
  subst hn
  exact ⟨by simp, .inr ⟨w.heap.size, xs.length, xs.toArray, rfl, Nat.le_refl _, heap_alloc_new w _, Nat.le_refl _, hm, by simp, by simp⟩⟩
def ps (l : List UInt8) : List (List UInt8) := if l = none4 then [] else cut l
theorem ps_len (l : List UInt8) : (ps l).length ≤ l.length + 1 := by
  unfold ps
  split
  · simp
  · exact cut_len l
theorem strs_data (xs : List ByteArray) : xs.map Value.string = strs (xs.map (·.data.toList)) := by
  unfold strs
  rw [List.map_map]
  refine List.map_congr_left fun x _ => ?_
  simp
theorem split_told (s : ByteArray) : (Lib.splitB ⟨#[44]⟩ 0 (Lib.countB s ⟨#[44]⟩) s).map (·.data.toList) = cut s.data.toList := by
  rw [Lib.splitB_data]
  exact split_cut s.data.toList
theorem split_len (s : ByteArray) : Lib.countB s ⟨#[44]⟩ + 1 = (cut s.data.toList).length := by
  rw [← split_told s, List.length_map, Lib.splitB_all ⟨#[44]⟩ (by decide) 0 _ s rfl]
theorem none_eq (s : ByteArray) (h : s.data.toList = none4) : s = ⟨#[110, 111, 110, 101]⟩ := by
  rw [← Lib.mk_data s, h]
  rfl
theorem none_ne (s : ByteArray) (h : s.data.toList ≠ none4) : s ≠ ⟨#[110, 111, 110, 101]⟩ := by
  rintro rfl
  exact h rfl
theorem pieces_calls (s : ByteArray) (hs : s.size ≤ 1048576) (w : World) {B : Nat} (hM : MaxL B w) :
    Calls Tryz.prog 49 #[.string s] w (RetT (ps s.data.toList) w) := by
  by_cases hn : s.data.toList = none4
  · have HP := hid (show ps s.data.toList = [] by unfold ps; rw [if_pos hn])
    obtain rfl := none_eq s hn
    clear hn hM
    go_enter Tryz.func49, Tryz.ntmps49
    go_wp2
    go_ret
    exact ⟨none, 0, by rw [HP.out]; rfl, by rw [HP.out]; exact World.ownsRow_nil _ _ _ _, Below.refl _ _⟩
  · have HP := hid (show ps s.data.toList = cut s.data.toList by unfold ps; rw [if_neg hn])
    have hne : (s.toList == [110, 111, 110, 101]) = false := by rw [ByteArray.toList_eq]; simpa [none4] using hn
    obtain ⟨m, hm⟩ := hM
    have HS := hid (Tryz.strings_Split s ⟨#[44]⟩ m w (by omega) (hm w (Below.refl _ _)) (by decide))
    clear hm hn
    go_enter Tryz.func49, Tryz.ntmps49
    go_wp2_with (go_at_call 75; refine HS.out.mono ?_; rintro e w1 ⟨rfl, rfl⟩)
    go_ret
    refine ⟨some ⟨w.heap.size, 0, none⟩, Lib.countB s ⟨#[44]⟩ + 1, by rw [HP.out, ← split_len]; rfl, ?_, (Below.refl _ _).alloc (Nat.le_refl _) _⟩
    rw [HP.out, ← split_len]
    have hl := split_len s
    have hcl := cut_len s.data.toList
    have hsz : s.data.toList.length = s.size := by simp
    unfold OwnT
    rw [← split_told, ← strs_data]
    exact own_many _ _ (by rw [List.length_map, Lib.splitB_all ⟨#[44]⟩ (by decide) 0 _ s rfl]) (by unfold maxLen; omega)
end Go.Proofs.YtkbfhooiloaokaaGreatDoor.Num
/-
  The list with a text, by both texts (l01Numbers, readList, ReadList).
-/
namespace Go.Proofs.YtkbfhooiloaokaaGreatDoor.Num
open Go.RowKit Go.Proofs.Fl Go.Proofs.Tx Go.Proofs.Dc
set_option linter.unusedVariables false
set_option linter.unusedSimpArgs false
theorem i64_info : (Tryz.prog.info? 2).map (fun i => (i.zero, i.size, i.bytes)) = some (some (Value.int .i64 0), 1, 8) := by kernel_rfl
theorem own_succ0 {w : World} {B e k c : Nat} {A : Option Addr} {xs : List Value} (h : w.ownsRow B e 1 (.slice A k c) k xs) (hk : k ≠ 0) : ∃ g, A = some ⟨g, 0, none⟩ := by
  obtain ⟨k', rfl⟩ : ∃ k', k = k' + 1 := ⟨k - 1, by omega⟩
  obtain ⟨g, cap, he, _⟩ := own_succ1 h
  simp only [Value.slice.injEq] at he
  exact ⟨g, he.1⟩
theorem own_base {w : World} {base e size g n c : Nat} {xs : List Value} (h : w.ownsRow base e size (.slice (some ⟨g, 0, none⟩) n c) n xs) : base ≤ g := by
  rcases h.2 with ⟨hv, hn⟩ | ⟨g', cap, cur, hv, hb, _⟩
  · cases hv
  · simp only [Value.slice.injEq, Option.some.injEq, Addr.mk.injEq, and_true, true_and] at hv
    omega
theorem ownL_any {w : World} {B k c : Nat} {A : Option Addr} {zs : List Int} (h : w.ownsRow B 2 1 (.slice A k c) k (i64s zs)) : OwnL w 2 1 A k c zs ∧ ∀ g, rowN k A = some g → B ≤ g := by
  have hl : zs.length = k * 1 := by have := h.1; rw [i64s_length] at this; omega
  by_cases hk : k = 0
  · subst hk
    exact ⟨⟨hl, .inl rfl⟩, fun g hg => by cases hg⟩
  · obtain ⟨g, rfl⟩ := own_succ0 h hk
    refine ⟨⟨hl, .inr ⟨g, rfl, own_rebase h⟩⟩, fun g' hg => ?_⟩
    rw [rowN_some hk] at hg
    cases hg
    exact own_base h
/-- a list of whole numbers of the call's own, and whether there is one -/
def RetList (o : Option (List Int)) (w : World) (e : Ending) (w' : World) : Prop := ∃ A c, e = .returned (.tuple #[.slice A (o.getD []).length c, .bool o.isSome]) ∧ OwnL w' 2 1 A (o.getD []).length c (o.getD []) ∧ (∀ g, rowN (o.getD []).length A = some g → w.heap.size ≤ g) ∧ Below w.heap.size w w'
theorem RetList.none {w w' : World} (h : Below w.heap.size w w') : RetList none w (.returned (.tuple #[.slice none 0 0, .bool false])) w' := ⟨Option.none, 0, rfl, ⟨rfl, .inl rfl⟩, fun g hg => (by cases hg), h⟩
theorem RetList.some {w w' : World} {A : Option Addr} {k c : Nat} {zs : List Int} (h : w'.ownsRow w.heap.size 2 1 (.slice A k c) k (i64s zs)) (hb : Below w.heap.size w w') : RetList (some zs) w (.returned (.tuple #[.slice A k c, .bool true])) w' := by
  have hl : zs.length = k := by have := h.1; rw [i64s_length] at this; omega
  subst hl
  exact ⟨A, c, rfl, (ownL_any h).1, (ownL_any h).2, hb⟩
/-- the list with a text, of 64 numbers at most -/
def readL (l : List UInt8) : Option (List Int) := if l = none4 then some [] else if (cut l).length ≤ 64 ∧ okAll rdDec (cut l) = true then some (vals rdDec 0 (cut l)) else none
/-- the cell of a list of texts -/
theorem OwnT.cell {w : World} {B k c : Nat} {A : Option Addr} {ts : List (List UInt8)} (h : OwnT w B (.slice A k c) k ts) {j : Nat} (hj : j < k) : ∃ g, A = some ⟨g, 0, none⟩ ∧ g < w.heap.size ∧ B ≤ g ∧ w.cell? ⟨g, j, none⟩ = some (.string ⟨(ts[j]'(by rw [h.len]; exact hj)).toArray⟩) := by
  obtain ⟨g, rfl⟩ := own_succ0 h (by omega)
  refine ⟨g, rfl, (World.ownsRow.lt h g rfl).2, own_base h, ?_⟩
  have hl := h.len
  rw [World.ownsRow.cellAt h j (by omega)]
  unfold strs
  rw [List.getElem?_map, List.getElem?_eq_getElem (by omega)]
  rfl
/-- two lists that lie in two blocks -/
def Apart (A B : Option Addr) : Prop := ∀ x y, A = some ⟨x, 0, none⟩ → B = some ⟨y, 0, none⟩ → x ≠ y
theorem own_shape {w : World} {B e k c : Nat} {A : Option Addr} {xs : List Value} (h : w.ownsRow B e 1 (.slice A k c) k xs) : A = none ∨ ∃ g, A = some ⟨g, 0, none⟩ := by
  rcases h.2 with ⟨hv, _⟩ | ⟨g, cap, cur, hv, _⟩
  · simp only [Value.slice.injEq] at hv
    exact .inl hv.1
  · simp only [Value.slice.injEq] at hv
    exact .inr ⟨g, hv.1⟩
theorem own_block (g k c : Nat) : (Value.slice (some ⟨g, 0, none⟩) k c).ownBlock = some g := rfl
theorem own_block0 (k c : Nat) : (Value.slice none k c).ownBlock = none := rfl
theorem keep_texts {w2 w5 : World} {o : Obj} {A2 A3 : Option Addr} {N c2 k c3 B B3 e : Nat} {P : List (List UInt8)} {xs : List Value} (hP : OwnT w2 B (.slice A2 N c2) N P) (hO : w2.ownsRow B3 e 1 (.slice A3 k c3) k xs) (hg : (w2.alloc o).grownBy w5 (Value.slice A3 k c3).ownBlock) (hap : Apart A3 A2) : OwnT w5 B (.slice A2 N c2) N P := by
  refine World.ownsRow.kept (hP.alloc o) hg ?_
  rcases own_shape hP with rfl | ⟨y, rfl⟩
  · exact .inl rfl
  · right
    rw [own_block]
    rcases own_shape hO with rfl | ⟨x, rfl⟩
    · rw [own_block0]; simp
    · rw [own_block]
      have := hap x y rfl rfl
      simp only [ne_eq, Option.some.injEq]
      omega
theorem apart_new {w2 : World} {o : Obj} {A2 A3 : Option Addr} {N c2 k c3 B B3 e g2 : Nat} {P : List (List UInt8)} {xs : List Value} (hP : OwnT w2 B (.slice A2 N c2) N P) (hO : w2.ownsRow B3 e 1 (.slice A3 k c3) k xs) (hap : Apart A3 A2) (hat : (Value.slice A3 k c3).ownBlock = some g2 ∨ g2 = (w2.alloc o).heap.size) : Apart (some ⟨g2, 0, none⟩) A2 := by
  intro x y hx hy
  simp only [Option.some.injEq, Addr.mk.injEq, and_true] at hx
  subst hx
  subst hy
  have hlt := (World.ownsRow.lt hP y rfl).2
  rcases hat with hat | rfl
  · rcases own_shape hO with rfl | ⟨z, rfl⟩
    · rw [own_block0] at hat; cases hat
    · rw [own_block] at hat
      cases hat
      exact hap _ y rfl rfl
  · simp; omega
theorem i64_new (w : World) (x : Value) : ∀ j u, [x][j]? = some u → (w.alloc (.cells #[x] 2)).cell? ((⟨w.heap.size, 0, none⟩ : Addr).add j) = some u := fun j u hu =>
  World.ownsRow.cells (own_one (w := w) (base := w.heap.size) (e := 2) x (Nat.le_refl _)) (g := w.heap.size) rfl j u hu
theorem i64s_snoc (zs : List Int) (z : Int) : i64s zs ++ [.int .i64 z] = i64s (zs ++ [z]) := by simp [i64s]
theorem i64s_oneCell' (zs : List Int) : ∀ u ∈ i64s zs, u.oneCell' = true := by
  intro u hu
  obtain ⟨b, _, rfl⟩ := List.mem_map.1 hu
  rfl
theorem mk_size (l : List UInt8) : (⟨l.toArray⟩ : ByteArray).size = l.length := by
  show (l.toArray).size = l.length
  simp
theorem mk_list (l : List UInt8) : (⟨l.toArray⟩ : ByteArray).data.toList = l := by simp
theorem cut_piece (l : List UInt8) : ∀ p ∈ cut l, p.length ≤ l.length := by
  induction l with
  | nil => intro p hp; simp [cut] at hp; subst hp; exact Nat.le_refl _
  | cons b l ih =>
    intro p hp
    unfold cut at hp
    split at hp
    · rcases List.mem_cons.1 hp with rfl | hp
      · simp
      · have := ih p hp; simp; omega
    · cases hc : cut l with
      | nil => exact absurd hc (cut_ne l)
      | cons x r =>
        rw [hc] at hp ih
        simp only [glue, List.mem_cons] at hp
        rcases hp with rfl | hp
        · have := ih x (by simp); simp; omega
        · have := ih p (by simp [hp]); simp; omega
end Go.Proofs.YtkbfhooiloaokaaGreatDoor.Num
/-
  Lists of values of one cell that a call owns; what a reading hands back.
-/
namespace Go.Proofs.YtkbfhooiloaokaaGreatDoor.Num
open Go.RowKit Go.Proofs.Fl Go.Proofs.Tx
set_option linter.unusedVariables false
set_option linter.unusedSimpArgs false
def OwnV (w : World) (e : Nat) (A : Option Addr) (n c : Nat) (xs : List Value) : Prop := xs.length = n ∧ (n = 0 ∨ ∃ g, A = some ⟨g, 0, none⟩ ∧ w.ownsRow g e 1 (.slice A n c) n xs)
theorem OwnV.rd {w : World} {e : Nat} {A : Option Addr} {n c : Nat} {xs : List Value} (h : OwnV w e A n c xs) : Rd w w.heap.size A xs := by
  rcases h.2 with h0 | ⟨g, rfl, ho⟩
  · left; exact List.length_eq_zero_iff.1 (by rw [h.1, h0])
  · refine .inr ⟨g, 0, rfl, own_lt ho, fun j u hu => ?_⟩
    have hj : j < xs.length := (List.getElem?_eq_some_iff.1 hu).1
    rw [Nat.zero_add, World.ownsRow.cellAt ho j (by rw [Nat.mul_one, ← h.1]; exact hj)]
    exact hu
theorem OwnV.step {w w' : World} {e : Nat} {A : Option Addr} {n c : Nat} {xs : List Value} (h : OwnV w e A n c xs) (hb : Below w.heap.size w w') : OwnV w' e A n c xs := by
  refine ⟨h.1, ?_⟩
  rcases h.2 with h0 | ⟨g, rfl, ho⟩
  · exact .inl h0
  · exact .inr ⟨g, rfl, own_keep ho (hb.block g (own_lt ho))⟩
theorem OwnV.row_lt {w : World} {e : Nat} {A : Option Addr} {n c : Nat} {xs : List Value} (h : OwnV w e A n c xs) {g : Nat} (hg : rowN n A = some g) : g < w.heap.size := by
  rcases h.2 with h0 | ⟨g', rfl, ho⟩
  · subst h0; cases hg
  · by_cases hn : n = 0
    · subst hn; cases hg
    · rw [rowN_some hn] at hg; cases hg; exact own_lt ho
theorem ownV_any {w : World} {B e k c : Nat} {A : Option Addr} {xs : List Value} (h : w.ownsRow B e 1 (.slice A k c) k xs) : OwnV w e A k c xs ∧ ∀ g, rowN k A = some g → B ≤ g := by
  have hl : xs.length = k := by have := h.1; omega
  by_cases hk : k = 0
  · subst hk
    exact ⟨⟨hl, .inl rfl⟩, fun g hg => by cases hg⟩
  · obtain ⟨g, rfl⟩ := own_succ0 h hk
    refine ⟨⟨hl, .inr ⟨g, rfl, own_rebase h⟩⟩, fun g' hg => ?_⟩
    rw [rowN_some hk] at hg
    cases hg
    exact own_base h
/-- a list of the call's own, and whether there is one -/
def RetV (e0 : Nat) (xs : List Value) (b : Bool) (w : World) (e : Ending) (w' : World) : Prop := ∃ A c, e = .returned (.tuple #[.slice A xs.length c, .bool b]) ∧ OwnV w' e0 A xs.length c xs ∧ (∀ g, rowN xs.length A = some g → w.heap.size ≤ g) ∧ Below w.heap.size w w'
theorem RetV.none {e0 : Nat} {w w' : World} (h : Below w.heap.size w w') : RetV e0 [] false w (.returned (.tuple #[.slice none 0 0, .bool false])) w' := ⟨Option.none, 0, rfl, ⟨rfl, .inl rfl⟩, fun g hg => (by cases hg), h⟩
theorem RetV.some {e0 : Nat} {w w' : World} {A : Option Addr} {k c : Nat} {xs : List Value} (h : w'.ownsRow w.heap.size e0 1 (.slice A k c) k xs) (hb : Below w.heap.size w w') : RetV e0 xs true w (.returned (.tuple #[.slice A k c, .bool true])) w' := by
  have hl : xs.length = k := by have := h.1; omega
  subst hl
  exact ⟨A, c, rfl, (ownV_any h).1, (ownV_any h).2, hb⟩
theorem any_new (e : Nat) (w : World) (x : Value) : ∀ j u, [x][j]? = some u → (w.alloc (.cells #[x] e)).cell? ((⟨w.heap.size, 0, none⟩ : Addr).add j) = some u := fun j u hu =>
  World.ownsRow.cells (own_one (w := w) (base := w.heap.size) (e := e) x (Nat.le_refl _)) (g := w.heap.size) rfl j u hu
theorem f32s_snoc (xs : List Nat) (z : Nat) : f32s xs ++ [.float .f32 z] = f32s (xs ++ [z]) := by simp [f32s]
theorem f32s_oneCell (xs : List Nat) : ∀ u ∈ f32s xs, u.oneCell' = true := by
  intro u hu
  obtain ⟨b, _, rfl⟩ := List.mem_map.1 hu
  rfl
theorem f32_info : (Tryz.prog.info? 28).map (fun i => (i.zero, i.size, i.bytes)) = some (some (Value.float .f32 0), 1, 4) := by kernel_rfl
end Go.Proofs.YtkbfhooiloaokaaGreatDoor.Num
/-
  The list of float32 with a text, as a plain function: what both texts read.
-/
namespace Go.Proofs.YtkbfhooiloaokaaGreatDoor.Num
open Go.RowKit Go.Proofs.Fl Go.Proofs.Hx Go.Proofs.Tx
set_option linter.unusedVariables false
set_option linter.unusedSimpArgs false
/-- the number with 8 digits, if they are those of its bits -/
def rdNum (p : List UInt8) : Option Nat := if p.length = 8 then (rdL p).filter fun n => decide (cn .f32 n = n) else none
/-- the list with a text -/
def readN (l : List UInt8) : Option (List Nat) := if l = none4 then some [] else if (cut l).length ≤ 256 ∧ okAll rdNum (cut l) = true then some (vals rdNum 0 (cut l)) else none
theorem readN_none {l : List UInt8} (h : l = none4) : readN l = some [] := by unfold readN; rw [if_pos h]
theorem readN_long {l : List UInt8} (h : l ≠ none4) (h64 : ¬ (cut l).length ≤ 256) : readN l = none := by unfold readN; rw [if_neg h, if_neg (fun e => h64 e.1)]
theorem readN_bad {l : List UInt8} (h : l ≠ none4) (hb : okAll rdNum (cut l) = false) : readN l = none := by unfold readN; rw [if_neg h, if_neg (fun e => by rw [hb] at e; cases e.2)]
theorem readN_yes {l : List UInt8} (h : l ≠ none4) (h64 : (cut l).length ≤ 256) (hb : okAll rdNum (cut l) = true) : readN l = some (vals rdNum 0 (cut l)) := by unfold readN; rw [if_neg h, if_pos ⟨h64, hb⟩]
theorem rdNum_len {p : List UInt8} (h : p.length ≠ 8) : rdNum p = none := by unfold rdNum; rw [if_neg h]
theorem rdNum_bad {p : List UInt8} (h : rdL p = none) : rdNum p = none := by unfold rdNum; split <;> simp [h, Option.filter]
theorem rdNum_ne {p : List UInt8} {n : Nat} (h : rdL p = some n) (hc : cn .f32 n ≠ n) : rdNum p = none := by unfold rdNum; split <;> simp [h, Option.filter, hc]
theorem rdNum_eq {p : List UInt8} {n : Nat} (h8 : p.length = 8) (h : rdL p = some n) (hc : cn .f32 n = n) : rdNum p = some n := by unfold rdNum; rw [if_pos h8, h]; simp [Option.filter, hc]
theorem rdNum_some {p : List UInt8} {n : Nat} (h : rdNum p = some n) : p.length = 8 ∧ rdL p = some n ∧ cn .f32 n = n ∧ n < 4294967296 := by
  unfold rdNum at h
  split at h
  · rename_i h8
    obtain ⟨h1, h2⟩ := Option.filter_eq_some_iff.1 h
    exact ⟨h8, h1, of_decide_eq_true h2, rdL_lt h8 h1⟩
  · cases h
theorem cn_cn (x : Nat) : cn .f32 (cn .f32 x) = cn .f32 x := by
  unfold cn
  by_cases h : nan .f32 x = true
  · rw [if_pos h, nan_qn]; rfl
  · rw [if_neg h, if_neg h]
theorem rdNum_hexT (x : Nat) (hx : x < 4294967296) : rdNum (hexT x) = some (cn .f32 x) := rdNum_eq (hexT_len x) (rdL_hex8 _ (cn_lt hx)) (cn_cn x)
/-- a piece that is read is the text of its number -/
theorem hexT_rdNum {p : List UInt8} {n : Nat} (h : rdNum p = some n) : hexT n = p := by
  obtain ⟨h8, h1, hc, _⟩ := rdNum_some h
  unfold hexT
  rw [hc]
  exact rdL_eq h8 h1
end Go.Proofs.YtkbfhooiloaokaaGreatDoor.Num
/-
  Whether a float32 is subnormal, by the program: the absolute value of the number, made a float64, against the least normal number.
-/
namespace Go.Proofs.YtkbfhooiloaokaaGreatDoor.Num
open Go.RowKit Go.Proofs.Fl
set_option linter.unusedVariables false

theorem Abs_calls (x : Nat) (w : World) : Calls Tryz.prog 65 #[.float .f64 x] w (Ret (.float .f64 (rg Ieee.double x)) w) := by
  have e := and_mask63 x
  go_enter Tryz.func65, Tryz.ntmps65
  go_wp2
  go_ret
  exact ⟨ret_float (by unfold rg; rw [sw64]), 0, rfl⟩

theorem IsSubnormal_calls (x : Nat) (w : World) : Calls Tryz.prog 33 #[.float .f32 x] w (Ret (.bool (subB x)) w) := by
  have en := neq_zero32 x
  by_cases h : nan .f32 x = true ∨ rg Ieee.single x ≠ 0
  · rw [show (nan .f32 x || decide (rg Ieee.single x ≠ 0)) = true by simpa using h] at en
    have H := hid h
    clear h
    go_enter Tryz.func33, Tryz.ntmps33
    go_wp2_with (first | (refine wpList_wide rfl rfl (by kernel_rfl) Tryz.underlying46 ?_; intro v n hv) | (go_at_call 65; refine (Abs_calls _ _).mono ?_; rintro e w' ⟨rfl, n, rfl⟩))
    go_ret
    exact ⟨ret_bool (low_told H.out ‹_›), _, rfl⟩
  · rw [show (nan .f32 x || decide (rg Ieee.single x ≠ 0)) = false by simpa using h] at en
    have H := hid h
    clear h
    go_enter Tryz.func33, Tryz.ntmps33
    go_wp2
    go_ret
    exact ⟨ret_bool (subB_zero H.out).symm, 0, rfl⟩
end Go.Proofs.YtkbfhooiloaokaaGreatDoor.Num
/-
  The library's hexadecimal numeral (FormatInt at base 16), walked: there is no contract at that base.
-/
namespace Go.Proofs.YtkbfhooiloaokaaGreatDoor.Num
open Go.RowKit Go.Proofs.Fl Go.Proofs.Hx
open Go.Lib (byteCells byteCells_length byteCells_append)
set_option linter.unusedVariables false
set_option linter.unusedSimpArgs false
/-- the one place of the library's table that is read at base 16, whatever is done from block B on -/
def Deb (B : Nat) (w : World) : Prop := ∀ w', Below B w w' → w'.cell? ⟨6, 15, none⟩ = some (.int .u8 4)
theorem Deb.on {B : Nat} {w w1 : World} (h : Deb B w) (hb : Below B w w1) : Deb B w1 := fun w' h' => h w' (hb.trans h')
theorem Deb.of {w : World} (h : w.cell? ⟨6, 15, none⟩ = some (.int .u8 4)) : Deb w.heap.size w := fun w' hb =>
  (hb.cell (p := ⟨6, 15, none⟩) (World.block_lt_of_cell? w _ h)).trans h
theorem TrailingZeros64_16 (w : World) (h : w.cell? ⟨6, 15, none⟩ = some (.int .u8 4)) : Calls Tryz.prog 127 #[.int .u64 16] w (Ret (.int .i64 4) w) := by
  have he : IntKind.u64.wrap (bits BinOp.and IntKind.u64 16 (IntKind.u64.wrap (-16)) * 285870213051353865) / 288230376151711744 = 15 := by decide +kernel
  go_enter Tryz.func127, Tryz.ntmps127
  go_wp2
  go_ret
  exact ⟨rfl, 0, rfl⟩
theorem TrailingZeros_16 (w : World) (h : w.cell? ⟨6, 15, none⟩ = some (.int .u8 4)) : Calls Tryz.prog 116 #[.int .u64 16] w (Ret (.int .i64 4) w) := by
  have HC := hid (TrailingZeros64_16 w h)
  go_enter Tryz.func116, Tryz.ntmps116
  go_wp2_with (go_at_call 127; refine HC.out.mono ?_; rintro e w1 ⟨rfl, n, rfl⟩)
  go_ret
  exact ⟨rfl, n, rfl⟩
theorem isPow_16 (w : World) : Calls Tryz.prog 115 #[.int .i64 16] w (Ret (.bool true) w) := by
  have he : bits BinOp.and IntKind.i64 16 15 = 0 := by decide +kernel
  go_enter Tryz.func115, Tryz.ntmps115
  go_wp2
  go_ret
  exact ⟨rfl, 0, rfl⟩
/-- what the digits in the array tell: l is written, u is left -/
def HexInv (n u : Nat) (l : List UInt8) : Prop := hexDigits n = hexDigits u ++ l
/-- the array of 65 bytes, the last of them written -/
def arr65 (i : Nat) (l : List UInt8) : List Value := List.replicate i (.int .u8 0) ++ byteCells l
theorem arr65_length (i : Nat) (l : List UInt8) : (arr65 i l).length = i + l.length := by simp [arr65, byteCells_length]
theorem arr65_set (i : Nat) (l : List UInt8) (x : UInt8) : (arr65 (i + 1) l).set i (.int .u8 (x.toNat : Int)) = arr65 i (x :: l) := by
  unfold arr65
  rw [List.replicate_succ', List.append_assoc, List.set_append_right _ _ (by simp)]
  simp [byteCells]
def digs : ByteArray := ⟨#[48, 49, 50, 51, 52, 53, 54, 55, 56, 57, 97, 98, 99, 100, 101, 102, 103, 104, 105, 106, 107, 108, 109, 110, 111, 112, 113, 114, 115, 116, 117, 118, 119, 120, 121, 122]⟩
theorem digs_at : ∀ k : Fin 16, digs.data.toList[k.val]? = some (hexd k.val) := by decide +kernel
theorem u64_and15 (u : Nat) (hu : u < 4294967296) : bits .and .u64 (u : Int) 15 = ((u % 16 : Nat) : Int) := by
  have := u64_and_nat u 15 (by omega) (by omega)
  rw [show ((15 : Nat) : Int) = 15 from rfl] at this
  rw [this, show (15 : Nat) = 2 ^ 4 - 1 from rfl, Nat.and_two_pow_sub_one_eq_mod]
theorem HexInv.start (n : Nat) : HexInv n n [] := by unfold HexInv; simp
theorem HexInv.round {n u : Nat} {l : List UInt8} (h : HexInv n u l) (h16 : ¬ u < 16) : HexInv n (u / 16) (hexd (u % 16) :: l) := by
  unfold HexInv at *
  rw [h, show hexDigits u = hexDigits (u / 16) ++ [hexd (u % 16)] by rw [hexDigits, dif_neg h16], List.append_assoc]
  rfl
theorem HexInv.done {n u : Nat} {l : List UInt8} (h : HexInv n u l) (h16 : u < 16) : hexDigits n = hexd u :: l := by
  unfold HexInv at *
  rw [h, show hexDigits u = [hexd u] by rw [hexDigits, dif_pos h16]]
  rfl
theorem HexInv.len {n u : Nat} {l : List UInt8} (h : HexInv n u l) (hn : (hexDigits n).length ≤ 8) : l.length ≤ 7 := by
  have e := congrArg List.length h
  have := hexDigits_pos u
  simp only [List.length_append] at e
  omega
theorem slice_arr (g k : Nat) (hk : k < 65) (W : World) : (Instr.sliceAt 138 (.pointer (some ⟨g, 0, none⟩)) (some (.int .i64 (k : Int))) none none).run Tryz.prog W = .ok (.slice (some ⟨g, k, none⟩) (65 - k) (65 - k)) W := by
  have hal : Tryz.prog.arrayLen 138 = 65 := by kernel_rfl
  rw [run_sliceAt_array_l W 138 ⟨g, 0, none⟩ (by kernel_rfl) .i64 (k : Int) (by omega) (by rw [hal]; omega)]
  rw [hal]
  go_simp
  omega
theorem conv_arr {w : World} {g k n : Nat} {e : Nat} {l : List UInt8} (h : w.ownsRow g e 1 (.slice (some ⟨g, 0, none⟩) 65 65) 65 (arr65 k l)) (hl : l.length = n) : (convert 22 9 (.slice (some ⟨g, k, none⟩) n n)).run Tryz.prog w = .ok (.string ⟨l.toArray⟩) w := by
  subst hl
  refine run_convert_bytes_back w _ _ 5 _ _ l Tryz.underlying22 Tryz.underlying5 Tryz.underlying9 fun j hj => ?_
  have hk : k + l.length = 65 := by have := h.1; rw [arr65_length] at this; omega
  rw [show ((⟨g, k, none⟩ : Addr).add j) = ⟨g, k + j, none⟩ by unfold Addr.add; split <;> simp_all]
  rw [World.ownsRow.cellAt h (k + j) (by omega)]
  unfold arr65
  rw [List.getElem?_append_right (by simp)]
  simp [byteCells, List.getElem?_map, List.getElem?_eq_getElem hj]
set_option maxRecDepth 100000 in
set_option maxHeartbeats 1600000 in
theorem formatBits_calls (n : Nat) (hn : n < 4294967296) (w : World) {B : Nat} (hB : B ≤ w.heap.size) (hD : Deb B w) :
    Calls Tryz.prog 97 #[.slice none 0 0, .int .u64 n, .int .i64 16, .bool false, .bool false] w fun e w' => e = .returned (.tuple #[.slice none 0 0, .string ⟨(hexDigits n).toArray⟩]) ∧ Below w.heap.size w w' := by
  have HT := hid (fun w' (h : Below w.heap.size w w') => TrailingZeros_16 w' (hD w' (h.mono hB)))
  have hlen := (hex_pad 7 n (by simpa using hn)).1
  clear hD hB
  go_enter Tryz.func97, Tryz.ntmps97
  obtain ⟨SM, hSM⟩ : ∃ SM, SM = digs := ⟨_, rfl⟩
  rw [show (⟨#[48, 49, 50, 51, 52, 53, 54, 55, 56, 57, 97, 98, 99, 100, 101, 102, 103, 104, 105, 106, 107, 108, 109, 110, 111, 112, 113, 114, 115, 116, 117, 118, 119, 120, 121, 122]⟩ : ByteArray) = SM from hSM.symm]
  have HSM := hid hSM
  clear hSM
  have HO0 := hid (show (w.alloc (.cells Tryz.zeroCells138 138)).ownsRow w.heap.size 138 1 (.slice (some ⟨w.heap.size, 0, none⟩) 65 65) 65 (arr65 65 []) from
    ⟨by simp [arr65, byteCells], .inr ⟨w.heap.size, 65, Tryz.zeroCells138, rfl, Nat.le_refl _, heap_alloc_new w _, Nat.le_refl _, by decide, by kernel_rfl, by kernel_rfl⟩⟩)
  have HB0 := hid (show Below w.heap.size w (w.alloc (.cells Tryz.zeroCells138 138)) from (Below.refl _ _).alloc (Nat.le_refl _) _)
  go_wp2_with (first | (go_at_call 115; refine (isPow_16 _).mono ?_; rintro e w1 ⟨rfl, n1, rfl⟩) | (go_at_call 116; refine (HT.out _ (below_drewN HB0.out _)).mono ?_; rintro e w2 ⟨rfl, n2, rfl⟩))
  go_loopw [1, 13] (fun q i wr => ∃ (u k : Nat) (l : List UInt8), q = .int .u64 u ∧ i = .int .i64 k ∧ k + l.length = 65 ∧ l.length ≤ 7 ∧ u < 4294967296 ∧ Hid (HexInv n u l) ∧ Hid (wr.ownsRow w.heap.size 138 1 (.slice (some ⟨w.heap.size, 0, none⟩) 65 65) 65 (arr65 k l)) ∧ Hid (Below w.heap.size w wr)) (fun _ i _ => (intOf i).toNat)
  case atStart => exact ⟨n, 65, [], rfl, rfl, rfl, by decide, hn, HexInv.start n, HO0.out, below_drewN HB0.out _⟩
  case round =>
    obtain ⟨u, k, l, rfl, rfl, hk, hl, hu, hinv, hown, hbel⟩ := hrel
    by_cases h16 : u < 16
    · obtain ⟨k, rfl⟩ : ∃ k', k = k' + 1 := ⟨k - 1, by omega⟩
      have HN := hid (hinv.out.done h16)
      have hix := idx_dig (P := Tryz.prog) SM (by rw [HSM.out]; intro k hk; exact digs_at ⟨k, hk⟩) (by rw [HSM.out]; decide) 9 Tryz.underlying9 .u64 _ _ rfl h16
      have hold : ∃ v, wr.cell? ⟨w.heap.size, k, none⟩ = some v := by
        rw [World.ownsRow.cellAt hown.out k (by omega)]
        exact ⟨_, List.getElem?_eq_getElem (by rw [arr65_length]; omega)⟩
      obtain ⟨v, hold⟩ := hold
      have hfr := World.ownsRow.frozenAt hown.out k
      have hso := (World.ownsRow.stored hown.out k (.int .u8 ((hexd u).toNat : Int))).1
      rw [arr65_set] at hso
      have hsl := slice_arr w.heap.size k (by omega)
      have hcv := conv_arr (n := 65 - k) hso (by simp only [List.length_cons]; omega)
      have HSB := hid (hbel.out.setCell (p := ⟨w.heap.size, k, none⟩) (Nat.le_refl _) (.int .u8 ((hexd u).toNat : Int)))
      clear hso hinv hown hbel
      generalize hexd u = x0 at *
      go_wp2_with fail
      go_ret2
      exact ⟨by rw [HN.out]; rfl, HSB.out⟩
    · obtain ⟨k, rfl⟩ : ∃ k', k = k' + 1 := ⟨k - 1, by omega⟩
      have hr := hinv.out.round h16
      have hl2 := hr.len hlen
      simp only [List.length_cons] at hl2
      have HN := hid hr
      have hd16 : u % 16 < 16 := Nat.mod_lt _ (by decide)
      have hix := idx_dig (P := Tryz.prog) SM (by rw [HSM.out]; intro k hk; exact digs_at ⟨k, hk⟩) (by rw [HSM.out]; decide) 9 Tryz.underlying9 .u64 _ _ rfl hd16
      have hand : bits .and .u64 (u : Int) 15 = ((u % 16 : Nat) : Int) := u64_and15 u (by omega)
      have hold : ∃ v, wr.cell? ⟨w.heap.size, k, none⟩ = some v := by
        rw [World.ownsRow.cellAt hown.out k (by omega)]
        exact ⟨_, List.getElem?_eq_getElem (by rw [arr65_length]; omega)⟩
      obtain ⟨v, hold⟩ := hold
      have hfr := World.ownsRow.frozenAt hown.out k
      have hso := (World.ownsRow.stored hown.out k (.int .u8 ((hexd (u % 16)).toNat : Int))).1
      rw [arr65_set] at hso
      have HSO := hid hso
      have HSB := hid (hbel.out.setCell (p := ⟨w.heap.size, k, none⟩) (Nat.le_refl _) (.int .u8 ((hexd (u % 16)).toNat : Int)))
      have hu16 : u / 16 < 4294967296 := by omega
      obtain ⟨d, hd⟩ : ∃ d, u % 16 = d := ⟨_, rfl⟩
      rw [hd] at HN hix hand HSO HSB hd16
      clear hr hso hd hinv hown hbel
      generalize hexd d = x0 at *
      go_wp2_with fail
      go_roundw
      case rel => exact ⟨u / 16, k, x0 :: l, by go_num, by go_num, by simp only [List.length_cons]; omega, hl2, hu16, HN, HSO, HSB⟩
      case measure => simp [intOf]
theorem iFormatInt_16 (n : Nat) (hn : n < 4294967296) (w : World) {B : Nat} (hB : B ≤ w.heap.size) (hD : Deb B w) :
    Calls Tryz.prog 84 #[.int .i64 n, .int .i64 16] w (RetStr (hexDigits n) w) := by
  have HC := hid (formatBits_calls n hn w hB hD)
  clear hD
  go_enter Tryz.func84, Tryz.ntmps84
  go_wp2_with (go_at_call 97; refine HC.out.mono ?_; rintro e w1 ⟨rfl, hb⟩; have HB := hid hb; clear hb)
  go_ret
  exact ⟨rfl, HB.out⟩
theorem FormatInt_16 (n : Nat) (hn : n < 4294967296) (w : World) {B : Nat} (hB : B ≤ w.heap.size) (hD : Deb B w) :
    Calls Tryz.prog 72 #[.int .i64 n, .int .i64 16] w (RetStr (hexDigits n) w) := by
  have HC := hid (iFormatInt_16 n hn w hB hD)
  clear hD
  go_enter Tryz.func72, Tryz.ntmps72
  go_wp2_with (go_at_call 84; refine HC.out.mono ?_; rintro e w1 ⟨rfl, hb⟩; have HB := hid hb; clear hb)
  go_ret
  exact ⟨rfl, HB.out⟩
end Go.Proofs.YtkbfhooiloaokaaGreatDoor.Num
/-
  DERIVED: THE SHELF's CONTRACTS AT THIS DUMP, IN PLAIN WORDS (tools/lay-plain.mjs out of 'TryzShelfOf.lean', which tools/lay-shelf.mjs wrote): THE SAME DECLARATIONS UNDER THE SAME NAMES: 'import', 'namespace', 'open', 'def', 'theorem' AND NOTHING ELSE: no command of the shelf's: FOR A HAND-IN. Each laying: the table of numbers ('.._ren') and one theorem, a field a fact of the dump's own or the kernel's comparison; each contract: ONE APPLICATION.
-/
namespace Go.Proofs
open Go.Shelf
def Tryz.lays105_ren : Go.Shelf.Ren := ⟨fun | 105 => 73 | 212 => 85 | 99 => 86 | 165 => 87 | 166 => 88 | 170 => 89 | 169 => 90 | 263 => 98 | 264 => 99 | 206 => 100 | 240 => 101 | 241 => 102 | 276 => 117 | 277 => 118 | n => n, fun | 9 => 9 | 3 => 3 | 4 => 4 | 20 => 20 | 0 => 0 | 46 => 102 | 109 => 103 | 5 => 5 | 72 => 108 | 76 => 110 | 51 => 79 | 146 => 122 | 53 => 85 | 148 => 124 | 70 => 106 | 37 => 22 | 75 => 94 | 127 => 126 | 164 => 141 | 80 => 113 | n => n, fun | n => n⟩
theorem Tryz.lays105 : Go.Proofs.Lays.n105 Tryz.prog Tryz.lays105_ren := {
  mixed := by kernel_rfl
  f99 := Tryz.func86.trans (congrArg some (by kernel_rfl))
  f105 := Tryz.func73.trans (congrArg some (by kernel_rfl))
  f165 := Tryz.func87.trans (congrArg some (by kernel_rfl))
  f166 := Tryz.func88.trans (congrArg some (by kernel_rfl))
  f169 := Tryz.func90.trans (congrArg some (by kernel_rfl))
  f170 := Tryz.func89.trans (congrArg some (by kernel_rfl))
  f206 := Tryz.func100.trans (congrArg some (by kernel_rfl))
  f212 := Tryz.func85.trans (congrArg some (by kernel_rfl))
  f240 := Tryz.func101.trans (congrArg some (by kernel_rfl))
  f241 := Tryz.func102.trans (congrArg some (by kernel_rfl))
  f263 := Tryz.func98.trans (congrArg some (by kernel_rfl))
  f264 := Tryz.func99.trans (congrArg some (by kernel_rfl))
  f276 := Tryz.func117.trans (congrArg some (by kernel_rfl))
  f277 := Tryz.func118.trans (congrArg some (by kernel_rfl))
  t0 := Tryz.underlying0
  a0 := Tryz.isAgg0
  z0 := Tryz.sizeOf0
  v0 := Tryz.zeroValue0
  t3 := Tryz.underlying3
  a3 := Tryz.isAgg3
  z3 := Tryz.sizeOf3
  v3 := Tryz.zeroValue3
  t4 := Tryz.underlying4
  a4 := Tryz.isAgg4
  z4 := Tryz.sizeOf4
  v4 := Tryz.zeroValue4
  t5 := Tryz.underlying5
  a5 := Tryz.isAgg5
  z5 := Tryz.sizeOf5
  v5 := Tryz.zeroValue5
  t9 := Tryz.underlying9
  a9 := Tryz.isAgg9
  z9 := Tryz.sizeOf9
  v9 := Tryz.zeroValue9
  t20 := Tryz.underlying20
  a20 := Tryz.isAgg20
  z20 := Tryz.sizeOf20
  v20 := Tryz.zeroValue20
  t37 := Tryz.underlying22
  a37 := Tryz.isAgg22
  z37 := Tryz.sizeOf22
  v37 := Tryz.zeroValue22
  t46 := Tryz.underlying102
  a46 := Tryz.isAgg102
  z46 := Tryz.sizeOf102
  v46 := Tryz.zeroValue102
  t51 := Tryz.underlying79
  a51 := Tryz.isAgg79
  z51 := Tryz.sizeOf79
  v51 := Tryz.zeroValue79
  t53 := Tryz.underlying85
  a53 := Tryz.isAgg85
  z53 := Tryz.sizeOf85
  v53 := Tryz.zeroValue85
  t70 := Tryz.underlying106
  a70 := Tryz.isAgg106
  z70 := Tryz.sizeOf106
  v70 := Tryz.zeroValue106
  t72 := Tryz.underlying108
  a72 := Tryz.isAgg108
  z72 := Tryz.sizeOf108
  v72 := Tryz.zeroValue108
  t75 := Tryz.underlying94
  a75 := Tryz.isAgg94
  z75 := Tryz.sizeOf94
  v75 := Tryz.zeroValue94
  t76 := Tryz.underlying110
  a76 := Tryz.isAgg110
  z76 := Tryz.sizeOf110
  v76 := Tryz.zeroValue110
  t109 := Tryz.underlying103
  a109 := Tryz.isAgg103
  z109 := Tryz.sizeOf103
  v109 := Tryz.zeroValue103
  t127 := Tryz.underlying126
  a127 := Tryz.isAgg126
  z127 := Tryz.sizeOf126
  v127 := Tryz.zeroValue126
  t146 := Tryz.underlying122
  a146 := Tryz.isAgg122
  z146 := Tryz.sizeOf122
  v146 := Tryz.zeroValue122
  t148 := Tryz.underlying124
  a148 := Tryz.isAgg124
  z148 := Tryz.sizeOf124
  v148 := Tryz.zeroValue124
  t164 := Tryz.underlying141
  a164 := Tryz.isAgg141
  z164 := Tryz.sizeOf141
  v164 := Tryz.zeroValue141 }
theorem Tryz.Builder_Extra_105 : Builder.Extra Tryz.prog Tryz.lays105_ren := {
  sizeBuilder := by kernel_rfl
  liesBuilder := by kernel_rfl
  t5 := Tryz.underlying5
  a5 := Tryz.isAgg5
  z5 := Tryz.sizeOf5
  v5 := Tryz.zeroValue5
  infoByte := by kernel_rfl
  cellsByte := by kernel_rfl
  sizeByte := by kernel_rfl
  neB5 := by decide }
open Go.RowKit Go.Lib in
/-- **strings.Repeat: count ≥ 0, the result within one allocation: count copies of s.** (LAID: no walk: one application.) -/
theorem Tryz.strings_Repeat (s : ByteArray) (c : Nat) (w : World) (hc : c ≤ 9223372036854775807) (hlen : s.size * c ≤ 140737488355328) :
    Calls Tryz.prog 73 #[.string s, .int .i64 c] w fun e w' => e = .returned (.string ⟨(Lib.repeatL s.data.toList c).toArray⟩) ∧ Below w.heap.size w w' := Any.strings_Repeat Tryz.lays105 Tryz.Builder_Extra_105 s c w hc hlen
end Go.Proofs
/-
  The hexadecimal digits of the bits of a float32: the program's hexOf.
-/
namespace Go.Proofs.YtkbfhooiloaokaaGreatDoor.Num
open Go.RowKit Go.Proofs.Fl Go.Proofs.Hx Go.Proofs.Tx
set_option linter.unusedVariables false
set_option linter.unusedSimpArgs false
theorem BitsOf_is (x : Nat) (hx : x < 4294967296) (w : World) : Calls Tryz.prog 21 #[.float .f32 x] w (Ret (.int .i64 (cn .f32 x)) w) := by
  go_enter Tryz.func21, Tryz.ntmps21
  go_wp2
  all_goals go_ret
  all_goals rename_i h
  all_goals rw [order_self] at h
  all_goals exact ⟨ret_int (by simp [cn, h, qn]), 0, rfl⟩
theorem bsize (l : List UInt8) : (⟨l.toArray⟩ : ByteArray).size = l.length := by
  show (l.toArray).size = l.length
  simp
theorem rep48 (c : Nat) : Go.Lib.repeatL [48] c = List.replicate c 48 := by
  have := Go.Lib.repeatL_replicate 48 1 c
  simpa using this
theorem hexOf_calls (x : Nat) (hx : x < 4294967296) (w : World) {B : Nat} (hB : B ≤ w.heap.size) (hD : Deb B w) :
    Calls Tryz.prog 47 #[.float .f32 x] w (RetStr (hex8 (cn .f32 x)) w) := by
  have hu := cn_lt hx
  have HC := hid (BitsOf_is x hx w)
  generalize cn .f32 x = u at *
  have HF := hid (fun m => FormatInt_16 u hu (w.drewN m) (B := B) hB (hD.on (below_drewN (Below.refl _ _) m)))
  obtain ⟨hp1, hp2⟩ := hex_pad 7 u (by simpa using hu)
  rw [← rep48] at hp2
  have HP := hid (show Go.Lib.repeatL [48] (8 - (hexDigits u).length) ++ hexDigits u = hex8 u from hp2)
  clear hp2 hD hx hB
  generalize hexDigits u = l at *
  have hl8 : l.length ≤ 8 := hp1
  obtain ⟨c, hc⟩ : ∃ c, 8 - l.length = c := ⟨_, rfl⟩
  rw [hc] at HP
  have hc8 : c ≤ 8 := by omega
  have hci : (8 : Int) - (l.length : Int) = (c : Int) := by omega
  have HR := hid (fun w' => Tryz.strings_Repeat ⟨#[48]⟩ c w' (by omega) (by show 1 * _ ≤ _; omega))
  have hsz := bsize l
  clear hc
  have hll : (Go.Lib.repeatL [48] c).length ≤ 8 := by rw [rep48]; simpa using hc8
  go_enter Tryz.func47, Tryz.ntmps47
  go_wp2_with (first | (go_at_call 21; refine HC.out.mono ?_; rintro e w1 ⟨rfl, n1, rfl⟩) | (go_at_call 72; refine (HF.out _).mono ?_; rintro e w2 ⟨rfl, hb⟩; have HB := hid hb; clear hb) | (go_at_call 73; refine (HR.out _).mono ?_; rintro e w3 ⟨rfl, hb⟩; have HB3 := hid hb; clear hb))
  go_ret
  refine ⟨?_, (below_drewN' HB.out).trans (HB3.out.mono HB.out.size)⟩
  rw [← HP.out, ← mk_append]
  rfl
end Go.Proofs.YtkbfhooiloaokaaGreatDoor.Num
/-
  Numbers and their bits, flushed, the same: the program's and the reference's functions, as FnNumbers calls them.
-/
namespace Go.Proofs.YtkbfhooiloaokaaGreatDoor.Num
open Go.RowKit Go.Proofs.Fl
set_option linter.unusedVariables false
set_option linter.unusedSimpArgs false
theorem Copysign_calls (x : Nat) (w : World) : Calls Tryz.prog 63 #[.float .f64 0, .float .f64 x] w (Ret (.float .f64 (flush64 x)) w) := by
  have H := hid (and_sign64 x)
  go_enter Tryz.func63, Tryz.ntmps63
  go_wp2
  go_ret
  exact ⟨ret_float (by rw [H.out]; rfl), 0, rfl⟩
set_option maxRecDepth 100000 in
theorem FlushNumber_calls (x : Nat) (hx : x < 4294967296) (w : World) : Calls Tryz.prog 28 #[.float .f32 x] w (Ret (.float .f32 (flush x)) w) := by
  cases h : subB x with
  | true =>
    have hl : rg Ieee.single x < 8388608 := by unfold subB at h; simp at h; exact h.2
    have hn := low_not_nan hl
    have cx : ∀ w, (convert 28 46 (.float .f32 x)).run Tryz.prog w = .ok (.float .f64 (fwide x)) w := fun w => run_convert_float_float w _ _ .f32 .f64 x _ (by kernel_rfl) Tryz.underlying46 (wide_some hn)
    have Hz := hid (flush_wide hn)
    have Hf := hid (flush_low hl)
    have Hs := hid h
    have Ht := hid (fits_zero (sg Ieee.single x))
    have Hv := hid (nar_zero (sg Ieee.single x))
    have Hw := hid (nan_zero (sg Ieee.single x))
    clear h hn hl
    generalize (if sg Ieee.single x = true then 9223372036854775808 else 0 : Nat) = z at Hz Ht Hv
    generalize (if sg Ieee.single x = true then 2147483648 else 0 : Nat) = y at Hf Hv Hw
    go_enter Tryz.func28, Tryz.ntmps28
    go_wp2_with (first | (go_at_call 33; refine (IsSubnormal_calls _ _).mono ?_; rw [Hs.out]; rintro e w' ⟨rfl, n, rfl⟩) | (go_at_call 63; refine (Copysign_calls _ _).mono ?_; rw [Hz.out]; rintro e w' ⟨rfl, n, rfl⟩) | (refine wpList_narrow rfl rfl (by kernel_rfl) Tryz.underlying28 Ht.out ?_; rw [Hv.out]; intro v n hv; obtain rfl := hv.eq Hw.out; clear hv))
    go_ret
    exact ⟨ret_float Hf.out.symm, _, rfl⟩
  | false =>
    have Hf := hid (flush_other hx h)
    have Hs := hid h
    clear h
    go_enter Tryz.func28, Tryz.ntmps28
    go_wp2_with (go_at_call 33; refine (IsSubnormal_calls _ _).mono ?_; rw [Hs.out]; rintro e w' ⟨rfl, n, rfl⟩)
    go_ret
    exact ⟨ret_float Hf.out.symm, _, rfl⟩
theorem FromBits_yes (n : Int) (h : inB n 0 4294967295 = true) (h0 : 0 ≤ n) (h1 : n < 4294967296) (w : World) :
    Calls Tryz.prog 20 #[.int .i64 n] w (Ret (.tuple #[.float .f32 n.toNat, .bool true]) w) := by
  have H := hid h
  clear h
  go_enter Tryz.func20, Tryz.ntmps20
  go_wp2_with (go_at_call 54; refine (within_is _ _ _ true H.out _).mono ?_; rintro e w' ⟨rfl, n, rfl⟩)
  go_ret2
  exact ⟨rfl, _, rfl⟩
/-- a word of 32 bits, or no number at all -/
def W32 (x : Nat) : Prop := nan .f32 x = true ∨ x < 4294967296
theorem W32.of_feq {v r : Nat} (h : FEq .f32 v r) (hr : r < 4294967296) : W32 v := by
  rcases h.cases with rfl | ⟨h1, _⟩
  · exact .inr hr
  · exact .inl h1
theorem cnW {x : Nat} (h : W32 x) : cn .f32 x < 4294967296 := by
  unfold cn
  by_cases hn : nan .f32 x = true
  · rw [if_pos hn]; decide
  · rw [if_neg hn]
    rcases h with h | h
    · exact absurd h hn
    · exact h
theorem Bits_any (x : Nat) (h : W32 x) (w : World) : Calls Tryz.prog 69 #[.float .f32 x] w (Ret (.int .i64 (cn .f32 x)) w) := by
  cases hn : nan .f32 x with
  | true =>
    have ho := order_self .f32 x
    rw [hn] at ho
    have e : cn .f32 x = qn .f32 := by unfold cn; rw [if_pos hn]
    rw [e]
    clear e hn h
    go_enter Tryz.func69, Tryz.ntmps69
    go_wp2
    go_ret
    exact ⟨ret_int (by decide), 0, rfl⟩
  | false =>
    have hx : x < 4294967296 := by
      rcases h with h | h
      · rw [hn] at h; cases h
      · exact h
    have ho := order_self .f32 x
    rw [hn] at ho
    have e : cn .f32 x = x := by unfold cn; rw [hn]; rfl
    rw [e]
    clear e hn h
    go_enter Tryz.func69, Tryz.ntmps69
    go_wp2
    go_ret
    exact ⟨ret_int (by first | rfl | omega), 0, rfl⟩
theorem Same_any (x y : Nat) (hx : W32 x) (hy : W32 y) (b : Bool) (hb : sameB x y = b) (w : World) : Calls Tryz.prog 10 #[.float .f32 x, .float .f32 y] w (Ret (.bool b) w) := by
  have HX := hid (Bits_any x hx)
  have HY := hid (Bits_any y hy)
  have HB := hid hb
  clear hx hy hb
  have HS : Hid (∀ w, Calls Tryz.prog 43 #[.float .f32 x, .float .f32 y] w (Ret (.bool b) w)) := hid (fun w => by
    go_enter Tryz.func43, Tryz.ntmps43
    go_wp2_with fail
    refine (HX.out _).mono ?_
    rintro e w' ⟨rfl, n1, rfl⟩
    go_wp2_with fail
    refine (HY.out _).mono ?_
    rintro e w' ⟨rfl, n2, rfl⟩
    go_wp2
    go_ret
    refine ⟨ret_bool ?_, _, rfl⟩
    rw [← HB.out]
    unfold sameB
    rw [Bool.eq_iff_iff, beq_iff_eq, beq_iff_eq]
    exact Int.ofNat_inj)
  go_enter Tryz.func10, Tryz.ntmps10
  go_wp2_with fail
  refine (HS.out _).mono ?_
  rintro e w' ⟨rfl, n1, rfl⟩
  go_wp2
  go_ret
  exact ⟨rfl, _, rfl⟩
theorem same_feq {x y : Nat} (h : FEq .f32 x y) : sameB x y = true := by
  unfold sameB
  exact beq_iff_eq.2 h
theorem inB_bits {u : Nat} (h : u < 4294967296) : inB (u : Int) 0 4294967295 = true := by
  unfold inB
  simp
  omega
theorem back_calls (u : Nat) (hu : u < 4294967296) (w : World) : Calls Tryz.prog 20 #[.int .i64 (u : Int)] w (Ret (.tuple #[.float .f32 u, .bool true]) w) :=
  FromBits_yes (u : Int) (inB_bits hu) (by omega) (by omega) w
theorem fop_lt32 (op : BinOp) (a b : Nat) : fop op .f32 a b < 4294967296 := by
  unfold fop
  cases h : floatBits op .f32 a b with
  | none => decide +kernel
  | some r => exact wf32 (floatBits_wf h)
theorem sub_flush {x : Nat} (hx : x < 4294967296) : subB (flush x) = false := by
  cases h : subB x with
  | false => rw [flush_other hx h, h]
  | true =>
    have hl : rg Ieee.single x < 8388608 := by unfold subB at h; simp at h; exact h.2
    rw [flush_low hl]
    split <;> decide +kernel
theorem sub_same {x : Nat} (hx : x < 4294967296) : sameB x (flush x) = !subB x := by
  cases h : subB x with
  | false => rw [flush_other hx h]; exact same_feq (FEq.refl _ _)
  | true =>
    have hl : rg Ieee.single x < 8388608 := by unfold subB at h; simp at h; exact h.2
    have hs := sub_flush hx
    have hn := low_not_nan hl
    have hz : nan .f32 (flush x) = false := by rw [flush_low hl]; split <;> decide +kernel
    show sameB x (flush x) = false
    unfold sameB cn
    rw [hn, hz]
    simp only [Bool.false_eq_true, if_false]
    rw [beq_eq_false_iff_ne]
    intro e
    rw [← e, h] at hs
    cases hs
end Go.Proofs.YtkbfhooiloaokaaGreatDoor.Num
/-
  The plain laws of FnNumbers: a text of numbers is read back; a float32 made wide and narrow again is itself. Over no program.
-/
namespace Go.Proofs.YtkbfhooiloaokaaGreatDoor.Num
open Go.RowKit Go.Proofs.Fl Go.Proofs.Hx Go.Proofs.Tx Ieee
set_option linter.unusedVariables false
theorem cut_pre (t : List UInt8) (h : ∀ c ∈ t, c ≠ 44) (l x : List UInt8) (r : List (List UInt8)) (hc : cut l = x :: r) : cut (t ++ l) = (t ++ x) :: r := by
  induction t with
  | nil => exact hc
  | cons b t ih =>
    have hb : b ≠ 44 := h b (by simp)
    have := ih (fun c hc => h c (List.mem_cons_of_mem _ hc))
    show cut (b :: (t ++ l)) = _
    simp only [cut, hb, if_false, this, glue]
    rfl
def tails (ts : List (List UInt8)) : List UInt8 := (ts.map fun u => 44 :: u).flatten
theorem cut_tails (ts : List (List UInt8)) (h : ∀ t ∈ ts, ∀ c ∈ t, c ≠ 44) : cut (tails ts) = [] :: ts := by
  induction ts with
  | nil => rfl
  | cons u us ih =>
    have e : tails (u :: us) = 44 :: (u ++ tails us) := by simp [tails]
    rw [e]
    simp only [cut, if_true]
    rw [cut_pre u (h u (by simp)) _ _ _ (ih fun t ht => h t (by simp [ht])), List.append_nil]
theorem cut_joined (t : List UInt8) (ts : List (List UInt8)) (h : ∀ u ∈ t :: ts, ∀ c ∈ u, c ≠ 44) : cut (Go.Lib.join (t :: ts) [44]) = t :: ts := by
  rw [Go.Lib.join_cons]
  have e : Go.Lib.joinTail [44] ts = tails ts := by
    unfold tails
    simp [Go.Lib.joinTail]
  rw [e, cut_pre t (h t (by simp)) _ _ _ (cut_tails ts fun u hu => h u (by simp [hu])), List.append_nil]
theorem num_all {l : List UInt8} : ∀ {acc u : Nat}, numBy digL acc l = some u → ∀ c ∈ l, digL c ≠ none := by
  induction l with
  | nil => intro acc u _ c hc; cases hc
  | cons b l ih =>
    intro acc u h c hc
    simp only [numBy] at h
    cases hd : digL b with
    | none => rw [hd] at h; cases h
    | some d =>
      rw [hd] at h
      rcases List.mem_cons.1 hc with rfl | hc
      · rw [hd]; intro e; cases e
      · exact ih h c hc
theorem hexT_plain (x : Nat) (hx : x < 4294967296) : ∀ c ∈ hexT x, c ≠ 44 := by
  intro c hc e
  subst e
  exact num_all (rdL_hex8 _ (cn_lt hx)) _ hc (by decide)
theorem readN_text (xs : List Nat) (hn : xs.length ≤ 256) (hx : ∀ x ∈ xs, x < 4294967296) : readN (textJ (xs.map hexT)) = some (xs.map (cn .f32)) := by
  cases xs with
  | nil => exact readN_none rfl
  | cons y ys =>
    have hcut : cut (textJ ((y :: ys).map hexT)) = (y :: ys).map hexT := by
      unfold textJ
      rw [if_neg (by simp), List.map_cons, cut_joined]
      intro u hu c hc
      rw [← List.map_cons] at hu
      obtain ⟨z, hz, rfl⟩ := List.mem_map.1 hu
      exact hexT_plain z (hx z hz) c hc
    have hne : textJ ((y :: ys).map hexT) ≠ none4 := by
      intro e
      have := congrArg List.length (congrArg (fun l => (cut l).headD []) e)
      simp only [hcut] at this
      simp [hexT_len] at this
      revert this
      decide
    have hv : ∀ p ∈ (y :: ys).map hexT, ∃ z, z ∈ (y :: ys) ∧ p = hexT z ∧ rdNum p = some (cn .f32 z) := by
      intro p hp
      obtain ⟨z, hz, rfl⟩ := List.mem_map.1 hp
      exact ⟨z, hz, rfl, rdNum_hexT z (hx z hz)⟩
    rw [readN_yes hne (by rw [hcut, List.length_map]; exact hn) (by
      rw [hcut]
      refine List.all_eq_true.2 fun p hp => ?_
      obtain ⟨z, _, _, h⟩ := hv p hp
      rw [h]
      rfl), hcut]
    unfold vals
    rw [List.map_map]
    congr 1
    refine List.map_congr_left fun z hz => ?_
    show (rdNum (hexT z)).getD 0 = _
    rw [rdNum_hexT z (hx z hz)]
    rfl
theorem word_self {x : Nat} (hx : x < 4294967296) : Ieee.single.word (sg Ieee.single x) (rg Ieee.single x) = x := by
  have := word_parts Ieee.single x (by rw [sw32]; omega)
  rw [sw32] at this
  unfold Format.word
  conv => rhs; rw [this]
  cases sg Ieee.single x
  · simp
  · simp [sw32]
theorem narrow_wide {x : Nat} (hx : x < 4294967296) (h : rg Ieee.single x < 2139095040) : floatToFloatBits .f64 (fwide x) .f32 = some x := by
  obtain ⟨_, hs, hi, hm⟩ := wide_fin x h
  obtain ⟨m, e, hr, he, hm2, _⟩ := read_fin Ieee.double (fwide x) (by rw [inf64]; exact hi)
  rw [least64] at he hm2
  rw [hm] at hm2
  have henc : FloatKind.f32.encode (.number (sg Ieee.double (fwide x)) m e) = x := by
    show Ieee.single.nearest _ _ _ = _
    rw [hs]
    by_cases h0 : m = 0
    · subst h0
      have h1 : Mg Ieee.single (rg Ieee.single x) = 0 := by
        have := w925_pos
        rcases Nat.mul_eq_zero.1 (show Mg Ieee.single (rg Ieee.single x) * w925 = 0 by omega) with h | h
        · exact h
        · omega
      have h2 : rg Ieee.single x = 0 := Mg_inj Ieee.single (by rw [h1, Mg_zero])
      conv => rhs; rw [← word_self hx, h2]
      simp [Format.nearest]
    · rw [nearest_eq _ _ _ _ h0, near_exact Ieee.single m e h0 (rg Ieee.single x)]
      · rw [Nat.min_eq_left (by rw [inf32]; omega), word_self hx]
      · rw [least32]
        have hw : w925 = 2 ^ 925 := by
          have h := w925_mul 0
          rw [Nat.pow_zero, Nat.one_mul, Nat.zero_add] at h
          exact h.symm
        have hpos := w925_pos
        generalize Mg Ieee.single (rg Ieee.single x) = M at *
        by_cases h149 : -149 ≤ e
        · obtain ⟨a, ha⟩ : ∃ a : Nat, e = -149 + a := ⟨(e + 149).toNat, by omega⟩
          subst ha
          rw [show (-149 - (-149 + (a : Int))).toNat = 0 by omega, show (-149 + (a : Int) - -149).toNat = a by omega]
          rw [show (-149 + (a : Int) - -1074).toNat = a + 925 by omega, w925_mul, ← Nat.mul_assoc] at hm2
          have := Nat.eq_of_mul_eq_mul_right hpos hm2
          omega
        · obtain ⟨p, hp⟩ : ∃ p : Nat, e = -149 - p := ⟨(-149 - e).toNat, by omega⟩
          subst hp
          rw [show (-149 - (-149 - (p : Int))).toNat = p by omega, show (-149 - (p : Int) - -149).toNat = 0 by omega]
          obtain ⟨q, hq⟩ : ∃ q : Nat, q + p = 925 := ⟨925 - p, by omega⟩
          rw [show (-149 - (p : Int) - -1074).toNat = q by omega, hw, ← hq, show (2 : Nat) ^ (q + p) = 2 ^ p * 2 ^ q by rw [← Nat.pow_add, Nat.add_comm], ← Nat.mul_assoc] at hm2
          have := Nat.eq_of_mul_eq_mul_right (Nat.two_pow_pos q) hm2
          omega
  have hdec : (FloatKind.f32.decode x).isInfinity = false := by
    obtain ⟨m', e', hr', _⟩ := read_fin Ieee.single x (by rw [inf32]; exact h)
    show (Ieee.single.read _).isInfinity = false
    rw [hr']
    rfl
  unfold floatToFloatBits
  rw [if_neg (by decide)]
  show (match Ieee.double.read (fwide x) with | .nan _ _ => none | .infinity s => some (FloatKind.f32.encode (.infinity s)) | .number s m e => _) = _
  rw [hr]
  simp only [henc, hdec]
  simp
theorem narrow_inf {x : Nat} (hx : x < 4294967296) (h : rg Ieee.single x = 2139095040) : floatToFloatBits .f64 (fwide x) .f32 = some x := by
  obtain ⟨_, hs, hi⟩ := wide_inf x h
  have hr := read_inf Ieee.double (by decide) (fwide x) (by rw [inf64]; exact hi)
  have henc : FloatKind.f32.encode (.infinity (sg Ieee.double (fwide x))) = x := by
    show Ieee.single.word (sg Ieee.double (fwide x)) Ieee.single.infRung = x
    rw [hs]
    conv => rhs; rw [← word_self hx, h]
    rw [inf32]
  unfold floatToFloatBits
  rw [if_neg (by decide)]
  show (match Ieee.double.read (fwide x) with | .nan _ _ => none | .infinity s => some (FloatKind.f32.encode (.infinity s)) | .number s m e => _) = _
  rw [hr]
  simp only [henc]
theorem narrow_any {x : Nat} (hx : x < 4294967296) (hn : nan .f32 x = false) : floatToFloatBits .f64 (fwide x) .f32 = some x := by
  have h2 := rg_le_of hn
  change rg Ieee.single x ≤ Ieee.single.infRung at h2
  rw [inf32] at h2
  rcases Nat.lt_or_eq_of_le h2 with h1 | h1
  · exact narrow_wide hx h1
  · exact narrow_inf hx h1
theorem fnar_back {x : Nat} (hx : x < 4294967296) : Fits (fwide x) ∧ FEq .f32 (fnar (fwide x)) x := by
  cases hn : nan .f32 x with
  | true =>
    have h : nan .f64 (fwide x) = true := by rw [nan_wide]; exact hn
    refine ⟨.inl h, FEq.of_nan ?_ hn⟩
    rw [fnar_nan h]
    exact nan_qn _
  | false =>
    have h := narrow_any hx hn
    refine ⟨.inr (by rw [h]; rfl), ?_⟩
    unfold fnar
    rw [h]
    exact FEq.refl _ _
theorem fnar_lt (x : Nat) : fnar x < 4294967296 := by
  have hlt : ∀ d, FloatKind.f32.encode d < 4294967296 := fun d => Ieee.single.write_lt d
  unfold fnar
  cases h1 : floatToFloatBits .f64 x .f32 with
  | none => decide +kernel
  | some r =>
    unfold floatToFloatBits at h1
    rw [if_neg (by decide)] at h1
    simp only [Option.getD_some]
    split at h1
    · cases h1
    · injection h1 with h1; rw [← h1]; exact hlt _
    · split at h1
      · cases h1
      · injection h1 with h1; rw [← h1]; exact hlt _
end Go.Proofs.YtkbfhooiloaokaaGreatDoor.Num
