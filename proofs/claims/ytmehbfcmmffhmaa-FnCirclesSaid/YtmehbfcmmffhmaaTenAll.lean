/-
  Tenths of decibels of 64ths: those of a product are those of both, but for one. Over no program. (Printed by gen_ten2.py.)
-/
import Derived.Test.YtmehbfcmmffhmaaTenA
import Derived.Test.YtmehbfcmmffhmaaTenB
import Derived.Test.YtmehbfcmmffhmaaTenC
import Derived.Test.YtmehbfcmmffhmaaTenD
import Derived.Test.YtmehbfcmmffhmaaTenE
import Derived.Test.YtmehbfcmmffhmaaTenF
import Derived.Test.YtmehbfcmmffhmaaTenG
import Derived.Test.YtmehbfcmmffhmaaTenH
namespace Go.Proofs.Fl
open Go Ieee Go.RowKit
set_option maxRecDepth 100000
set_option linter.unusedVariables false
theorem row_at {i : Nat} (h : i < 100) : rowB i = true := by
  rcases (show (0 ≤ i ∧ i < 5) ∨ (5 ≤ i ∧ i < 11) ∨ (11 ≤ i ∧ i < 18) ∨ (18 ≤ i ∧ i < 26) ∨ (26 ≤ i ∧ i < 36) ∨ (36 ≤ i ∧ i < 49) ∨ (49 ≤ i ∧ i < 70) ∨ (70 ≤ i ∧ i < 100) by omega) with h1 | h1 | h1 | h1 | h1 | h1 | h1 | h1
  · exact List.all_eq_true.1 rowsTA i (by rw [List.mem_range'_1]; omega)
  · exact List.all_eq_true.1 rowsTB i (by rw [List.mem_range'_1]; omega)
  · exact List.all_eq_true.1 rowsTC i (by rw [List.mem_range'_1]; omega)
  · exact List.all_eq_true.1 rowsTD i (by rw [List.mem_range'_1]; omega)
  · exact List.all_eq_true.1 rowsTE i (by rw [List.mem_range'_1]; omega)
  · exact List.all_eq_true.1 rowsTF i (by rw [List.mem_range'_1]; omega)
  · exact List.all_eq_true.1 rowsTG i (by rw [List.mem_range'_1]; omega)
  · exact List.all_eq_true.1 rowsTH i (by rw [List.mem_range'_1]; omega)
theorem row_pair {i j : Nat} (hi : i ≤ j) (hj : j < 100) : tenB tT (2 * i + 1) (2 * j + 1) (kO (2 * i + 1) + kO (2 * j + 1)) = true := by
  have h := row_at (show i < 100 by omega)
  unfold rowB at h
  have h2 := List.all_eq_true.1 h (j - i) (List.mem_range.2 (by omega))
  rw [show i + (j - i) = j by omega] at h2
  exact h2
def oddB (i : Nat) : Bool := (List.range 8).any fun p => Nat.beq (i % 2 ^ p) 0 && Nat.beq (i / 2 ^ p % 2) 1 && Nat.ble p (kO (i / 2 ^ p)) && Nat.ble (i / 2 ^ p) 199
theorem odd_all : (List.range' 1 200).all oddB = true := by decide +kernel
theorem odd_at {i : Nat} (h1 : 1 ≤ i) (h2 : i ≤ 200) : ∃ a p, a < 100 ∧ i = (2 * a + 1) * 2 ^ p ∧ p ≤ kO (2 * a + 1) := by
  have h := List.all_eq_true.1 odd_all i (by rw [List.mem_range'_1]; omega)
  unfold oddB at h
  obtain ⟨p, _, hp⟩ := List.any_eq_true.1 h
  rw [Bool.and_eq_true, Bool.and_eq_true, Bool.and_eq_true, Nat.beq_eq, Nat.beq_eq, Nat.ble_eq, Nat.ble_eq] at hp
  obtain ⟨⟨⟨h3, h4⟩, h5⟩, h6⟩ := hp
  have e := Nat.div_add_mod i (2 ^ p)
  rw [h3, Nat.add_zero, Nat.mul_comm] at e
  generalize i / 2 ^ p = o at *
  have eo : 2 * (o / 2) + 1 = o := by omega
  exact ⟨o / 2, p, by omega, by rw [eo]; exact e.symm, by rw [eo]; exact h5⟩
theorem kO_pow {a : Nat} (h : a < 100) : (2 * a + 1) * 2 ^ kO (2 * a + 1) ≤ 200 := by
  unfold kO
  have h1 : 200 / (2 * a + 1) ≠ 0 := by
    have : 1 ≤ 200 / (2 * a + 1) := (Nat.le_div_iff_mul_le (by omega)).2 (by omega)
    omega
  have h2 := Nat.log2_self_le h1
  calc (2 * a + 1) * 2 ^ Nat.log2 (200 / (2 * a + 1)) ≤ (2 * a + 1) * (200 / (2 * a + 1)) := Nat.mul_le_mul_left _ h2
    _ ≤ 200 := Nat.mul_div_le _ _
theorem ten_any {i j : Nat} (hi : 1 ≤ i) (hi2 : i ≤ 200) (hj : 1 ≤ j) (hj2 : j ≤ 200) : tenN (dN (i * j)) = (tT (i * j) : Int) - 200 := by
  obtain ⟨a, p, ha, rfl, hp⟩ := odd_at hi hi2
  obtain ⟨b, q, hb, rfl, hq⟩ := odd_at hj hj2
  have key : ∀ {a b : Nat} (ha : a < 100) (hb : b < 100) (hab : a ≤ b) (k : Nat) (hk : k ≤ kO (2 * a + 1) + kO (2 * b + 1)), tenN (dN ((2 * a + 1) * (2 * b + 1) * 2 ^ k)) = (tT ((2 * a + 1) * (2 * b + 1) * 2 ^ k) : Int) - 200 := by
    intro a b ha hb hab k hk
    refine tenB_at (row_pair hab hb) (Nat.mul_pos (by omega) (by omega)) ?_ hk
    have h1 := kO_pow ha
    have h2 := kO_pow hb
    calc (2 * a + 1) * (2 * b + 1) * 2 ^ (kO (2 * a + 1) + kO (2 * b + 1)) = ((2 * a + 1) * 2 ^ kO (2 * a + 1)) * ((2 * b + 1) * 2 ^ kO (2 * b + 1)) := by rw [Nat.pow_add]; ac_rfl
      _ ≤ 200 * 200 := Nat.mul_le_mul h1 h2
  rcases Nat.le_total a b with hab | hab
  · have := key ha hb hab (p + q) (by omega)
    rw [Nat.pow_add, show (2 * a + 1) * (2 * b + 1) * (2 ^ p * 2 ^ q) = (2 * a + 1) * 2 ^ p * ((2 * b + 1) * 2 ^ q) by ac_rfl] at this
    exact this
  · have := key hb ha hab (p + q) (by omega)
    rw [Nat.pow_add, show (2 * b + 1) * (2 * a + 1) * (2 ^ p * 2 ^ q) = (2 * a + 1) * 2 ^ p * ((2 * b + 1) * 2 ^ q) by ac_rfl] at this
    exact this
def twoB (i : Nat) : Bool := st (tT (Nat.mul (nat_lit 8) i)) fun m => (List.range' 1 200).all fun j => st (tT (Nat.mul (nat_lit 8) j)) fun n => st (tT (Nat.mul i j)) fun o =>
  cond (Nat.ble (Nat.add m n) (Nat.add o (nat_lit 201))) (cond (Nat.ble (Nat.add o (nat_lit 199)) (Nat.add m n)) (Nat.ble o (nat_lit 1000)) false) false
theorem two_all : (List.range' 1 200).all twoB = true := by decide +kernel
theorem two_at {i j : Nat} (hi : 1 ≤ i) (hi2 : i ≤ 200) (hj : 1 ≤ j) (hj2 : j ≤ 200) : tT (8 * i) + tT (8 * j) ≤ tT (i * j) + 201 ∧ tT (i * j) + 199 ≤ tT (8 * i) + tT (8 * j) ∧ tT (i * j) ≤ 1000 := by
  have h := List.all_eq_true.1 two_all i (by rw [List.mem_range'_1]; omega)
  unfold twoB at h
  simp only [st_eq, cand] at h
  have h2 := List.all_eq_true.1 h j (by rw [List.mem_range'_1]; omega)
  rw [Bool.and_eq_true, Bool.and_eq_true, Nat.ble_eq, Nat.ble_eq, Nat.ble_eq] at h2
  exact h2
theorem ten_pair {i j : Nat} (hi : 1 ≤ i) (hi2 : i ≤ 200) (hj : 1 ≤ j) (hj2 : j ≤ 200) : ∃ m n o : Nat, m ≤ 1000 ∧ n ≤ 1000 ∧ o ≤ 1000 ∧ tenN (dN (8 * i)) = (m : Int) - 200 ∧ tenN (dN (8 * j)) = (n : Int) - 200 ∧ tenN (dN (i * j)) = (o : Int) - 200 ∧ m + n ≤ o + 201 ∧ o + 199 ≤ m + n := by
  have h := two_at hi hi2 hj hj2
  have ei := ten_any hi hi2 (show 1 ≤ 8 by decide) (show 8 ≤ 200 by decide)
  have ej := ten_any hj hj2 (show 1 ≤ 8 by decide) (show 8 ≤ 200 by decide)
  have eij := ten_any hi hi2 hj hj2
  have hi3 := (two_at hi hi2 (show 1 ≤ 8 by decide) (show 8 ≤ 200 by decide)).2.2
  have hj3 := (two_at hj hj2 (show 1 ≤ 8 by decide) (show 8 ≤ 200 by decide)).2.2
  rw [Nat.mul_comm i 8] at ei hi3
  rw [Nat.mul_comm j 8] at ej hj3
  exact ⟨tT (8 * i), tT (8 * j), tT (i * j), hi3, hj3, h.2.2, ei, ej, eij, h.1, h.2.1⟩
theorem ten_64 : tenN (dN 64) = 0 := by
  have h := ten_any (show 1 ≤ 8 by decide) (show 8 ≤ 200 by decide) (show 1 ≤ 8 by decide) (show 8 ≤ 200 by decide)
  rw [h]
  decide +kernel
end Go.Proofs.Fl
