/-
  Hexadecimal numerals of 8 digits, as plain functions on lists of bytes: both ways of writing one agree; what is read back. Over no program.
-/
import Derived.Lib.Join
import Derived.Lib.Repeat
namespace Go.Proofs.Hx
open Go Go.Lib

def hexd (d : Nat) : UInt8 := if d < 10 then UInt8.ofNat (48 + d) else UInt8.ofNat (87 + d)
theorem hexd_fin : ∀ d : Fin 16, (hexd d.val).toNat = if d.val < 10 then 48 + d.val else 87 + d.val := by decide +kernel
theorem hexd_toNat (d : Nat) (h : d < 16) : (hexd d).toNat = if d < 10 then 48 + d else 87 + d := hexd_fin ⟨d, h⟩
/-- k digits of u, from the last ones -/
def hexK : Nat → Nat → List UInt8
  | 0, _ => []
  | k + 1, u => hexK k (u / 16) ++ [hexd (u % 16)]
theorem hexK_length (k u : Nat) : (hexK k u).length = k := by
  induction k generalizing u with
  | zero => rfl
  | succ k ih => simp [hexK, ih]
theorem hexK_zero (k : Nat) : hexK k 0 = List.replicate k 48 := by
  induction k with
  | zero => rfl
  | succ k ih =>
    rw [hexK, Nat.zero_div, ih, List.replicate_succ']
    rfl
/-- as many digits as it takes, one for 0 -/
def hexDigits (u : Nat) : List UInt8 :=
  if _h : u < 16 then [hexd u] else hexDigits (u / 16) ++ [hexd (u % 16)]
termination_by u
decreasing_by omega
theorem hexDigits_pos (u : Nat) : 1 ≤ (hexDigits u).length := by
  rw [hexDigits]
  split
  · simp
  · simp
theorem hex_pad (k u : Nat) (h : u < 16 ^ (k + 1)) : (hexDigits u).length ≤ k + 1 ∧ List.replicate (k + 1 - (hexDigits u).length) 48 ++ hexDigits u = hexK (k + 1) u := by
  induction k generalizing u with
  | zero =>
    have h16 : u < 16 := by simpa using h
    rw [hexDigits, dif_pos h16]
    simp [hexK, Nat.mod_eq_of_lt h16]
  | succ k ih =>
    by_cases h16 : u < 16
    · rw [hexDigits, dif_pos h16, hexK, show u / 16 = 0 by omega, hexK_zero, Nat.mod_eq_of_lt h16]
      simp
    · have hd : u / 16 < 16 ^ (k + 1) := by rw [Nat.pow_succ] at h; omega
      obtain ⟨h1, h2⟩ := ih (u / 16) hd
      rw [hexDigits, dif_neg h16, hexK]
      simp only [List.length_append, List.length_cons, List.length_nil]
      refine ⟨by omega, ?_⟩
      rw [← List.append_assoc, ← h2]
      congr 3
      omega
def hex8 (u : Nat) : List UInt8 := hexK 8 u
theorem hex8_length (u : Nat) : (hex8 u).length = 8 := hexK_length 8 u

/-! ### Reading -/
/-- a digit of the reference's: small letters alone -/
def digL (c : UInt8) : Option Nat := if 48 ≤ c.toNat ∧ c.toNat ≤ 57 then some (c.toNat - 48) else if 97 ≤ c.toNat ∧ c.toNat ≤ 102 then some (c.toNat - 87) else none
/-- a digit of strconv's: great letters too -/
def digU (c : UInt8) : Option Nat := if 48 ≤ c.toNat ∧ c.toNat ≤ 57 then some (c.toNat - 48) else if 97 ≤ c.toNat ∧ c.toNat ≤ 102 then some (c.toNat - 87) else if 65 ≤ c.toNat ∧ c.toNat ≤ 70 then some (c.toNat - 55) else none
def numBy (dg : UInt8 → Option Nat) (acc : Nat) : List UInt8 → Option Nat
  | [] => some acc
  | c :: r => match dg c with
    | some d => numBy dg (16 * acc + d) r
    | none => none
theorem numBy_append (dg : UInt8 → Option Nat) (acc : Nat) (l r : List UInt8) : numBy dg acc (l ++ r) = (numBy dg acc l).bind fun u => numBy dg u r := by
  induction l generalizing acc with
  | nil => rfl
  | cons c l ih =>
    simp only [List.cons_append, numBy]
    cases dg c with
    | none => rfl
    | some d => exact ih _
theorem digL_lt {c : UInt8} {d : Nat} (h : digL c = some d) : d < 16 ∧ hexd d = c := by
  unfold digL at h
  split at h
  · rename_i h1
    simp only [Option.some.injEq] at h
    subst h
    refine ⟨by omega, ?_⟩
    apply UInt8.toNat_inj.1
    rw [hexd_toNat _ (by omega), if_pos (by omega)]
    omega
  · split at h
    · rename_i h1
      simp only [Option.some.injEq] at h
      subst h
      refine ⟨by omega, ?_⟩
      apply UInt8.toNat_inj.1
      rw [hexd_toNat _ (by omega), if_neg (by omega)]
      omega
    · cases h
theorem digL_hexd (d : Nat) (h : d < 16) : digL (hexd d) = some d := by
  have := hexd_toNat d h
  unfold digL
  rw [this]
  by_cases h10 : d < 10
  · rw [if_pos h10, if_pos (by omega)]
    congr 1
    omega
  · rw [if_neg h10, if_neg (by omega), if_pos (by omega)]
    congr 1
    omega
theorem digU_of {c : UInt8} {d : Nat} (h : digL c = some d) : digU c = some d := by
  unfold digL at h
  unfold digU
  split at h
  · rename_i h1; rw [if_pos h1]; exact h
  · rename_i h1
    rw [if_neg h1]
    split at h
    · rename_i h2; rw [if_pos h2]; exact h
    · cases h
theorem digU_lt {c : UInt8} {d : Nat} (h : digU c = some d) : d < 16 := by
  unfold digU at h
  split at h
  · simp only [Option.some.injEq] at h; omega
  · split at h
    · simp only [Option.some.injEq] at h; omega
    · split at h
      · simp only [Option.some.injEq] at h; omega
      · cases h
def rdL (l : List UInt8) : Option Nat := numBy digL 0 l
def rdU (l : List UInt8) : Option Nat := numBy digU 0 l
theorem numU_of {l : List UInt8} {acc u : Nat} (h : numBy digL acc l = some u) : numBy digU acc l = some u := by
  induction l generalizing acc with
  | nil => exact h
  | cons c l ih =>
    simp only [numBy] at h ⊢
    cases hd : digL c with
    | none => rw [hd] at h; cases h
    | some d =>
      rw [hd] at h
      rw [digU_of hd]
      exact ih h
theorem rdU_of {l : List UInt8} {u : Nat} (h : rdL l = some u) : rdU l = some u := numU_of h
theorem num_bound {dg : UInt8 → Option Nat} (hd : ∀ c d, dg c = some d → d < 16) {l : List UInt8} {acc u : Nat} (h : numBy dg acc l = some u) : u < (acc + 1) * 16 ^ l.length := by
  induction l generalizing acc with
  | nil =>
    simp only [numBy, Option.some.injEq] at h
    subst h
    simp
  | cons c l ih =>
    simp only [numBy] at h
    cases hc : dg c with
    | none => rw [hc] at h; cases h
    | some d =>
      rw [hc] at h
      have h1 := ih h
      have h2 := hd c d hc
      have h3 : (16 * acc + d + 1) * 16 ^ l.length ≤ ((acc + 1) * 16) * 16 ^ l.length := Nat.mul_le_mul_right _ (by omega)
      rw [List.length_cons, Nat.pow_succ, Nat.mul_comm (16 ^ l.length), ← Nat.mul_assoc]
      omega
theorem rdL_lt {l : List UInt8} {u : Nat} (hl : l.length = 8) (h : rdL l = some u) : u < 4294967296 := by
  have := num_bound (fun c d h => (digL_lt h).1) h
  rw [hl] at this
  simpa using this
theorem rdU_lt {l : List UInt8} {u : Nat} (hl : l.length = 8) (h : rdU l = some u) : u < 4294967296 := by
  have := num_bound (fun c d h => digU_lt h) h
  rw [hl] at this
  simpa using this
/-- a numeral that the reference reads is the one that it writes -/
theorem rdL_hexK (l : List UInt8) (u : Nat) (h : rdL l = some u) : hexK l.length u = l := by
  unfold rdL at h
  generalize hn : l.length = n
  induction n generalizing l u with
  | zero => rw [List.length_eq_zero_iff.1 hn]; rfl
  | succ n ih =>
    obtain ⟨r, c, rfl⟩ : ∃ r c, l = r ++ [c] := ⟨l.dropLast, l.getLast (by intro e; subst e; cases hn), (List.dropLast_concat_getLast _).symm⟩
    rw [numBy_append] at h
    cases hr : numBy digL 0 r with
    | none => rw [hr] at h; cases h
    | some a =>
      rw [hr] at h
      simp only [Option.bind_some, numBy] at h
      cases hc : digL c with
      | none => rw [hc] at h; cases h
      | some d =>
        rw [hc] at h
        simp only [Option.some.injEq] at h
        obtain ⟨hd, he⟩ := digL_lt hc
        subst h
        rw [hexK, show (16 * a + d) / 16 = a by omega, show (16 * a + d) % 16 = d by omega, he, ih r a hr (by simpa using hn)]
theorem num_hexK (k u : Nat) (h : u < 16 ^ k) : numBy digL 0 (hexK k u) = some u := by
  induction k generalizing u with
  | zero =>
    have : u = 0 := by simpa using h
    subst this
    rfl
  | succ k ih =>
    rw [hexK, numBy_append, ih (u / 16) (by rw [Nat.pow_succ] at h; omega)]
    simp only [Option.bind_some, numBy]
    rw [digL_hexd _ (by omega)]
    simp only [Option.some.injEq]
    omega
theorem rdL_hex8 (u : Nat) (h : u < 4294967296) : rdL (hex8 u) = some u := num_hexK 8 u (by simpa using h)
theorem rdL_eq {l : List UInt8} {u : Nat} (hl : l.length = 8) (h : rdL l = some u) : hex8 u = l := by
  have := rdL_hexK l u h
  rw [hl] at this
  exact this

/-! ### Texts of lists -/
/-- pieces of one length, commas between them: told apart -/
theorem joinTail_inj (k : Nat) (sep : List UInt8) (xs ys : List (List UInt8)) (hx : ∀ x ∈ xs, x.length = k) (hy : ∀ y ∈ ys, y.length = k) (hl : xs.length = ys.length) (h : joinTail sep xs = joinTail sep ys) : xs = ys := by
  induction xs generalizing ys with
  | nil =>
    cases ys with
    | nil => rfl
    | cons => cases hl
  | cons x xs ih =>
    cases ys with
    | nil => cases hl
    | cons y ys =>
      simp only [joinTail, List.map_cons, List.flatten_cons, List.append_assoc] at h
      have h1 := List.append_cancel_left h
      have hxy := List.append_inj h1 (by rw [hx x (by simp), hy y (by simp)])
      rw [hxy.1, ih ys (fun z hz => hx z (by simp [hz])) (fun z hz => hy z (by simp [hz])) (by simpa using hl) hxy.2]
theorem join_inj (k : Nat) (sep : List UInt8) (xs ys : List (List UInt8)) (hx : ∀ x ∈ xs, x.length = k) (hy : ∀ y ∈ ys, y.length = k) (hl : xs.length = ys.length) (h : join xs sep = join ys sep) : xs = ys := by
  cases xs with
  | nil =>
    cases ys with
    | nil => rfl
    | cons => cases hl
  | cons x xs =>
    cases ys with
    | nil => cases hl
    | cons y ys =>
      rw [join_cons, join_cons] at h
      have hxy := List.append_inj h (by rw [hx x (by simp), hy y (by simp)])
      rw [hxy.1, joinTail_inj k sep xs ys (fun z hz => hx z (by simp [hz])) (fun z hz => hy z (by simp [hz])) (by simpa using hl) hxy.2]
end Go.Proofs.Hx
