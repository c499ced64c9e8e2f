/-
  Decimal numerals, as plain functions on lists of bytes: digits put in front one by one give the numeral; what a numeral is read as. Over no program.
-/
import Derived.Lib.ItoaNum
import Derived.Lib.ItoaLen
import Derived.Lib.ParseIntB
import Derived.Lib.Join
namespace Go.Proofs.Dc
open Go Go.Lib

/-- the digits that are still to come, none for 0 -/
def decRest (u : Nat) : List UInt8 := if u = 0 then [] else decDigits u
theorem decRest_zero : decRest 0 = [] := rfl
theorem decRest_pos {u : Nat} (h : u ≠ 0) : decRest u = decDigits u := by rw [decRest, if_neg h]
theorem dec_step (u : Nat) : decDigits u = decRest (u / 10) ++ [UInt8.ofNat (48 + u % 10)] := by
  rw [decDigits]
  by_cases h : u < 10
  · rw [dif_pos h, show u / 10 = 0 by omega, decRest_zero, show u % 10 = u by omega]; rfl
  · rw [dif_neg h, decRest_pos (by omega)]
/-- one round of the loop: what has been put in front so far, what is left -/
theorem dec_round {u : Nat} {out : List UInt8} {n : Nat} (h : if out = [] then u = n else decDigits n = decRest u ++ out) (hgo : out = [] ∨ u ≠ 0) :
    decDigits n = decRest (u / 10) ++ (UInt8.ofNat (48 + u % 10) :: out) := by
  by_cases ho : out = []
  · rw [if_pos ho] at h
    subst ho h
    rw [dec_step u]
  · rw [if_neg ho] at h
    have hu : u ≠ 0 := hgo.resolve_left ho
    rw [h, decRest_pos hu, dec_step u, List.append_assoc]
    rfl

theorem dec_len (u : Nat) (k : Nat) (h : u < 10 ^ (k + 1)) : (decDigits u).length ≤ k + 1 := by
  rw [decDigits_length]
  induction k generalizing u with
  | zero => rw [nDigits_small (by simpa using h)]; omega
  | succ k ih =>
    by_cases h10 : u < 10
    · rw [nDigits_small h10]; omega
    · rw [nDigits_big h10]
      have := ih (u / 10) (by rw [Nat.pow_succ] at h; omega)
      omega
theorem dec_ne (u : Nat) : decDigits u ≠ [] := by
  rw [dec_step]
  simp
theorem natAbs_tdiv10 (r : Int) : (r.tdiv 10).natAbs = r.natAbs / 10 := by rw [Int.natAbs_tdiv]; rfl
theorem natAbs_tmod10 (r : Int) : (r.tmod 10).natAbs = r.natAbs % 10 := by rw [Int.natAbs_tmod]; rfl

/-! ### What a numeral is read as -/
def isDig (c : UInt8) : Bool := decide (48 ≤ c.toNat ∧ c.toNat ≤ 57)
/-- the reference: bytes that are no digits are passed over -/
def valStep (n : Nat) (c : UInt8) : Nat := if isDig c then 10 * n + (c.toNat - 48) else n
def valD (l : List UInt8) : Nat := l.foldl valStep 0
/-- the reference: a minus ahead -/
def intOfL (l : List UInt8) : Int := if l.head? = some 45 then -(valD l : Int) else (valD l : Int)
theorem dig_toNat (d : Nat) (h : d < 10) : (UInt8.ofNat (48 + d)).toNat = 48 + d := by
  rw [UInt8.toNat_ofNat']
  omega
theorem val_dig (l : List UInt8) (d : Nat) (h : d < 10) (n : Nat) : (l ++ [UInt8.ofNat (48 + d)]).foldl valStep n = 10 * l.foldl valStep n + d := by
  rw [List.foldl_append]
  simp only [List.foldl_cons, List.foldl_nil, valStep]
  have := dig_toNat d h
  rw [if_pos (by simp only [isDig, decide_eq_true_eq]; omega)]
  omega
theorem val_dec (u : Nat) : valD (decDigits u) = u := by
  induction u using Nat.strongRecOn with
  | _ u ih =>
    unfold valD at *
    rw [dec_step, val_dig _ _ (by omega)]
    by_cases h : u / 10 = 0
    · rw [h, decRest_zero]
      simp only [List.foldl_nil]
      omega
    · rw [decRest_pos h, ih (u / 10) (by omega)]
      omega
theorem all_dig (u : Nat) : ∀ c ∈ decDigits u, isDig c = true := by
  induction u using Nat.strongRecOn with
  | _ u ih =>
    intro c hc
    rw [dec_step] at hc
    rcases List.mem_append.1 hc with hc | hc
    · by_cases h : u / 10 = 0
      · rw [h, decRest_zero] at hc; cases hc
      · rw [decRest_pos h] at hc
        exact ih (u / 10) (by omega) c hc
    · simp only [List.mem_singleton] at hc
      subst hc
      have := dig_toNat (u % 10) (by omega)
      simp only [isDig, decide_eq_true_eq]
      omega
theorem head_dig (u : Nat) : ∃ c r, decDigits u = c :: r ∧ isDig c = true := by
  cases h : decDigits u with
  | nil => exact absurd h (dec_ne u)
  | cons c r => exact ⟨c, r, rfl, all_dig u c (by rw [h]; simp)⟩
theorem val_itoa (v : Int) : intOfL (itoa v) = v := by
  unfold intOfL itoa
  by_cases h : v < 0
  · rw [if_pos h]
    simp only [List.head?_cons, if_true]
    have : valD (45 :: decDigits v.natAbs) = valD (decDigits v.natAbs) := by
      unfold valD
      rw [List.foldl_cons]
      rfl
    rw [this, val_dec]
    omega
  · rw [if_neg h]
    obtain ⟨c, r, hc, hd⟩ := head_dig v.toNat
    have hne : ¬ (decDigits v.toNat).head? = some 45 := by
      rw [hc]
      simp only [List.head?_cons, Option.some.injEq]
      rintro rfl
      exact absurd hd (by decide)
    rw [if_neg hne, val_dec]
    omega
theorem itoa_len17 (v : Int) (h : v.natAbs ≤ 1000000000000000) : 1 ≤ (itoa v).length ∧ (itoa v).length ≤ 17 := by
  have hl (u : Nat) (hu : u ≤ 1000000000000000) := dec_len u 15 (by omega)
  have hn (u : Nat) : 1 ≤ (decDigits u).length := by
    have := dec_ne u
    cases h : decDigits u with
    | nil => exact absurd h this
    | cons => simp
  unfold itoa
  by_cases h0 : v < 0
  · rw [if_pos h0]
    simp only [List.length_cons]
    have := hl v.natAbs h
    omega
  · rw [if_neg h0]
    have := hl v.toNat (by omega)
    have := hn v.toNat
    omega

/-! ### ParseInt reads a numeral back -/
theorem parseUintM_append (M : Nat) (acc : Nat) (l r : List UInt8) (u : Nat) (h : parseUintM M acc l = .ok u) : parseUintM M acc (l ++ r) = parseUintM M u r := by
  induction l generalizing acc with
  | nil =>
    simp only [parseUintM] at h
    injection h with h
    subst h
    rfl
  | cons c l ih =>
    simp only [parseUintM, List.cons_append] at h ⊢
    split at h
    · rename_i h1
      rw [if_pos h1]
      split at h
      · cases h
      · rename_i h2
        rw [if_neg h2]
        split at h
        · cases h
        · rename_i h3
          rw [if_neg h3]
          exact ih _ h
    · cases h
theorem parse_dec (M u : Nat) (hM : u ≤ M) (hb : u < 18446744073709551616) : parseUintM M 0 (decDigits u) = .ok u := by
  induction u using Nat.strongRecOn with
  | _ u ih =>
    have hlast (acc : Nat) (ha : acc = u / 10) : parseUintM M acc [UInt8.ofNat (48 + u % 10)] = .ok u := by
      have := dig_toNat (u % 10) (by omega)
      simp only [parseUintM]
      rw [if_pos (by omega), if_neg (by omega), if_neg (by omega)]
      congr 1
      omega
    rw [dec_step]
    by_cases h : u / 10 = 0
    · rw [h, decRest_zero]
      exact hlast 0 h.symm
    · rw [decRest_pos h, parseUintM_append _ _ _ _ _ (ih (u / 10) (by omega) (by omega) (by omega))]
      exact hlast _ rfl
theorem parse_itoa (v : Int) (h0 : -9223372036854775808 ≤ v) (h1 : v ≤ 9223372036854775807) : parseIntB 64 (itoa v) = .ok v := by
  unfold itoa
  by_cases h : v < 0
  · rw [if_pos h]
    simp only [parseIntB, parseUintB]
    have e45 : (45 : UInt8).toNat = 45 := rfl
    simp only [e45, or_true, if_true]
    rw [if_neg (dec_ne _), parse_dec _ _ (by omega) (by omega)]
    simp only [not_true, false_and, if_false, true_and]
    rw [if_neg (by omega)]
    congr 1
    omega
  · rw [if_neg h]
    obtain ⟨c, r, hc, hd⟩ := head_dig v.toNat
    have hp := parse_dec (2 ^ 64 - 1) v.toNat (by omega) (by omega)
    rw [hc] at hp ⊢
    simp only [isDig, decide_eq_true_eq] at hd
    have n1 : ¬ (c.toNat = 43 ∨ c.toNat = 45) := by omega
    have n2 : ¬ c.toNat = 45 := by omega
    have n3 : ¬ c.toNat = 43 := by omega
    simp only [parseIntB, n2, n3, or_false, if_false, parseUintB]
    rw [if_neg (by simp), hp]
    simp only [not_false_eq_true, true_and, false_and, if_false]
    rw [if_neg (by omega)]
    congr 1
    omega

/-! ### The number with a text -/
/-- the number from -10^15 to 10^15 whose numeral it is -/
def rdDec (l : List UInt8) : Option Int := if (-1000000000000000 ≤ intOfL l ∧ intOfL l ≤ 1000000000000000) ∧ itoa (intOfL l) = l then some (intOfL l) else none
theorem rdDec_of {v : Int} (h0 : -1000000000000000 ≤ v) (h1 : v ≤ 1000000000000000) : rdDec (itoa v) = some v := by
  unfold rdDec
  rw [val_itoa, if_pos ⟨⟨h0, h1⟩, rfl⟩]
theorem rdDec_some {l : List UInt8} {v : Int} (h : rdDec l = some v) : -1000000000000000 ≤ v ∧ v ≤ 1000000000000000 ∧ itoa v = l := by
  unfold rdDec at h
  split at h
  · rename_i h1
    simp only [Option.some.injEq] at h
    subst h
    exact ⟨h1.1.1, h1.1.2, h1.2⟩
  · cases h
theorem rdDec_len {l : List UInt8} (h : ¬ (1 ≤ l.length ∧ l.length ≤ 17)) : rdDec l = none := by
  cases hr : rdDec l with
  | none => rfl
  | some v =>
    obtain ⟨h0, h1, rfl⟩ := rdDec_some hr
    exact absurd (itoa_len17 v (by omega)) h
/-- the program: what ParseInt reads, where its numeral is the text -/
theorem rdDec_parse {l : List UInt8} {v : Int} (h : parseIntB 64 l = .ok v) : rdDec l = if (-1000000000000000 ≤ v ∧ v ≤ 1000000000000000) ∧ itoa v = l then some v else none := by
  by_cases hc : (-1000000000000000 ≤ v ∧ v ≤ 1000000000000000) ∧ itoa v = l
  · rw [if_pos hc, ← hc.2, rdDec_of hc.1.1 hc.1.2]
  · rw [if_neg hc]
    cases hr : rdDec l with
    | none => rfl
    | some v' =>
      obtain ⟨h0, h1, rfl⟩ := rdDec_some hr
      rw [parse_itoa v' (by omega) (by omega)] at h
      injection h with h
      subst h
      exact absurd ⟨⟨h0, h1⟩, rfl⟩ hc
theorem rdDec_bad {l : List UInt8} (h : ∀ v, parseIntB 64 l ≠ .ok v) : rdDec l = none := by
  cases hr : rdDec l with
  | none => rfl
  | some v =>
    obtain ⟨h0, h1, rfl⟩ := rdDec_some hr
    exact absurd (parse_itoa v (by omega) (by omega)) (h v)
theorem val_snoc (l : List UInt8) (k : Nat) (h : k < l.length) : valD (l.take (k + 1)) = valStep (valD (l.take k)) l[k] := by
  rw [List.take_succ_eq_append_getElem h]
  unfold valD
  rw [List.foldl_append]
  rfl
theorem val_bound (l : List UInt8) (k : Nat) : valD (l.take k) < 10 ^ k := by
  induction k with
  | zero => simp [valD]
  | succ k ih =>
    by_cases h : k < l.length
    · rw [val_snoc l k h]
      unfold valStep
      rw [Nat.pow_succ]
      split
      · rename_i hd
        simp only [isDig, decide_eq_true_eq] at hd
        omega
      · omega
    · rw [List.take_of_length_le (by omega)] at ih ⊢
      exact Nat.lt_of_lt_of_le ih (Nat.pow_le_pow_right (by omega) (by omega))
end Go.Proofs.Dc
