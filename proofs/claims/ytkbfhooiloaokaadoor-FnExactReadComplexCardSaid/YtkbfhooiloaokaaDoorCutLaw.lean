/-
  A text cut at its commas, as plain functions on lists of bytes: the library's way (cut at the first instance, again and again) and byte by byte. Over no program.
-/
import Derived.Lib.SplitLaws
namespace Go.Proofs.Tx
open Go Go.Lib

def glue (b : UInt8) : List (List UInt8) → List (List UInt8)
  | [] => [[b]]
  | x :: r => (b :: x) :: r
def cut : List UInt8 → List (List UInt8)
  | [] => [[]]
  | b :: l => if b = 44 then [] :: cut l else glue b (cut l)
theorem glue_ne (b : UInt8) (x : List (List UInt8)) : glue b x ≠ [] := by cases x <;> simp [glue]
theorem cut_ne (l : List UInt8) : cut l ≠ [] := by
  cases l with
  | nil => simp [cut]
  | cons b l =>
    unfold cut
    split
    · simp
    · exact glue_ne _ _
theorem splitK_cons (b : UInt8) (h : b ≠ 44) (k : Nat) (l : List UInt8) : splitK [44] 0 k (b :: l) = glue b (splitK [44] 0 k l) := by
  have hp : ([44] : List UInt8).isPrefixOf (b :: l) = false := by simp [List.isPrefixOf, Ne.symm h]
  have hix : index (b :: l) [44] = if index l [44] == -1 then -1 else index l [44] + 1 := by rw [index, hp]; simp
  cases k with
  | zero => rfl
  | succ k =>
    unfold splitK
    by_cases hm : index l [44] = -1
    · have h1 : (index (b :: l) [44] == -1) = true := by rw [hix, if_pos (beq_iff_eq.2 hm)]; rfl
      have h2 : (index l [44] == -1) = true := beq_iff_eq.2 hm
      rw [if_pos h1, if_pos h2]
      rfl
    · have hge := index_ge l [44]
      obtain ⟨j, hj⟩ : ∃ j : Nat, index l [44] = j := ⟨(index l [44]).toNat, by omega⟩
      have hix' : index (b :: l) [44] = ((j + 1 : Nat) : Int) := by rw [hix, if_neg (fun e => hm (beq_iff_eq.1 e)), hj]; omega
      rw [if_neg (by rw [hix']; simp; omega), if_neg (by rw [hj]; simp), hix', hj]
      simp [glue]
theorem split_cut (l : List UInt8) : splitK [44] 0 (count l [44]) l = cut l := by
  induction l with
  | nil => rw [count_one]; rfl
  | cons b l ih =>
    by_cases h : b = 44
    · subst h
      have hix : index (44 :: l) [44] = 0 := by rw [index]; simp [List.isPrefixOf]
      rw [count_cons_eq, Nat.add_comm, splitK, if_neg (by rw [hix]; decide), hix]
      simp only [cut, if_true]
      rw [← ih]
      rfl
    · rw [count_cons_ne b 44 l h, splitK_cons b h, ih]
      simp only [cut, if_neg h]
theorem glue_append (b : UInt8) (x y : List (List UInt8)) (h : x ≠ []) : glue b (x ++ y) = glue b x ++ y := by
  cases x with
  | nil => exact absurd rfl h
  | cons => rfl
theorem cut_sep (l : List UInt8) : cut (l ++ [44]) = cut l ++ [[]] := by
  induction l with
  | nil => rfl
  | cons b l ih =>
    simp only [List.cons_append, cut, ih]
    split
    · rfl
    · exact glue_append _ _ _ (cut_ne l)
theorem cut_more (b : UInt8) (hb : b ≠ 44) (l : List UInt8) : ∀ (xs : List (List UInt8)) (y : List UInt8), cut l = xs ++ [y] → cut (l ++ [b]) = xs ++ [y ++ [b]] := by
  induction l with
  | nil =>
    intro xs y h
    cases xs with
    | nil =>
      simp only [cut, List.nil_append, List.cons.injEq, and_true] at h
      subst h
      simp [cut, hb, glue]
    | cons x xs => simp [cut] at h
  | cons a l ih =>
    intro xs y h
    by_cases ha : a = 44
    · simp only [cut, ha, if_true] at h
      simp only [List.cons_append, cut, ha, if_true]
      cases xs with
      | nil => simp at h; exact absurd h.2 (cut_ne l)
      | cons x xs =>
        simp only [List.cons_append, List.cons.injEq] at h
        rw [← h.1, ih xs y h.2]
        rfl
    · simp only [cut, ha, if_false] at h
      simp only [List.cons_append, cut, ha, if_false]
      cases hc : cut l with
      | nil => exact absurd hc (cut_ne l)
      | cons z r =>
        rw [hc] at h
        simp only [glue] at h
        cases xs with
        | nil =>
          simp only [List.nil_append, List.cons.injEq] at h
          obtain ⟨h1, h2⟩ := h
          subst h1 h2
          rw [ih [] z (by rw [hc]; rfl)]
          rfl
        | cons x xs =>
          simp only [List.cons_append, List.cons.injEq] at h
          obtain ⟨h1, h2⟩ := h
          subst h1
          rw [ih (z :: xs) y (by rw [hc, h2]; rfl)]
          rfl
/-- what the reference holds behind i bytes: whole pieces, and where the last one begins -/
def CutInv (l : List UInt8) (i : Nat) (out : List (List UInt8)) (f : Nat) : Prop := f ≤ i ∧ i ≤ l.length ∧ cut (l.take i) = out ++ [(l.take i).drop f]
theorem CutInv.start (l : List UInt8) : CutInv l 0 [] 0 := ⟨Nat.le_refl _, Nat.zero_le _, rfl⟩
theorem CutInv.sep {l : List UInt8} {i f : Nat} {out : List (List UInt8)} (h : CutInv l i out f) (hi : i < l.length) (hs : l[i] = 44) : CutInv l (i + 1) (out ++ [(l.take i).drop f]) (i + 1) := by
  refine ⟨Nat.le_refl _, hi, ?_⟩
  rw [List.take_succ_eq_append_getElem hi, hs, cut_sep, h.2.2, List.drop_of_length_le (l := l.take i ++ [44]) (by simp; omega)]
theorem CutInv.more {l : List UInt8} {i f : Nat} {out : List (List UInt8)} (h : CutInv l i out f) (hi : i < l.length) (hs : l[i] ≠ 44) : CutInv l (i + 1) out f := by
  refine ⟨Nat.le_succ_of_le h.1, hi, ?_⟩
  rw [List.take_succ_eq_append_getElem hi, cut_more _ hs _ _ _ h.2.2, List.drop_append_of_le_length (by rw [List.length_take]; have := h.1; omega)]
theorem CutInv.done {l : List UInt8} {f : Nat} {out : List (List UInt8)} (h : CutInv l l.length out f) : cut l = out ++ [(l.take l.length).drop f] := by
  have := h.2.2
  rwa [List.take_of_length_le (Nat.le_refl _)] at this ⊢
theorem cut_len (l : List UInt8) : (cut l).length ≤ l.length + 1 := by
  induction l with
  | nil => simp [cut]
  | cons b l ih =>
    unfold cut
    split
    · simp; exact ih
    · cases h : cut l with
      | nil => simp [glue]
      | cons x r => rw [h] at ih; simp [glue] at ih ⊢; omega

/-! ### Pieces that are all read, or not -/
section
variable {α : Type} (rd : List UInt8 → Option α) (d : α)
def okAll (ps : List (List UInt8)) : Bool := ps.all fun p => (rd p).isSome
def vals (ps : List (List UInt8)) : List α := ps.map fun p => (rd p).getD d
theorem vals_length (ps : List (List UInt8)) : (vals rd d ps).length = ps.length := by simp [vals]
theorem okAll_take {ps : List (List UInt8)} {k : Nat} (hk : k < ps.length) (h : okAll rd (ps.take k) = true) {v : α} (hv : rd ps[k] = some v) : okAll rd (ps.take (k + 1)) = true ∧ vals rd d (ps.take (k + 1)) = vals rd d (ps.take k) ++ [v] := by
  unfold okAll vals at *
  rw [List.take_succ_eq_append_getElem hk, List.all_append, h, List.map_append]
  simp [hv]
theorem okAll_bad {ps : List (List UInt8)} {k : Nat} (hk : k < ps.length) (hv : rd ps[k] = none) : okAll rd ps = false := by
  unfold okAll
  rw [List.all_eq_false]
  exact ⟨ps[k], List.getElem_mem hk, by simp [hv]⟩
end
end Go.Proofs.Tx
