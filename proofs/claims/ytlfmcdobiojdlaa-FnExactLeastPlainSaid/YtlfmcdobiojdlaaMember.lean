/-
  The smallest machine: classes, members, what leads where.
-/
import Derived.Test.YtlfmcdobiojdlaaClsSpec
import Derived.Test.YtlfmcdobiojdlaaExplKeys
namespace Go.Proofs.Ytlfmcdobiojdlaa.fnExactLeastPlain
open Go.RowKit Go.Proofs.Fl Go.Proofs.Ytlfmcdobiojdlaa.Num Go.Proofs.Cls
open Go.Proofs.Ytlfmcdobiojdlaa.fnExactApartWord (Pl toN idx_lt)
set_option linter.unusedVariables false
set_option linter.unusedSimpArgs false
theorem onto (tz : Nat → Nat → Nat) (L : Nat) (c : Nat → Nat) : ∀ n v, v < (ksOf tz L c n).length → ∃ i, i < n ∧ rnd tz L c i = v
  | 0, v, h => absurd h (by simp [ksOf])
  | n + 1, v, h => by
    by_cases hc : (ksOf tz L c n).contains (key tz L c n) = true
    · have e : ksOf tz L c (n + 1) = ksOf tz L c n := by show addK _ _ = _; unfold addK; rw [if_pos hc]
      rw [e] at h
      obtain ⟨i, hi, hr⟩ := onto tz L c n v h
      exact ⟨i, by omega, hr⟩
    · have e : ksOf tz L c (n + 1) = ksOf tz L c n ++ [key tz L c n] := by show addK _ _ = _; unfold addK; rw [if_neg hc]
      rw [e, List.length_append, List.length_singleton] at h
      by_cases hv : v < (ksOf tz L c n).length
      · obtain ⟨i, hi, hr⟩ := onto tz L c n v hv
        exact ⟨i, by omega, hr⟩
      · refine ⟨n, by omega, ?_⟩
        have hn : key tz L c n ∉ ksOf tz L c n := fun hm => hc (List.contains_iff_mem.2 hm)
        have := idxK_not hn
        show idxK (ksOf tz L c n) (key tz L c n) = v
        omega
section
variable {s l n : Nat} {xs : List Int} {m : Nat} {bs : List Bool}
/-- the class of a state -/
def clF (xs : List Int) (bs : List Bool) (s l i : Nat) : Nat := cls (enL bs) (toN xs l) l s i
/-- how many classes there are -/
def nCl (xs : List Int) (bs : List Bool) (s l : Nat) : Nat := (ksOf (toN xs l) l (cls (enL bs) (toN xs l) l (s - 1)) s).length
def memF (xs : List Int) (bs : List Bool) (s l c : Nat) : Nat := (clsL xs bs s l s).findIdx (· == c)
def nxL (xs : List Int) (bs : List Bool) (s l c k : Nat) : Nat := clF xs bs s l (toN xs l (memF xs bs s l c) k)
def enC (xs : List Int) (bs : List Bool) (s l c : Nat) : Bool := enL bs (memF xs bs s l c)
theorem cl_lt (h : Pl s l n xs m bs) {i : Nat} (hi : i < s) : clF xs bs s l i < nCl xs bs s l := by
  obtain ⟨r, rfl⟩ : ∃ r, s = r + 1 := ⟨s - 1, by have := h.s1; omega⟩
  have a := @rnd_last (toN xs l) l (cls (enL bs) (toN xs l) l r) i (r + 1) hi
  exact (show clF xs bs (r + 1) l i = _ from a.2) ▸ idxK_mem a.1
theorem nCl_le (xs : List Int) (bs : List Bool) (s l : Nat) : nCl xs bs s l ≤ s := ksOf_len _ s
theorem nCl_pos (h : Pl s l n xs m bs) : 0 < nCl xs bs s l := Nat.lt_of_le_of_lt (Nat.zero_le _) (cl_lt h (show 0 < s from h.s1))
theorem mem_spec (h : Pl s l n xs m bs) {c : Nat} (hc : c < nCl xs bs s l) : memF xs bs s l c < s ∧ clF xs bs s l (memF xs bs s l c) = c := by
  obtain ⟨r, rfl⟩ : ∃ r, s = r + 1 := ⟨s - 1, by have := h.s1; omega⟩
  obtain ⟨i, hi, hr⟩ := onto (toN xs l) l (cls (enL bs) (toN xs l) l r) (r + 1) c hc
  have hm : c ∈ clsL xs bs (r + 1) l (r + 1) := List.mem_map.2 ⟨i, List.mem_range.2 hi, hr⟩
  have h1 : memF xs bs (r + 1) l c < (clsL xs bs (r + 1) l (r + 1)).length := List.findIdx_lt_length_of_exists ⟨c, hm, by simp⟩
  have h2 := List.findIdx_getElem (xs := clsL xs bs (r + 1) l (r + 1)) (p := (· == c)) (w := h1)
  rw [clsL_len] at h1
  refine ⟨h1, ?_⟩
  have h3 := clsL_get xs bs (r + 1) l (r + 1) h1
  have h4 := eq_of_beq h2
  rw [List.getElem?_eq_getElem (by rw [clsL_len]; exact h1)] at h3
  have h5 := Option.some.inj h3
  exact h5.symm.trans h4
theorem to_lt (h : Pl s l n xs m bs) {i k : Nat} (hi : i < s) (hk : k < l) : toN xs l i k < s := by
  obtain ⟨v, hv, _, e⟩ := h.to hi hk
  omega
theorem nxL_lt (h : Pl s l n xs m bs) {c k : Nat} (hc : c < nCl xs bs s l) (hk : k < l) : nxL xs bs s l c k < nCl xs bs s l := cl_lt h (to_lt h (mem_spec h hc).1 hk)
/-- any state of a class tells where the class leads -/
theorem nxL_of (h : Pl s l n xs m bs) {c i k : Nat} (hi : i < s) (hc : clF xs bs s l i = c) (hk : k < l) : clF xs bs s l (toN xs l i k) = nxL xs bs s l c k := by
  have hcl : c < nCl xs bs s l := hc ▸ cl_lt h hi
  obtain ⟨m1, m2⟩ := mem_spec h hcl
  exact same_to (fun i k hi hk => to_lt h hi hk) h.s1 hi m1 (hc.trans m2.symm) hk
theorem enC_of (h : Pl s l n xs m bs) {c i : Nat} (hi : i < s) (hc : clF xs bs s l i = c) : enL bs i = enC xs bs s l c := by
  have hcl : c < nCl xs bs s l := hc ▸ cl_lt h hi
  obtain ⟨m1, m2⟩ := mem_spec h hcl
  exact same_end (hc.trans m2.symm)
end
end Go.Proofs.Ytlfmcdobiojdlaa.fnExactLeastPlain
