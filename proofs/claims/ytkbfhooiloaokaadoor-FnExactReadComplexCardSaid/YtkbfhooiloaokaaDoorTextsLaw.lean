/-
  Texts with commas between them, as plain functions on lists of bytes; what bounds their length. Over no program.
-/
import Derived.Lib.Join
import Derived.Below
namespace Go.Proofs.Tx
open Go Go.Lib

def none4 : List UInt8 := [110, 111, 110, 101]
/-- texts with commas between them, "none" if there are none -/
def textJ (ts : List (List UInt8)) : List UInt8 := if ts = [] then none4 else join ts [44]
/-- the first k + 1 of them -/
def headJ (ts : List (List UInt8)) (k : Nat) : List UInt8 := join (ts.take (k + 1)) [44]
theorem headJ_zero (t : List UInt8) (ts : List (List UInt8)) : headJ (t :: ts) 0 = t := by unfold headJ; exact join_one t [44]
theorem headJ_succ (ts : List (List UInt8)) (k : Nat) (t : List UInt8) (h : ts[k + 1]? = some t) : headJ ts (k + 1) = headJ ts k ++ (44 :: t) := by
  cases ts with
  | nil => simp at h
  | cons x r =>
    unfold headJ
    rw [List.take_succ_cons, List.take_succ_cons, join_cons, join_cons, joinTail_take_succ [44] r k t (by simpa using h)]
    simp
theorem headJ_all (ts : List (List UInt8)) (k : Nat) (h : ts.length ≤ k + 1) (hne : ts ≠ []) : headJ ts k = textJ ts := by
  unfold headJ textJ
  rw [List.take_of_length_le h, if_neg hne]
theorem lens_le (m : Nat) (ts : List (List UInt8)) (h : ∀ t ∈ ts, t.length ≤ m) : lens ts ≤ m * ts.length := by
  induction ts with
  | nil => simp [lens]
  | cons t r ih =>
    have h1 := ih fun u hu => h u (by simp [hu])
    have h2 := h t (by simp)
    simp only [lens, List.map_cons, List.sum_cons, List.length_cons] at h1 ⊢
    rw [Nat.mul_succ]
    omega
theorem join_le (m : Nat) (ts : List (List UInt8)) (h : ∀ t ∈ ts, t.length ≤ m) : (join ts [44]).length ≤ (m + 1) * ts.length := by
  cases ts with
  | nil => simp [join_nil]
  | cons t r =>
    rw [join_length]
    have := lens_le m (t :: r) h
    simp only [List.length_cons, List.length_nil] at this ⊢
    have e : (m + 1) * (r.length + 1) = m * (r.length + 1) + (r.length + 1) := Nat.succ_mul _ _
    omega
theorem headJ_le (m : Nat) (ts : List (List UInt8)) (k : Nat) (h : ∀ t ∈ ts, t.length ≤ m) : (headJ ts k).length ≤ (m + 1) * ts.length := by
  have h1 := join_le m (ts.take (k + 1)) fun t ht => h t (List.mem_of_mem_take ht)
  have h2 : (m + 1) * (ts.take (k + 1)).length ≤ (m + 1) * ts.length := Nat.mul_le_mul_left _ (by rw [List.length_take]; omega)
  unfold headJ
  omega
theorem mk_append (a b : List UInt8) : (⟨a.toArray⟩ : ByteArray) ++ ⟨b.toArray⟩ = ⟨(a ++ b).toArray⟩ := by
  apply ByteArray.ext
  rw [ByteArray.data_append]
  simp
/-- texts as values -/
def strs (ts : List (List UInt8)) : List Value := ts.map fun t => .string ⟨t.toArray⟩
theorem strs_length (ts : List (List UInt8)) : (strs ts).length = ts.length := by simp [strs]
end Go.Proofs.Tx
