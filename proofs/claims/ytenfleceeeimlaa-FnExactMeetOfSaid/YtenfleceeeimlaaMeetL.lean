/-
  The arcs of two machines that are met: the plain law.
-/
import Derived.Test.YtenfleceeeimlaaMeetB
import Derived.Test.YtenfleceeeimlaaMeetC
namespace Go.Proofs.Ytenfleceeeimlaa.fnExactMeetOf
open Go.RowKit Go.Proofs.Fl Go.Proofs.Ytenfleceeeimlaa.Num
set_option linter.unusedVariables false
set_option linter.unusedSimpArgs false
/-- the arc of two arcs, if they have one letter -/
def two (zs zs' : List Int) (S' : Int) (i k : Nat) : List Int :=
  if ga zs (i * 4 + 2) = ga zs' (k * 4 + 2) then [ga zs (i * 4) * S' + ga zs' (k * 4), ga zs (i * 4 + 1) * S' + ga zs' (k * 4 + 1), ga zs (i * 4 + 2), ga zs (i * 4 + 3) + ga zs' (k * 4 + 3)] else []
def accM (zs zs' : List Int) (S' : Int) (n' a k : Nat) : List Int := ((List.range a).flatMap fun i => (List.range n').flatMap (two zs zs' S' i)) ++ (List.range k).flatMap (two zs zs' S' a)
theorem accM_zero (zs zs' : List Int) (S' : Int) (n' : Nat) : accM zs zs' S' n' 0 0 = [] := by simp [accM]
theorem accM_snoc (zs zs' : List Int) (S' : Int) (n' a k : Nat) : accM zs zs' S' n' a (k + 1) = accM zs zs' S' n' a k ++ two zs zs' S' a k := by
  unfold accM
  rw [List.range_succ, List.flatMap_append, ← List.append_assoc]
  simp
theorem accM_next (zs zs' : List Int) (S' : Int) (n' a : Nat) : accM zs zs' S' n' a n' = accM zs zs' S' n' (a + 1) 0 := by
  unfold accM
  rw [List.range_succ, List.flatMap_append]
  simp
/-- how many arcs -/
def cM (zs zs' : List Int) (S' : Int) (n' a k : Nat) : Nat := (accM zs zs' S' n' a k).length / 4
theorem two_len (zs zs' : List Int) (S' : Int) (i k : Nat) : (two zs zs' S' i k).length = 0 ∨ (two zs zs' S' i k).length = 4 := by
  unfold two
  split
  · exact .inr rfl
  · exact .inl rfl
theorem flat4 {f : Nat → List Int} (h : ∀ i, (f i).length % 4 = 0) : ∀ n, ((List.range n).flatMap f).length % 4 = 0
  | 0 => rfl
  | n + 1 => by
    have := flat4 h n
    have := h n
    rw [List.range_succ, List.flatMap_append, List.length_append, show List.flatMap f [n] = f n by simp]
    omega
theorem accM_four (zs zs' : List Int) (S' : Int) (n' a k : Nat) : (accM zs zs' S' n' a k).length = cM zs zs' S' n' a k * 4 := by
  have h0 : ∀ i k, (two zs zs' S' i k).length % 4 = 0 := fun i k => by rcases two_len zs zs' S' i k with h | h <;> omega
  have : (accM zs zs' S' n' a k).length % 4 = 0 := by
    unfold accM
    rw [List.length_append]
    have h1 := flat4 (f := fun i => (List.range n').flatMap (two zs zs' S' i)) (fun i => flat4 (h0 i) n') a
    have h2 := flat4 (h0 a) k
    omega
  unfold cM
  omega
theorem flat_le {f : Nat → List Int} {b : Nat} (h : ∀ i, (f i).length ≤ b) : ∀ n, ((List.range n).flatMap f).length ≤ n * b
  | 0 => by simp
  | n + 1 => by
    have := flat_le h n
    have := h n
    rw [List.range_succ, List.flatMap_append, List.length_append, Nat.succ_mul, show List.flatMap f [n] = f n by simp]
    omega
theorem accM_le (zs zs' : List Int) (S' : Int) (n' a k : Nat) : cM zs zs' S' n' a k ≤ a * n' + k := by
  have h0 : ∀ i k, (two zs zs' S' i k).length ≤ 4 := fun i k => by rcases two_len zs zs' S' i k with h | h <;> omega
  have h1 := flat_le (f := fun i => (List.range n').flatMap (two zs zs' S' i)) (fun i => flat_le (h0 i) n') a
  have h2 := flat_le (h0 a) k
  have h3 := accM_four zs zs' S' n' a k
  have h4 : (accM zs zs' S' n' a k).length ≤ a * (n' * 4) + k * 4 := by
    unfold accM
    rw [List.length_append]
    omega
  have h5 : a * (n' * 4) = a * n' * 4 := (Nat.mul_assoc _ _ _).symm
  omega
theorem cM_yes {zs zs' : List Int} {S' : Int} {n' a k : Nat} (h : ga zs (a * 4 + 2) = ga zs' (k * 4 + 2)) : cM zs zs' S' n' a (k + 1) = cM zs zs' S' n' a k + 1 := by
  have h1 := accM_four zs zs' S' n' a k
  have h2 := accM_four zs zs' S' n' a (k + 1)
  rw [accM_snoc, List.length_append] at h2
  have h3 : (two zs zs' S' a k).length = 4 := by unfold two; rw [if_pos h]; rfl
  omega
theorem acc_yes {zs zs' : List Int} {S' : Int} {n' a k : Nat} (h : ga zs (a * 4 + 2) = ga zs' (k * 4 + 2)) : accM zs zs' S' n' a (k + 1) = accM zs zs' S' n' a k ++ [ga zs (a * 4) * S' + ga zs' (k * 4), ga zs (a * 4 + 1) * S' + ga zs' (k * 4 + 1), ga zs (a * 4 + 2), ga zs (a * 4 + 3) + ga zs' (k * 4 + 3)] := by
  rw [accM_snoc]
  unfold two
  rw [if_pos h]
theorem acc_no {zs zs' : List Int} {S' : Int} {n' a k : Nat} (h : ¬ ga zs (a * 4 + 2) = ga zs' (k * 4 + 2)) : accM zs zs' S' n' a (k + 1) = accM zs zs' S' n' a k := by
  rw [accM_snoc]
  unfold two
  rw [if_neg h, List.append_nil]
theorem cM_no {zs zs' : List Int} {S' : Int} {n' a k : Nat} (h : ¬ ga zs (a * 4 + 2) = ga zs' (k * 4 + 2)) : cM zs zs' S' n' a (k + 1) = cM zs zs' S' n' a k := by
  unfold cM
  rw [acc_no h]
theorem cM_next (zs zs' : List Int) (S' : Int) (n' a : Nat) : cM zs zs' S' n' a n' = cM zs zs' S' n' (a + 1) 0 := by
  unfold cM
  rw [accM_next]
theorem cM_zero (zs zs' : List Int) (S' : Int) (n' : Nat) : cM zs zs' S' n' 0 0 = 0 := by
  unfold cM
  rw [accM_zero]
  rfl
theorem accP_length (xs ys : List Int) (k : Nat) (hk : k ≤ ys.length) : ∀ a, a ≤ xs.length → (accP xs ys a k).length = a * ys.length + k := by
  intro a
  induction a generalizing k with
  | zero => intro _; simp [accP, hk]
  | succ a ih =>
    intro ha
    have h0 : (accP xs ys (a + 1) 0).length = a * ys.length + ys.length := by
      rw [← accP_next xs ys a ys.length (by omega) rfl]
      exact ih ys.length (Nat.le_refl _) (by omega)
    have h1 : accP xs ys (a + 1) k = accP xs ys (a + 1) 0 ++ (ys.take k).map (pr (ga xs (a + 1))) := by simp [accP]
    rw [h1, List.length_append, h0, Nat.succ_mul]
    simp
    omega
theorem pairsOf_len (xs ys : List Int) : (pairsOf xs ys).length = xs.length * ys.length := by
  rw [← accP_all xs ys xs.length rfl]
  exact accP_length xs ys 0 (by omega) _ (Nat.le_refl _)
/-- the machine that both give: whether there is one -/
def meetOk (S L : Int) (n : Nat) (zs : List Int) (m : Nat) (xs : List Int) (q : Nat) (ys : List Int) (S' L' : Int) (n' : Nat) (zs' : List Int) (m' : Nat) (xs' : List Int) (q' : Nat) (ys' : List Int) : Bool :=
  validM (S * S') L (cM zs zs' S' n' n 0) (accM zs zs' S' n' n 0) (pairsOf xs xs').length (pairsOf xs xs') (pairsOf ys ys').length (pairsOf ys ys')
end Go.Proofs.Ytenfleceeeimlaa.fnExactMeetOf
