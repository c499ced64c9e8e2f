/-
  States found from a first one on, numbered as they are found: the plain law, no program.
-/
namespace Go.Proofs.Exp
set_option linter.unusedVariables false
/-- the place of a state, or the place behind the last one -/
def idx (q : List Nat) (c : Nat) : Nat := q.findIdx (· == c)
def addQ (q : List Nat) (c : Nat) : List Nat := if q.contains c then q else q ++ [c]
theorem idx_of_mem {q : List Nat} {c : Nat} (h : q.contains c = true) : idx q c < q.length := List.findIdx_lt_length_of_exists (by simpa using h)
theorem idx_not_mem {q : List Nat} {c : Nat} (h : q.contains c = false) : idx q c = q.length := by
  unfold idx
  rw [List.findIdx_eq_length]
  intro x hx
  simp at h ⊢
  intro e
  subst e
  exact h hx
/-- the states and the numbers told, behind k letters of state c -/
def adds (nx : Nat → Nat → Nat) (c : Nat) (q : List Nat) : Nat → List Nat
  | 0 => q
  | k + 1 => addQ (adds nx c q k) (nx c k)
def tells (nx : Nat → Nat → Nat) (c : Nat) (q : List Nat) : Nat → List Int
  | 0 => []
  | k + 1 => tells nx c q k ++ [(idx (adds nx c q k) (nx c k) : Int)]
def at_ (q : List Nat) (i : Nat) : Nat := q.getD i 0
def Q (nx : Nat → Nat → Nat) (L c0 : Nat) : Nat → List Nat
  | 0 => [c0]
  | i + 1 => adds nx (at_ (Q nx L c0 i) i) (Q nx L c0 i) L
def N (nx : Nat → Nat → Nat) (L c0 : Nat) : Nat → List Int
  | 0 => []
  | i + 1 => N nx L c0 i ++ tells nx (at_ (Q nx L c0 i) i) (Q nx L c0 i) L
def D (nx : Nat → Nat → Nat) (en : Nat → Bool) (L c0 : Nat) : Nat → List Bool
  | 0 => []
  | i + 1 => D nx en L c0 i ++ [en (at_ (Q nx L c0 i) i)]
theorem addQ_le (q : List Nat) (c : Nat) : q.length ≤ (addQ q c).length ∧ (addQ q c).length ≤ q.length + 1 := by
  unfold addQ
  split <;> simp
theorem adds_le (nx : Nat → Nat → Nat) (c : Nat) (q : List Nat) : ∀ k, q.length ≤ (adds nx c q k).length ∧ (adds nx c q k).length ≤ q.length + k
  | 0 => ⟨Nat.le_refl _, Nat.le_refl _⟩
  | k + 1 => by
    have h := adds_le nx c q k
    have g := addQ_le (adds nx c q k) (nx c k)
    exact ⟨Nat.le_trans h.1 g.1, by unfold adds; omega⟩
theorem tells_len (nx : Nat → Nat → Nat) (c : Nat) (q : List Nat) : ∀ k, (tells nx c q k).length = k
  | 0 => rfl
  | k + 1 => by simp [tells, tells_len nx c q k]
theorem N_len (nx : Nat → Nat → Nat) (L c0 : Nat) : ∀ i, (N nx L c0 i).length = i * L
  | 0 => by simp [N]
  | i + 1 => by simp [N, N_len nx L c0 i, tells_len, Nat.succ_mul]
theorem D_len (nx : Nat → Nat → Nat) (en : Nat → Bool) (L c0 : Nat) : ∀ i, (D nx en L c0 i).length = i
  | 0 => rfl
  | i + 1 => by simp [D, D_len nx en L c0 i]
theorem addQ_mem {q : List Nat} {c x : Nat} (h : x ∈ addQ q c) : x ∈ q ∨ x = c := by
  unfold addQ at h
  split at h
  · exact .inl h
  · simpa using h
theorem adds_mem {nx : Nat → Nat → Nat} {c : Nat} {q : List Nat} {x : Nat} : ∀ {k}, x ∈ adds nx c q k → x ∈ q ∨ ∃ l, l < k ∧ x = nx c l
  | 0, h => .inl h
  | k + 1, h => by
    rcases addQ_mem h with h | h
    · rcases adds_mem h with h | ⟨l, hl, e⟩
      · exact .inl h
      · exact .inr ⟨l, by omega, e⟩
    · exact .inr ⟨k, by omega, h⟩
theorem adds_app (nx : Nat → Nat → Nat) (c : Nat) (q : List Nat) : ∀ k, ∃ t, adds nx c q k = q ++ t
  | 0 => ⟨[], by simp [adds]⟩
  | k + 1 => by
    obtain ⟨t, ht⟩ := adds_app nx c q k
    unfold adds addQ
    split
    · exact ⟨t, ht⟩
    · exact ⟨t ++ [nx c k], by rw [ht, List.append_assoc]⟩
theorem at_mem {q : List Nat} {i : Nat} (h : i < q.length) : at_ q i ∈ q := by
  unfold at_
  rw [List.getD_eq_getElem?_getD, List.getElem?_eq_getElem h]
  exact List.getElem_mem _
theorem at_app {q t : List Nat} {i : Nat} (h : i < q.length) : at_ (q ++ t) i = at_ q i := by
  unfold at_
  simp [List.getD_eq_getElem?_getD, List.getElem?_append_left h]
theorem adds_at (nx : Nat → Nat → Nat) (c : Nat) (q : List Nat) (k : Nat) {i : Nat} (h : i < q.length) : at_ (adds nx c q k) i = at_ q i := by
  obtain ⟨t, ht⟩ := adds_app nx c q k
  rw [ht, at_app h]
/-- all states found are below M -/
theorem Q_lt {nx : Nat → Nat → Nat} {L c0 M : Nat} (h0 : c0 < M) (hM : ∀ c l, c < M → l < L → nx c l < M) : ∀ i, (∀ j, j < i → j < (Q nx L c0 j).length) → ∀ x ∈ Q nx L c0 i, x < M
  | 0, _ => by simp [Q]; exact h0
  | i + 1, h => by
    intro x hx
    have ih := Q_lt h0 hM i fun j hj => h j (by omega)
    rcases adds_mem (show x ∈ adds nx (at_ (Q nx L c0 i) i) (Q nx L c0 i) L from hx) with h1 | ⟨l, hl, rfl⟩
    · exact ih x h1
    · exact hM _ _ (ih _ (at_mem (h i (by omega)))) hl
theorem addQ_nodup {q : List Nat} {c : Nat} (h : q.Nodup) : (addQ q c).Nodup := by
  unfold addQ
  split
  · exact h
  · rename_i hn
    rw [List.nodup_append]
    refine ⟨h, by simp, fun a ha b hb e => ?_⟩
    simp at hb
    subst hb
    subst e
    exact hn (by simpa using ha)
theorem adds_nodup {nx : Nat → Nat → Nat} {c : Nat} {q : List Nat} (h : q.Nodup) : ∀ k, (adds nx c q k).Nodup
  | 0 => h
  | k + 1 => addQ_nodup (adds_nodup h k)
theorem Q_nodup (nx : Nat → Nat → Nat) (L c0 : Nat) : ∀ i, (Q nx L c0 i).Nodup
  | 0 => by simp [Q]
  | i + 1 => adds_nodup (Q_nodup nx L c0 i) L
theorem nodup_le : ∀ (M : Nat) (l : List Nat), l.Nodup → (∀ x ∈ l, x < M) → l.length ≤ M
  | 0, l, _, h => by
    cases l with
    | nil => simp
    | cons a t => exact absurd (h a (by simp)) (by omega)
  | M + 1, l, hn, h => by
    have h1 := nodup_le M (l.erase M) (hn.erase M) fun x hx => by
      have := (hn.mem_erase_iff).1 hx
      have := h x this.2
      omega
    have := List.length_erase (l := l) (a := M)
    split at this <;> omega
theorem Q_len {nx : Nat → Nat → Nat} {L c0 M : Nat} (h0 : c0 < M) (hM : ∀ c l, c < M → l < L → nx c l < M) (i : Nat) (h : ∀ j, j < i → j < (Q nx L c0 j).length) : (Q nx L c0 i).length ≤ M :=
  nodup_le M _ (Q_nodup nx L c0 i) (Q_lt h0 hM i h)
/-- what is told: the states' number, the numbers told, the ends; none if there are too many states -/
def Ans (nx : Nat → Nat → Nat) (en : Nat → Bool) (L c0 : Nat) (r : Option (Nat × List Int × List Bool)) : Prop :=
  ∃ i, (∀ j, j < i → j < (Q nx L c0 j).length ∧ (Q nx L c0 j).length ≤ 64) ∧
    ((i < (Q nx L c0 i).length ∧ 64 < (Q nx L c0 i).length ∧ r = none) ∨ (i = (Q nx L c0 i).length ∧ i ≤ 64 ∧ r = some (i, N nx L c0 i, D nx en L c0 i)))
theorem Q_ge {nx : Nat → Nat → Nat} {L c0 : Nat} : ∀ i, (∀ j, j < i → j < (Q nx L c0 j).length) → i ≤ (Q nx L c0 i).length
  | 0, _ => by omega
  | i + 1, h => by
    have := h i (by omega)
    have := (adds_le nx (at_ (Q nx L c0 i) i) (Q nx L c0 i) L).1
    show i + 1 ≤ (adds nx (at_ (Q nx L c0 i) i) (Q nx L c0 i) L).length
    omega
theorem ans_exists (nx : Nat → Nat → Nat) (en : Nat → Bool) (L c0 : Nat) : ∃ r, Ans nx en L c0 r := by
  suffices h : ∀ f i, 65 ≤ i + f → i ≤ 65 → (∀ j, j < i → j < (Q nx L c0 j).length ∧ (Q nx L c0 j).length ≤ 64) → ∃ r, Ans nx en L c0 r from h 65 0 (by omega) (by omega) (fun j hj => absurd hj (by omega))
  intro f
  induction f with
  | zero =>
    intro i h1 h2 hall
    have e : i = 65 := by omega
    subst e
    have := hall 64 (by omega)
    omega
  | succ f ih =>
    intro i h1 h2 hall
    have hge := Q_ge (nx := nx) (L := L) (c0 := c0) i fun j hj => (hall j hj).1
    by_cases hb : (Q nx L c0 i).length ≤ 64
    · by_cases hlt : i < (Q nx L c0 i).length
      · exact ih (i + 1) (by omega) (by omega) fun j hj => by
          by_cases e : j = i
          · subst e; exact ⟨hlt, hb⟩
          · exact hall j (by omega)
      · exact ⟨_, i, hall, .inr ⟨by omega, by omega, rfl⟩⟩
    · have : i < (Q nx L c0 i).length := by
        apply Classical.byContradiction
        intro hc
        have hi : 0 < i := by omega
        have := hall (i - 1) (by omega)
        omega
      exact ⟨none, i, hall, .inl ⟨this, by omega, rfl⟩⟩
theorem ans_unique {nx : Nat → Nat → Nat} {en : Nat → Bool} {L c0 : Nat} {r r' : Option (Nat × List Int × List Bool)} (h : Ans nx en L c0 r) (h' : Ans nx en L c0 r') : r = r' := by
  obtain ⟨i, h1, h2⟩ := h
  obtain ⟨i', h1', h2'⟩ := h'
  have e : i = i' := by
    rcases Nat.lt_trichotomy i i' with g | g | g
    · have := h1' i g
      rcases h2 with h2 | h2 <;> omega
    · exact g
    · have := h1 i' g
      rcases h2' with h2 | h2 <;> omega
  subst e
  rcases h2 with h2 | h2 <;> rcases h2' with h2' | h2'
  · rw [h2.2.2, h2'.2.2]
  · omega
  · omega
  · rw [h2.2.2, h2'.2.2]
end Go.Proofs.Exp
