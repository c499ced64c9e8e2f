/-
  A search breadth first for the first place that is apart, cut to words of twelve letters at the end or on the way: the plain law, no program.
-/
namespace Go.Proofs.Bfs
set_option linter.unusedVariables false
abbrev Ent := Nat × List Int
def stepL (nx : Nat → Nat → Nat) (x : Ent) (q : List Ent) (l : Nat) : List Ent := if q.any (fun y => y.1 == nx x.1 l) then q else q ++ [(nx x.1 l, x.2 ++ [(l : Int)])]
def expand (nx : Nat → Nat → Nat) (x : Ent) (q : List Ent) : Nat → List Ent
  | 0 => q
  | k + 1 => stepL nx x (expand nx x q k) k
def pos (q : List Ent) (i : Nat) : Ent := q.getD i (0, [])
def Qs (nx : Nat → Nat → Nat) (L : Nat) : Nat → List Ent
  | 0 => [(0, [])]
  | i + 1 => expand nx (pos (Qs nx L i) i) (Qs nx L i) L
def Qi (nx : Nat → Nat → Nat) (L : Nat) : Nat → List Ent
  | 0 => [(0, [])]
  | i + 1 => if (pos (Qi nx L i) i).2.length = 12 then Qi nx L i else expand nx (pos (Qi nx L i) i) (Qi nx L i) L
theorem pos_app {q t : List Ent} {i : Nat} (h : i < q.length) : pos (q ++ t) i = pos q i := by
  unfold pos
  simp [List.getD_eq_getElem?_getD, List.getElem?_append_left h]
theorem pos_mem {q : List Ent} {i : Nat} (h : i < q.length) : pos q i ∈ q := by
  unfold pos
  simp [List.getD_eq_getElem?_getD, h]
theorem pos_right {q t : List Ent} {i : Nat} (h : q.length ≤ i) (h2 : i < (q ++ t).length) : pos (q ++ t) i ∈ t := by
  unfold pos
  rw [List.length_append] at h2
  rw [List.getD_eq_getElem?_getD, List.getElem?_append_right h, List.getElem?_eq_getElem (by omega)]
  exact List.getElem_mem _
theorem expand_app (nx : Nat → Nat → Nat) (x : Ent) (q : List Ent) : ∀ k, ∃ t, expand nx x q k = q ++ t ∧ ∀ y ∈ t, y.2.length = x.2.length + 1
  | 0 => ⟨[], by simp [expand], by simp⟩
  | k + 1 => by
    obtain ⟨t, ht, hl⟩ := expand_app nx x q k
    unfold expand stepL
    split
    · exact ⟨t, ht, hl⟩
    · refine ⟨t ++ [(nx x.1 k, x.2 ++ [(k : Int)])], by rw [ht, List.append_assoc], fun y hy => ?_⟩
      rcases List.mem_append.1 hy with h | h
      · exact hl y h
      · rw [List.mem_singleton.1 h]; simp
theorem expand_le (nx : Nat → Nat → Nat) (x : Ent) (q : List Ent) (k : Nat) : q.length ≤ (expand nx x q k).length := by
  obtain ⟨t, ht, _⟩ := expand_app nx x q k
  rw [ht]; simp
/-- the numbers of the places are different ones, below M -/
def Good (M : Nat) (q : List Ent) : Prop := (q.map (·.1)).Nodup ∧ ∀ y ∈ q, y.1 < M
theorem Good.step {M : Nat} {nx : Nat → Nat → Nat} {L : Nat} (hM : ∀ c l, c < M → l < L → nx c l < M) {x : Ent} (hx : x.1 < M) {q : List Ent} (h : Good M q) {l : Nat} (hl : l < L) : Good M (stepL nx x q l) := by
  unfold stepL
  split
  · exact h
  · rename_i hn
    refine ⟨?_, fun y hy => ?_⟩
    · rw [List.map_append, List.nodup_append]
      refine ⟨h.1, by simp, fun a ha b hb e => ?_⟩
      simp at hb
      subst hb
      subst e
      obtain ⟨y, hy, hya⟩ := List.mem_map.1 ha
      exact hn (List.any_eq_true.2 ⟨y, hy, by simpa using hya⟩)
    · rcases List.mem_append.1 hy with h' | h'
      · exact h.2 y h'
      · rw [List.mem_singleton.1 h']; exact hM _ _ hx hl
theorem Good.expand {M : Nat} {nx : Nat → Nat → Nat} {L : Nat} (hM : ∀ c l, c < M → l < L → nx c l < M) {x : Ent} (hx : x.1 < M) {q : List Ent} (h : Good M q) : ∀ k, k ≤ L → Good M (expand nx x q k)
  | 0, _ => h
  | k + 1, hk => Good.step hM hx (Good.expand hM hx h k (by omega)) (by omega)
theorem nodup_le : ∀ (M : Nat) (l : List Nat), l.Nodup → (∀ x ∈ l, x < M) → l.length ≤ M
  | 0, l, _, h => by
    cases l with
    | nil => simp
    | cons a t => exact absurd (h a (by simp)) (by omega)
  | M + 1, l, hn, h => by
    have h1 := nodup_le M (l.erase M) (hn.erase M) fun x hx => by
      have := (hn.mem_erase_iff).1 hx
      have := h x this.2
      omega
    have := List.length_erase (l := l) (a := M)
    split at this <;> omega
theorem Good.len {M : Nat} {q : List Ent} (h : Good M q) : q.length ≤ M := by
  have := nodup_le M (q.map (·.1)) h.1 fun x hx => by
    obtain ⟨y, hy, rfl⟩ := List.mem_map.1 hx
    exact h.2 y hy
  simpa using this
theorem Good.qs {M : Nat} {nx : Nat → Nat → Nat} {L : Nat} (hM : ∀ c l, c < M → l < L → nx c l < M) (h0 : 0 < M) : ∀ i, (∀ j, j < i → j < (Qs nx L j).length) → Good M (Qs nx L i)
  | 0, _ => ⟨by simp [Qs], by simp [Qs]; exact h0⟩
  | i + 1, h => by
    have hg := Good.qs hM h0 i fun j hj => h j (by omega)
    exact Good.expand hM (hg.2 _ (pos_mem (h i (by omega)))) hg L (Nat.le_refl _)
theorem Good.qi {M : Nat} {nx : Nat → Nat → Nat} {L : Nat} (hM : ∀ c l, c < M → l < L → nx c l < M) (h0 : 0 < M) : ∀ i, (∀ j, j < i → j < (Qi nx L j).length) → Good M (Qi nx L i)
  | 0, _ => ⟨by simp [Qi], by simp [Qi]; exact h0⟩
  | i + 1, h => by
    have hg := Good.qi hM h0 i fun j hj => h j (by omega)
    unfold Qi
    split
    · exact hg
    · exact Good.expand hM (hg.2 _ (pos_mem (h i (by omega)))) hg L (Nat.le_refl _)
/-- what the search that goes on to the end says -/
def AnsS (nx : Nat → Nat → Nat) (L : Nat) (ap : Nat → Bool) (r : Option (List Int)) : Prop :=
  ∃ i, (∀ j, j < i → j < (Qs nx L j).length ∧ ap (pos (Qs nx L j) j).1 = false) ∧
    ((i < (Qs nx L i).length ∧ ap (pos (Qs nx L i) i).1 = true ∧ r = if (pos (Qs nx L i) i).2.length ≤ 12 then some (pos (Qs nx L i) i).2 else none) ∨ (i = (Qs nx L i).length ∧ r = none))
/-- what the search that leaves words of twelve letters alone says -/
def AnsI (nx : Nat → Nat → Nat) (L : Nat) (ap : Nat → Bool) (r : Option (List Int)) : Prop :=
  ∃ i, (∀ j, j < i → j < (Qi nx L j).length ∧ ap (pos (Qi nx L j) j).1 = false) ∧
    ((i < (Qi nx L i).length ∧ ap (pos (Qi nx L i) i).1 = true ∧ r = some (pos (Qi nx L i) i).2) ∨ (i = (Qi nx L i).length ∧ r = none))
theorem ansS_exists {M : Nat} {nx : Nat → Nat → Nat} {L : Nat} {ap : Nat → Bool} (hM : ∀ c l, c < M → l < L → nx c l < M) (h0 : 0 < M) : ∃ r, AnsS nx L ap r := by
  suffices h : ∀ f i, M ≤ i + f → (∀ j, j < i → j < (Qs nx L j).length ∧ ap (pos (Qs nx L j) j).1 = false) → ∃ r, AnsS nx L ap r from h M 0 (by omega) (fun j hj => absurd hj (by omega))
  intro f
  induction f with
  | zero =>
    intro i hi hall
    have hg := (Good.qs (L := L) hM h0 i fun j hj => (hall j hj).1).len
    have : i ≤ (Qs nx L i).length := by
      cases i with
      | zero => omega
      | succ i => have := (hall i (by omega)).1; have := expand_le nx (pos (Qs nx L i) i) (Qs nx L i) L; unfold Qs; omega
    exact ⟨none, i, hall, .inr ⟨by omega, rfl⟩⟩
  | succ f ih =>
    intro i hi hall
    by_cases hlt : i < (Qs nx L i).length
    · by_cases ha : ap (pos (Qs nx L i) i).1 = true
      · exact ⟨_, i, hall, .inl ⟨hlt, ha, rfl⟩⟩
      · refine ih (i + 1) (by omega) fun j hj => ?_
        by_cases e : j = i
        · subst e; exact ⟨hlt, by simpa using ha⟩
        · exact hall j (by omega)
    · have : i ≤ (Qs nx L i).length := by
        cases i with
        | zero => omega
        | succ i => have := (hall i (by omega)).1; have := expand_le nx (pos (Qs nx L i) i) (Qs nx L i) L; unfold Qs; omega
      exact ⟨none, i, hall, .inr ⟨by omega, rfl⟩⟩
theorem ansS_unique {nx : Nat → Nat → Nat} {L : Nat} {ap : Nat → Bool} {r r' : Option (List Int)} (h : AnsS nx L ap r) (h' : AnsS nx L ap r') : r = r' := by
  obtain ⟨i, h1, h2⟩ := h
  obtain ⟨i', h1', h2'⟩ := h'
  have e : i = i' := by
    rcases Nat.lt_trichotomy i i' with g | g | g
    · have := h1' i g
      rcases h2 with h2 | h2
      · rw [this.2] at h2; exact absurd h2.2.1 (by simp)
      · omega
    · exact g
    · have := h1 i' g
      rcases h2' with h2 | h2
      · rw [this.2] at h2; exact absurd h2.2.1 (by simp)
      · omega
  subst e
  rcases h2 with h2 | h2 <;> rcases h2' with h2' | h2'
  · rw [h2.2.2, h2'.2.2]
  · omega
  · omega
  · rw [h2.2, h2'.2]
theorem ansI_unique {nx : Nat → Nat → Nat} {L : Nat} {ap : Nat → Bool} {r r' : Option (List Int)} (h : AnsI nx L ap r) (h' : AnsI nx L ap r') : r = r' := by
  obtain ⟨i, h1, h2⟩ := h
  obtain ⟨i', h1', h2'⟩ := h'
  have e : i = i' := by
    rcases Nat.lt_trichotomy i i' with g | g | g
    · have := h1' i g
      rcases h2 with h2 | h2
      · rw [this.2] at h2; exact absurd h2.2.1 (by simp)
      · omega
    · exact g
    · have := h1 i' g
      rcases h2' with h2 | h2
      · rw [this.2] at h2; exact absurd h2.2.1 (by simp)
      · omega
  subst e
  rcases h2 with h2 | h2 <;> rcases h2' with h2' | h2'
  · rw [h2.2.2, h2'.2.2]
  · omega
  · omega
  · rw [h2.2, h2'.2]
/-- in the order of the lengths of their words, none longer by more than one than that at i -/
def Sorted (q : List Ent) (i : Nat) : Prop := (∀ j k, j ≤ k → k < q.length → (pos q j).2.length ≤ (pos q k).2.length) ∧ (∀ k, i < q.length → k < q.length → (pos q k).2.length ≤ (pos q i).2.length + 1)
theorem Sorted.expand {nx : Nat → Nat → Nat} {L : Nat} {q : List Ent} {i : Nat} (hi : i < q.length) (h : Sorted q i) : Sorted (expand nx (pos q i) q L) (i + 1) := by
  obtain ⟨t, ht, hl⟩ := expand_app nx (pos q i) q L
  rw [ht]
  have hle : ∀ k, k < (q ++ t).length → (pos (q ++ t) k).2.length ≤ (pos q i).2.length + 1 := by
    intro k hk
    by_cases hq : k < q.length
    · rw [pos_app hq]; exact h.2 k hi hq
    · rw [hl _ (pos_right (by omega) hk)]; omega
  have hmono : ∀ j k, j ≤ k → k < (q ++ t).length → (pos (q ++ t) j).2.length ≤ (pos (q ++ t) k).2.length := by
    intro j k hjk hk
    by_cases hq : k < q.length
    · rw [pos_app hq, pos_app (by omega)]; exact h.1 j k hjk hq
    · rw [hl _ (pos_right (by omega) hk)]
      exact hle j (by omega)
  refine ⟨hmono, fun k h1 h2 => ?_⟩
  have a := hle k h2
  have b := hmono i (i + 1) (by omega) h1
  rw [pos_app hi] at b
  omega
theorem sorted_qs {nx : Nat → Nat → Nat} {L : Nat} : ∀ i, (∀ j, j < i → j < (Qs nx L j).length) → Sorted (Qs nx L i) i
  | 0, _ => ⟨fun j k hjk hk => by
      have : k = 0 := by simp [Qs] at hk; omega
      have : j = 0 := by omega
      subst_vars; exact Nat.le_refl _, fun k h1 h2 => by
      have : k = 0 := by simp [Qs] at h2; omega
      subst_vars; omega⟩
  | i + 1, h => Sorted.expand (h i (by omega)) (sorted_qs i fun j hj => h j (by omega))
theorem same_short {nx : Nat → Nat → Nat} {L : Nat} : ∀ i, (∀ j, j < i → (pos (Qs nx L j) j).2.length ≤ 11) → Qi nx L i = Qs nx L i
  | 0, _ => rfl
  | i + 1, h => by
    have e := same_short (nx := nx) (L := L) i fun j hj => h j (by omega)
    unfold Qi Qs
    rw [e, if_neg (by have := h i (by omega); omega)]
theorem short_le {nx : Nat → Nat → Nat} {L : Nat} : ∀ i, (∀ j, j < i → j < (Qs nx L j).length) → (∀ j, j < i → (pos (Qs nx L j) j).2.length ≤ 11) → ∀ y ∈ Qs nx L i, y.2.length ≤ 12
  | 0, _, _ => by simp [Qs]
  | i + 1, h1, h2 => by
    have ih := short_le i (fun j hj => h1 j (by omega)) fun j hj => h2 j (by omega)
    unfold Qs
    obtain ⟨t, ht, hl⟩ := expand_app nx (pos (Qs nx L i) i) (Qs nx L i) L
    rw [ht]
    intro y hy
    rcases List.mem_append.1 hy with h | h
    · exact ih y h
    · rw [hl y h]; have := h2 i (by omega); omega
theorem ans_same {nx : Nat → Nat → Nat} {L : Nat} {ap : Nat → Bool} {r : Option (List Int)} (h : AnsS nx L ap r) : AnsI nx L ap r := by
  obtain ⟨i, h1, h2⟩ := h
  by_cases hA : ∀ j, j < i → (pos (Qs nx L j) j).2.length ≤ 11
  · have e : ∀ j, j ≤ i → Qi nx L j = Qs nx L j := fun j hj => same_short j fun k hk => hA k (by omega)
    refine ⟨i, fun j hj => by rw [e j (by omega)]; exact h1 j hj, ?_⟩
    rw [e i (Nat.le_refl _)]
    rcases h2 with h2 | h2
    · have := short_le i (fun j hj => (h1 j hj).1) hA _ (pos_mem h2.1)
      exact .inl ⟨h2.1, h2.2.1, by rw [h2.2.2, if_pos this]⟩
    · exact .inr h2
  · -- the first place with a word of twelve letters
    have hex : ∃ k, k < i ∧ 12 ≤ (pos (Qs nx L k) k).2.length ∧ ∀ j, j < k → (pos (Qs nx L j) j).2.length ≤ 11 := by
      clear h2
      induction i with
      | zero => exact absurd (fun j hj => absurd hj (by omega)) hA
      | succ i ih =>
        by_cases hB : ∀ j, j < i → (pos (Qs nx L j) j).2.length ≤ 11
        · refine ⟨i, by omega, ?_, hB⟩
          apply Classical.byContradiction
          intro hc
          refine hA fun j hj => ?_
          by_cases e : j = i
          · subst e; omega
          · exact hB j (by omega)
        · obtain ⟨k, hk, hk2, hk3⟩ := ih (fun j hj => h1 j (by omega)) hB
          exact ⟨k, by omega, hk2, hk3⟩
    obtain ⟨k, hk, hk12, hkl⟩ := hex
    have ek : ∀ j, j ≤ k → Qi nx L j = Qs nx L j := fun j hj => same_short j fun m hm => hkl m (by omega)
    have hle := short_le k (fun j hj => (h1 j (by omega)).1) hkl
    have hsort := sorted_qs (nx := nx) (L := L) k fun j hj => (h1 j (by omega)).1
    have h12 : ∀ j, k ≤ j → j < (Qs nx L k).length → (pos (Qs nx L k) j).2.length = 12 := by
      intro j hj hjl
      have a := hle _ (pos_mem hjl)
      have b := hsort.1 k j hj hjl
      omega
    have hQi : ∀ d, k + d ≤ (Qs nx L k).length → Qi nx L (k + d) = Qs nx L k := by
      intro d
      induction d with
      | zero => intro _; exact ek k (Nat.le_refl _)
      | succ d ih =>
        intro hd
        have e := ih (by omega)
        show Qi nx L (k + d + 1) = _
        unfold Qi
        rw [e, if_pos (h12 _ (by omega) (by omega))]
    have hQs : ∀ d, k + d ≤ i → ∃ t, Qs nx L (k + d) = Qs nx L k ++ t ∧ ∀ y ∈ t, 13 ≤ y.2.length := by
      intro d
      induction d with
      | zero => intro _; exact ⟨[], by simp, by simp⟩
      | succ d ih =>
        intro hd
        obtain ⟨t, ht, hl⟩ := ih (by omega)
        obtain ⟨t2, ht2, hl2⟩ := expand_app nx (pos (Qs nx L (k + d)) (k + d)) (Qs nx L (k + d)) L
        have hlen : 12 ≤ (pos (Qs nx L (k + d)) (k + d)).2.length := by
          have hin := (h1 (k + d) (by omega)).1
          by_cases hq : k + d < (Qs nx L k).length
          · rw [ht, pos_app hq]; have := h12 _ (by omega) hq; omega
          · rw [ht] at hin ⊢
            have := hl _ (pos_right (by omega) hin)
            omega
        refine ⟨t ++ t2, ?_, fun y hy => ?_⟩
        · show expand nx (pos (Qs nx L (k + d)) (k + d)) (Qs nx L (k + d)) L = _
          rw [ht2, ht, List.append_assoc]
        · rcases List.mem_append.1 hy with h | h
          · exact hl y h
          · rw [hl2 y h]; omega
    have hkq : k < (Qs nx L k).length := (h1 k hk).1
    have hbefore : ∀ j, j < i → j < (Qs nx L k).length → j < (Qi nx L j).length ∧ ap (pos (Qi nx L j) j).1 = false := by
      intro j hj hjl
      have a := h1 j hj
      by_cases hjk : j ≤ k
      · rw [ek j hjk]; exact a
      · obtain ⟨d, rfl⟩ : ∃ d, j = k + d := ⟨j - k, by omega⟩
        obtain ⟨t, ht, _⟩ := hQs d (by omega)
        rw [hQi d (by omega)]
        rw [ht, pos_app hjl] at a
        exact ⟨hjl, a.2⟩
    obtain ⟨d, rfl⟩ : ∃ d, i = k + d := ⟨i - k, by omega⟩
    obtain ⟨t, ht, hl⟩ := hQs d (Nat.le_refl _)
    by_cases hi : k + d < (Qs nx L k).length
    · refine ⟨k + d, fun j hj => hbefore j hj (by omega), ?_⟩
      rw [hQi d (by omega)]
      rcases h2 with h2 | h2
      · rw [ht, pos_app hi] at h2
        exact .inl ⟨hi, h2.2.1, by rw [h2.2.2, if_pos (by rw [h12 _ (by omega) hi]; omega)]⟩
      · rw [ht, List.length_append] at h2; omega
    · refine ⟨(Qs nx L k).length, fun j hj => hbefore j (by omega) hj, .inr ?_⟩
      obtain ⟨d', hd'⟩ : ∃ d', (Qs nx L k).length = k + d' := ⟨(Qs nx L k).length - k, by omega⟩
      refine ⟨?_, ?_⟩
      · have e := hQi d' (by omega)
        rw [← hd'] at e
        rw [e]
      · rcases h2 with h2 | h2
        · have hin := h2.1
          rw [ht] at hin
          have := hl _ (pos_right (by omega) hin)
          rw [h2.2.2, ht, if_neg (by omega)]
        · exact h2.2
end Go.Proofs.Bfs
