/-
  Classes of states by rounds: behind as many rounds as there are states, states of one class have the same end and lead to states of one class. The plain law, no program.
-/
namespace Go.Proofs.Cls
set_option linter.unusedVariables false
abbrev Key := List Nat
def idxK (ks : List Key) (k : Key) : Nat := ks.findIdx (· == k)
def addK (ks : List Key) (k : Key) : List Key := if ks.contains k then ks else ks ++ [k]
def key (to : Nat → Nat → Nat) (L : Nat) (c : Nat → Nat) (i : Nat) : Key := c i :: (List.range L).map fun l => c (to i l)
def ksOf (to : Nat → Nat → Nat) (L : Nat) (c : Nat → Nat) : Nat → List Key
  | 0 => []
  | i + 1 => addK (ksOf to L c i) (key to L c i)
def rnd (to : Nat → Nat → Nat) (L : Nat) (c : Nat → Nat) (i : Nat) : Nat := idxK (ksOf to L c i) (key to L c i)
def cls (en : Nat → Bool) (to : Nat → Nat → Nat) (L : Nat) : Nat → Nat → Nat
  | 0 => fun i => if en i then 1 else 0
  | r + 1 => rnd to L (cls en to L r)
theorem idxK_mem {ks : List Key} {k : Key} (h : k ∈ ks) : idxK ks k < ks.length := List.findIdx_lt_length_of_exists ⟨k, h, by simp⟩
theorem idxK_not {ks : List Key} {k : Key} (h : k ∉ ks) : idxK ks k = ks.length := by
  unfold idxK
  rw [List.findIdx_eq_length]
  intro x hx
  simp
  intro e
  subst e
  exact h hx
theorem idxK_get {ks : List Key} {k : Key} (h : k ∈ ks) : ks[idxK ks k]'(idxK_mem h) = k := by
  have := List.findIdx_getElem (xs := ks) (p := (· == k)) (w := idxK_mem h)
  exact eq_of_beq this
theorem idxK_inj {ks : List Key} {k k' : Key} (h : k ∈ ks) (h' : k' ∈ ks) (e : idxK ks k = idxK ks k') : k = k' := by
  rw [← idxK_get h, ← idxK_get h']
  simp [e]
theorem idxK_app {ks t : List Key} {k : Key} (h : k ∈ ks) : idxK (ks ++ t) k = idxK ks k := by
  unfold idxK
  rw [List.findIdx_append, if_pos (show List.findIdx (· == k) ks < ks.length from idxK_mem h)]
theorem addK_mem {ks : List Key} {k : Key} : k ∈ addK ks k := by
  unfold addK
  split
  · rename_i h; simpa using h
  · simp
theorem addK_app (ks : List Key) (k : Key) : ∃ t, addK ks k = ks ++ t := by
  unfold addK
  split
  · exact ⟨[], by simp⟩
  · exact ⟨[k], rfl⟩
theorem idxK_add (ks : List Key) (k : Key) : idxK (addK ks k) k = idxK ks k := by
  unfold addK
  split
  · rfl
  · rename_i h
    have hn : k ∉ ks := by simpa using h
    rw [idxK_not hn]
    unfold idxK
    rw [List.findIdx_append, if_neg]
    · simp
    · have := idxK_not hn
      unfold idxK at this
      omega
section
variable {to : Nat → Nat → Nat} {L : Nat}
theorem ksOf_app (c : Nat → Nat) (i d : Nat) : ∃ t, ksOf to L c (i + d) = ksOf to L c i ++ t := by
  induction d with
  | zero => exact ⟨[], by simp⟩
  | succ d ih =>
    obtain ⟨t, ht⟩ := ih
    obtain ⟨t2, ht2⟩ := addK_app (ksOf to L c (i + d)) (key to L c (i + d))
    exact ⟨t ++ t2, by show addK (ksOf to L c (i + d)) (key to L c (i + d)) = _; rw [ht2, ht, List.append_assoc]⟩
theorem rnd_last (c : Nat → Nat) {i n : Nat} (h : i < n) : key to L c i ∈ ksOf to L c n ∧ rnd to L c i = idxK (ksOf to L c n) (key to L c i) := by
  obtain ⟨d, rfl⟩ : ∃ d, n = (i + 1) + d := ⟨n - (i + 1), by omega⟩
  obtain ⟨t, ht⟩ := ksOf_app (to := to) (L := L) c (i + 1) d
  have hm : key to L c i ∈ ksOf to L c (i + 1) := addK_mem
  rw [ht]
  refine ⟨List.mem_append_left _ hm, ?_⟩
  rw [idxK_app hm]
  exact (idxK_add _ _).symm
theorem rnd_iff (c : Nat → Nat) (i j : Nat) : rnd to L c i = rnd to L c j ↔ key to L c i = key to L c j := by
  have a := rnd_last (to := to) (L := L) c (show i < i + j + 1 by omega)
  have b := rnd_last (to := to) (L := L) c (show j < i + j + 1 by omega)
  refine ⟨fun h => ?_, fun h => ?_⟩
  · rw [a.2, b.2] at h
    exact idxK_inj a.1 b.1 h
  · rw [a.2, b.2, h]
theorem key_iff (c : Nat → Nat) (i j : Nat) : key to L c i = key to L c j ↔ c i = c j ∧ ∀ l, l < L → c (to i l) = c (to j l) := by
  unfold key
  rw [List.cons.injEq]
  refine and_congr Iff.rfl ⟨fun h l hl => ?_, fun h => ?_⟩
  · exact List.map_inj_left.1 h l (by simpa using hl)
  · exact List.map_inj_left.2 fun l hl => h l (by simpa using hl)
theorem rnd_same (c : Nat → Nat) (i j : Nat) : rnd to L c i = rnd to L c j ↔ c i = c j ∧ ∀ l, l < L → c (to i l) = c (to j l) := (rnd_iff c i j).trans (key_iff c i j)
end
/-- no earlier one has the same class -/
def isF (c : Nat → Nat) (i : Nat) : Bool := (List.range i).all fun j => c j != c i
theorem isF_iff {c : Nat → Nat} {i : Nat} : isF c i = true ↔ ∀ j, j < i → c j ≠ c i := by
  unfold isF
  simp
def cnt (n : Nat) (c : Nat → Nat) : Nat := (List.range n).countP (isF c)
theorem countP_eq {α : Type} {p q : α → Bool} : ∀ (l : List α), (∀ x ∈ l, p x = true → q x = true) → l.countP p ≤ l.countP q ∧ (l.countP p = l.countP q → ∀ x ∈ l, q x = true → p x = true)
  | [], _ => ⟨by simp, by simp⟩
  | a :: t, h => by
    have ih := countP_eq t fun x hx => h x (by simp [hx])
    have ha := h a (by simp)
    rw [List.countP_cons, List.countP_cons]
    refine ⟨?_, fun e x hx hq => ?_⟩
    · by_cases hp : p a = true
      · rw [if_pos hp, if_pos (ha hp)]; omega
      · rw [if_neg hp]; split <;> omega
    · by_cases hp : p a = true
      · rw [if_pos hp, if_pos (ha hp)] at e
        rcases List.mem_cons.1 hx with rfl | hx
        · exact hp
        · exact ih.2 (by omega) x hx hq
      · rw [if_neg hp] at e
        by_cases hqa : q a = true
        · rw [if_pos hqa] at e; omega
        · rw [if_neg hqa] at e
          rcases List.mem_cons.1 hx with rfl | hx
          · exact absurd hq hqa
          · exact ih.2 (by omega) x hx hq
/-- d tells apart whatever c tells apart -/
def Fine (n : Nat) (c d : Nat → Nat) : Prop := ∀ i j, i < n → j < n → d i = d j → c i = c j
theorem rep (c : Nat → Nat) : ∀ i, ∃ r, r ≤ i ∧ c r = c i ∧ isF c r = true := by
  intro i
  induction i using Nat.strongRecOn with
  | ind i ih =>
    by_cases h : isF c i = true
    · exact ⟨i, Nat.le_refl _, rfl, h⟩
    · have : ∃ j, j < i ∧ c j = c i := by
        apply Classical.byContradiction
        intro hc
        exact h (isF_iff.2 fun j hj e => hc ⟨j, hj, e⟩)
      obtain ⟨j, hj, e⟩ := this
      obtain ⟨r, hr, hr2, hr3⟩ := ih j hj
      exact ⟨r, by omega, hr2.trans e, hr3⟩
theorem cnt_mono {n : Nat} {c d : Nat → Nat} (h : Fine n c d) : cnt n c ≤ cnt n d ∧ (cnt n c = cnt n d → Fine n d c) := by
  have hk := countP_eq (p := isF c) (q := isF d) (List.range n) fun x hx hp => isF_iff.2 fun j hj e => by
    have hx : x < n := by simpa using hx
    exact isF_iff.1 hp j hj (h j x (by omega) hx e)
  refine ⟨hk.1, fun e i j hi hj hc => ?_⟩
  obtain ⟨a, ha, ha2, ha3⟩ := rep d i
  obtain ⟨b, hb, hb2, hb3⟩ := rep d j
  have fa := isF_iff.1 (hk.2 e a (by simp; omega) ha3)
  have fb := isF_iff.1 (hk.2 e b (by simp; omega) hb3)
  have ca : c a = c i := h a i (by omega) hi ha2
  have cb : c b = c j := h b j (by omega) hj hb2
  have : a = b := by
    rcases Nat.lt_trichotomy a b with g | g | g
    · exact absurd (ca.trans (hc.trans cb.symm)) (fb a g)
    · exact g
    · exact absurd (cb.trans (hc.symm.trans ca.symm)) (fa b g)
  rw [← ha2, ← hb2, this]
theorem cnt_le (n : Nat) (c : Nat → Nat) : cnt n c ≤ n := by
  unfold cnt
  have := List.countP_le_length (p := isF c) (l := List.range n)
  simpa using this
theorem cnt_pos {n : Nat} (c : Nat → Nat) (h : 0 < n) : 0 < cnt n c := by
  unfold cnt
  rw [List.countP_pos_iff]
  exact ⟨0, by simp [h], by simp [isF]⟩
section
variable {en : Nat → Bool} {to : Nat → Nat → Nat} {L n : Nat}
theorem fine_rnd (c : Nat → Nat) : Fine n c (rnd to L c) := fun i j _ _ h => ((rnd_same c i j).1 h).1
theorem settled (hto : ∀ i l, i < n → l < L → to i l < n) {c : Nat → Nat} (h : Fine n (rnd to L c) c) : Fine n (rnd to L (rnd to L c)) (rnd to L c) := by
  intro i j hi hj e
  refine (rnd_same _ i j).2 ⟨e, fun l hl => ?_⟩
  exact h _ _ (hto i l hi hl) (hto j l hj hl) (((rnd_same c i j).1 e).2 l hl)
theorem settled_from (hto : ∀ i l, i < n → l < L → to i l < n) {k : Nat} (h : Fine n (cls en to L (k + 1)) (cls en to L k)) : ∀ d, Fine n (cls en to L (k + d + 1)) (cls en to L (k + d))
  | 0 => h
  | d + 1 => settled hto (settled_from hto h d)
/-- behind as many rounds as there are states nothing new is told apart -/
theorem settled_all (hto : ∀ i l, i < n → l < L → to i l < n) (hn : 0 < n) : Fine n (cls en to L n) (cls en to L (n - 1)) := by
  apply Classical.byContradiction
  intro hc
  have grow : ∀ k, k ≤ n - 1 → cnt n (cls en to L k) < cnt n (cls en to L (k + 1)) := by
    intro k hk
    apply Classical.byContradiction
    intro hg
    have hm := cnt_mono (fine_rnd (n := n) (to := to) (L := L) (cls en to L k))
    have hs : Fine n (cls en to L (k + 1)) (cls en to L k) := hm.2 (Nat.le_antisymm hm.1 (by simpa [cls] using hg))
    have := settled_from hto hs (n - 1 - k)
    rw [show k + (n - 1 - k) = n - 1 by omega, show n - 1 + 1 = n by omega] at this
    exact hc this
  have : ∀ k, k ≤ n → k + 1 ≤ cnt n (cls en to L k) := by
    intro k
    induction k with
    | zero => intro _; have := cnt_pos (cls en to L 0) hn; omega
    | succ k ih => intro hk; have := ih (by omega); have := grow k (by omega); omega
  have a := this n (Nat.le_refl _)
  have b := cnt_le n (cls en to L n)
  omega
theorem same_to (hto : ∀ i l, i < n → l < L → to i l < n) (hn : 0 < n) {i j : Nat} (hi : i < n) (hj : j < n) (h : cls en to L n i = cls en to L n j) {l : Nat} (hl : l < L) : cls en to L n (to i l) = cls en to L n (to j l) := by
  obtain ⟨m, rfl⟩ : ∃ m, n = m + 1 := ⟨n - 1, by omega⟩
  have hs := settled_all (en := en) hto hn
  exact hs _ _ (hto i l hi hl) (hto j l hj hl) (((rnd_same (cls en to L m) i j).1 h).2 l hl)
theorem same_end {i j : Nat} : ∀ {r}, cls en to L r i = cls en to L r j → en i = en j
  | 0, h => by
    unfold cls at h
    cases hi : en i <;> cases hj : en j <;> simp [hi, hj] at h <;> rfl
  | r + 1, h => same_end ((rnd_same (cls en to L r) i j).1 h).1
theorem ksOf_len (c : Nat → Nat) : ∀ i, (ksOf to L c i).length ≤ i
  | 0 => Nat.le_refl _
  | i + 1 => by
    have := ksOf_len c i
    unfold ksOf addK
    split
    · omega
    · simp; omega
/-- a class's number is below the states' number -/
theorem cls_lt (hn : 1 < n) {i : Nat} (hi : i < n) : ∀ r, cls en to L r i < n
  | 0 => by unfold cls; split <;> omega
  | r + 1 => by
    have a := rnd_last (to := to) (L := L) (cls en to L r) hi
    have := idxK_mem a.1
    have := ksOf_len (to := to) (L := L) (cls en to L r) n
    show rnd to L (cls en to L r) i < n
    omega
theorem cls_lt_succ {i : Nat} (hi : i < n) (r : Nat) : cls en to L (r + 1) i < n := by
  have a := rnd_last (to := to) (L := L) (cls en to L r) hi
  have := idxK_mem a.1
  have := ksOf_len (to := to) (L := L) (cls en to L r) n
  show rnd to L (cls en to L r) i < n
  omega
end
end Go.Proofs.Cls
