/-
  States found and numbered, kept in a map and in a list: what the program's explore holds.
-/
import Derived.Test.YtlfmcdobiojdlaaOutP
import Derived.Test.YtlfmcdobiojdlaaPairKey
namespace Go.Proofs.Ytlfmcdobiojdlaa.Num
open Go.RowKit Go.Proofs.Fl Go.Proofs.Exp
open Go.Proofs.Ytlfmcdobiojdlaa.fnExactApartWord (pairV pair_inj pair_key own_row_ge PairAt)
set_option linter.unusedVariables false
set_option linter.unusedSimpArgs false
/-- the map of the states' numbers -/
def kvN (ky : Nat → Value) (q : List Nat) : List (Value × Value) := (List.range q.length).map fun i => (ky (at_ q i), Value.int .i64 (i : Int))
theorem kvN_snoc (ky : Nat → Value) (q : List Nat) (c : Nat) : kvN ky q ++ [(ky c, Value.int .i64 (q.length : Int))] = kvN ky (q ++ [c]) := by
  unfold kvN
  rw [List.length_append, List.length_singleton, List.range_succ, List.map_append]
  congr 1
  · exact List.map_congr_left fun i hi => by rw [at_app (List.mem_range.1 hi)]
  · have : at_ (q ++ [c]) q.length = c := by unfold at_; simp [List.getD_eq_getElem?_getD]
    simp [this]
theorem kvN_no {ky : Nat → Value} {q : List Nat} {c : Nat} (hinj : ∀ a ∈ q, ky a = ky c → a = c) (h : q.contains c = false) : ∀ p ∈ kvN ky q, p.1 ≠ ky c := by
  intro p hp e
  obtain ⟨i, hi, rfl⟩ := List.mem_map.1 hp
  have hm := at_mem (List.mem_range.1 hi)
  have := hinj _ hm e
  rw [List.contains_eq_mem, decide_eq_false_iff_not] at h
  exact h (by rw [← this]; exact hm)
theorem at_idx {q : List Nat} {c : Nat} (h : q.contains c = true) : at_ q (idx q c) = c := by
  have h1 := idx_of_mem h
  have h2 := List.findIdx_getElem (xs := q) (p := (· == c)) (w := h1)
  unfold at_
  rw [List.getD_eq_getElem?_getD, List.getElem?_eq_getElem h1]
  exact eq_of_beq h2
theorem kvN_yes {ky : Nat → Value} {q : List Nat} {c : Nat} (h : q.contains c = true) : (ky c, Value.int .i64 (idx q c : Int)) ∈ kvN ky q :=
  List.mem_map.2 ⟨idx q c, List.mem_range.2 (idx_of_mem h), by rw [at_idx h]⟩
theorem nodup_at {q : List Nat} (h : q.Nodup) {i j : Nat} (hi : i < q.length) (hj : j < q.length) (e : at_ q i = at_ q j) : i = j := by
  unfold at_ at e
  rw [List.getD_eq_getElem?_getD, List.getD_eq_getElem?_getD, List.getElem?_eq_getElem hi, List.getElem?_eq_getElem hj] at e
  have hp := List.pairwise_iff_getElem.1 h
  rcases Nat.lt_trichotomy i j with g | g | g
  · exact absurd e (hp i j hi hj g)
  · exact g
  · exact absurd e.symm (hp j i hj hi g)
theorem kvN_uni {ky : Nat → Value} {q : List Nat} {c : Nat} (hn : q.Nodup) (hinj : ∀ a ∈ q, ky a = ky c → a = c) (h : q.contains c = true) : ∀ p ∈ kvN ky q, p.1 = ky c → p.2 = Value.int .i64 (idx q c : Int) := by
  intro p hp e
  obtain ⟨i, hi, rfl⟩ := List.mem_map.1 hp
  have hm := at_mem (List.mem_range.1 hi)
  have h1 := hinj _ hm e
  have h2 : i = idx q c := nodup_at hn (List.mem_range.1 hi) (idx_of_mem h) (by rw [h1, at_idx h])
  rw [h2]
/-- a pair told by one number -/
def kyP (s' c : Nat) : Value := pairV ((c / s' : Nat) : Int) ((c % s' : Nat) : Int)
theorem kyP_inj {s' a c : Nat} (h : kyP s' a = kyP s' c) : a = c := by
  obtain ⟨h1, h2⟩ := pair_inj h
  rw [← Nat.div_add_mod a s', ← Nat.div_add_mod c s', show a / s' = c / s' by omega, show a % s' = c % s' by omega]
theorem kyP_key {s' c : Nat} (h : c < 4611686018427387904) : ∃ l, keyOf Try.prog 65 (kyP s' c) = some l := by
  have h2 := Nat.div_le_self c s'
  have h3 := Nat.mod_le c s'
  unfold kyP
  generalize c / s' = X at *
  generalize c % s' = Y at *
  exact pair_key _ _ (by omega) (by omega)
theorem kvP_keys {s' : Nat} {q : List Nat} (h : ∀ c ∈ q, c < 4611686018427387904) : KeysOk Try.prog 65 (kvN (kyP s') q) := by
  intro p hp
  obtain ⟨i, hi, rfl⟩ := List.mem_map.1 hp
  exact kyP_key (h _ (at_mem (List.mem_range.1 hi)))
/-- the list of the pairs found -/
structure RowP (wr : World) (base gp cp s' : Nat) (q : List Nat) (vs : List Value) : Prop where
  row : wr.ownsRow base 65 2 (.slice (some ⟨gp, 0, none⟩) q.length cp) q.length vs
  each : ∀ j, j < q.length → vs[j * 2]? = some (.int .i64 ((at_ q j / s' : Nat) : Int)) ∧ vs[j * 2 + 1]? = some (.int .i64 ((at_ q j % s' : Nat) : Int))
theorem RowP.kept {wr w' : World} {base gp cp s' : Nat} {q : List Nat} {vs : List Value} (h : RowP wr base gp cp s' q vs) (hk : w'.heap[gp]? = wr.heap[gp]?) : RowP w' base gp cp s' q vs := ⟨own_keep h.row hk, h.each⟩
theorem RowP.step {wr w' : World} {base gp cp s' : Nat} {q : List Nat} {vs : List Value} (h : RowP wr base gp cp s' q vs) (hb : Below wr.heap.size wr w') : RowP w' base gp cp s' q vs := h.kept (hb.block _ (own_lt h.row))
theorem RowP.cells {wr : World} {base gp cp s' : Nat} {q : List Nat} {vs : List Value} (h : RowP wr base gp cp s' q vs) {j : Nat} (hj : j < q.length) :
    wr.cell? ⟨gp, j * 2, none⟩ = some (.int .i64 ((at_ q j / s' : Nat) : Int)) ∧ wr.cell? ⟨gp, j * 2 + 1, none⟩ = some (.int .i64 ((at_ q j % s' : Nat) : Int)) := by
  obtain ⟨h1, h2⟩ := h.each j hj
  exact ⟨by rw [World.ownsRow.cellAt h.row _ (by omega)]; exact h1, by rw [World.ownsRow.cellAt h.row _ (by omega)]; exact h2⟩
theorem RowP.add {wr w' : World} {base gp cp gp' cp' s' c : Nat} {q : List Nat} {vs : List Value} (h : RowP wr base gp cp s' q vs) (ho : w'.ownsRow base 65 2 (.slice (some ⟨gp', 0, none⟩) (q.length + 1) cp') (q.length + 1) (vs ++ [.int .i64 ((c / s' : Nat) : Int), .int .i64 ((c % s' : Nat) : Int)])) :
    RowP w' base gp' cp' s' (q ++ [c]) (vs ++ [.int .i64 ((c / s' : Nat) : Int), .int .i64 ((c % s' : Nat) : Int)]) := by
  have hv : vs.length = q.length * 2 := h.row.1
  refine ⟨by simpa using ho, fun j hj => ?_⟩
  by_cases hj2 : j < q.length
  · obtain ⟨h1, h2⟩ := h.each j hj2
    rw [at_app hj2]
    exact ⟨by rw [List.getElem?_append_left (by omega)]; exact h1, by rw [List.getElem?_append_left (by omega)]; exact h2⟩
  · have hje : j = q.length := by simp at hj; omega
    subst hje
    have : at_ (q ++ [c]) q.length = c := by unfold at_; simp [List.getD_eq_getElem?_getD]
    rw [this]
    exact ⟨by rw [List.getElem?_append_right (by omega), hv]; simp, by rw [List.getElem?_append_right (by omega), hv, show q.length * 2 + 1 - q.length * 2 = 1 by omega]; simp⟩
theorem rowP_start (w : World) (s' : Nat) {base : Nat} (hb : base ≤ w.heap.size) : RowP (w.alloc (.cells #[.int .i64 0, .int .i64 0] 65)) base w.heap.size 1 s' [0] [.int .i64 0, .int .i64 0] :=
  ⟨⟨by simp, .inr ⟨w.heap.size, 1, #[.int .i64 0, .int .i64 0], rfl, hb, heap_alloc_new _ _, Nat.le_refl _, by simp [maxLen], by simp, by simp⟩⟩, fun j hj => by
    have hj0 : j = 0 := by simp at hj; exact hj
    subst hj0
    simp [at_]⟩
theorem _root_.Go.Proofs.Ytlfmcdobiojdlaa.fnExactApartWord.PairAt.same {w w' : World} {b : Nat} {v1 v2 : Value} (h : PairAt w b v1 v2) (k : w'.heap[b]? = w.heap[b]?) : PairAt w' b v1 v2 :=
  ⟨(World.cell?_of_block k).trans h.c0, (World.cell?_of_block k).trans h.c1, fun o => (World.frozen?_of_block k).trans (h.fr o), by
    have h1 := h.lt
    rcases Nat.lt_or_ge b w'.heap.size with g | g
    · exact g
    · rw [Array.getElem?_eq_none g, Array.getElem?_eq_getElem h1] at k; cases k⟩
/-- the keys of whole numbers -/
def kyI (c : Nat) : Value := .int .i64 (c : Int)
theorem kyI_inj {a c : Nat} (h : kyI a = kyI c) : a = c := by
  unfold kyI at h
  injection h with _ h
  omega
theorem pair2_info : (Try.prog.info? 65).map (fun i => (i.zero, i.size, i.bytes)) = some (some (Value.agg #[.int .i64 0, .int .i64 0]), 2, 16) := by kernel_rfl
end Go.Proofs.Ytlfmcdobiojdlaa.Num
