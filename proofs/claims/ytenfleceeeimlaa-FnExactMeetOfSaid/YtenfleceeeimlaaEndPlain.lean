/-
  The least costs to ends: the plain law (two words for 'far' tell the same costs).
-/
import Derived.Test.YtenfleceeeimlaaBackImpl
namespace Go.Proofs.Ytenfleceeeimlaa.fnExactEndCosts
open Go.RowKit Go.Proofs.Fl Go.Proofs.Ytenfleceeeimlaa.Num
set_option linter.unusedVariables false
set_option linter.unusedSimpArgs false
theorem ga_set (xs : List Int) (i j : Nat) (v : Int) (h : i < xs.length) : ga (xs.set i v) j = if i = j then v else ga xs j := by
  unfold ga
  rw [List.getD_eq_getElem?_getD, List.getD_eq_getElem?_getD, List.getElem?_set]
  by_cases e : i = j
  · subst e; simp [h]
  · simp [e]
theorem ga_map (f : Int → Int) (xs : List Int) (j : Nat) (h : j < xs.length) : ga (xs.map f) j = f (ga xs j) := by
  unfold ga
  simp [List.getD_eq_getElem?_getD, h]
/-- the arcs of a valid machine -/
def ArcsIn (zs : List Int) (n q : Nat) : Prop := ∀ i, i < n → 0 ≤ ga zs (i * 4) ∧ ga zs (i * 4) < q ∧ 0 ≤ ga zs (i * 4 + 1) ∧ ga zs (i * 4 + 1) < q ∧ 0 ≤ ga zs (i * 4 + 3) ∧ ga zs (i * 4 + 3) ≤ 1000
def initE (F : Int) (ys : List Int) : List Int := ys.map fun y => if y < 0 then F else y
def fromA (zs : List Int) (i : Nat) : Nat := (ga zs (i * 4)).toNat
def toA (zs : List Int) (i : Nat) : Nat := (ga zs (i * 4 + 1)).toNat
def relax1 (zs : List Int) (i : Nat) (xs : List Int) : List Int := xs.set (fromA zs i) (min (ga xs (fromA zs i)) (ga zs (i * 4 + 3) + ga xs (toA zs i)))
def relaxA (zs : List Int) : Nat → List Int → List Int
  | 0, xs => xs
  | i + 1, xs => relax1 zs i (relaxA zs i xs)
def relaxR (zs : List Int) (n : Nat) : Nat → List Int → List Int
  | 0, xs => xs
  | k + 1, xs => relaxA zs n (relaxR zs n k xs)
def toldE (F : Int) (xs : List Int) : List Int := xs.map fun x => if F ≤ x then -1 else x
def endsOf (F : Int) (zs : List Int) (n : Nat) (ys : List Int) : List Int := toldE F (relaxR zs n ys.length (initE F ys))
theorem initE_len (F : Int) (ys : List Int) : (initE F ys).length = ys.length := by simp [initE]
theorem relax1_len (zs : List Int) (i : Nat) (xs : List Int) : (relax1 zs i xs).length = xs.length := by simp [relax1]
theorem relaxA_len (zs : List Int) (xs : List Int) : ∀ i, (relaxA zs i xs).length = xs.length
  | 0 => rfl
  | i + 1 => (relax1_len _ _ _).trans (relaxA_len zs xs i)
theorem relaxR_len (zs : List Int) (n : Nat) (xs : List Int) : ∀ k, (relaxR zs n k xs).length = xs.length
  | 0 => rfl
  | k + 1 => (relaxA_len _ _ _).trans (relaxR_len zs n xs k)
theorem endsOf_len (F : Int) (zs : List Int) (n : Nat) (ys : List Int) : (endsOf F zs n ys).length = ys.length := by simp [endsOf, toldE, relaxR_len, initE_len]
/-- all lie between 0 and far -/
def InF (F : Int) (xs : List Int) : Prop := ∀ j, j < xs.length → 0 ≤ ga xs j ∧ ga xs j ≤ F
theorem InF.init {F : Int} {ys : List Int} (hF : 1000 ≤ F) (h : ∀ j, j < ys.length → ga ys j ≤ 1000) : InF F (initE F ys) := by
  intro j hj
  rw [initE_len] at hj
  unfold initE
  rw [ga_map _ _ _ hj]
  have := h j hj
  split <;> omega
theorem InF.relax1 {F : Int} {zs : List Int} {n i : Nat} {xs : List Int} (ha : ArcsIn zs n xs.length) (hi : i < n) (h : InF F xs) : InF F (relax1 zs i xs) := by
  intro j hj
  rw [relax1_len] at hj
  obtain ⟨a0, a1, a2, a3, a4, a5⟩ := ha i hi
  have hf : fromA zs i < xs.length := by unfold fromA; omega
  have ht : toA zs i < xs.length := by unfold toA; omega
  have h1 := h _ hf
  have h2 := h _ ht
  have h3 := h j hj
  unfold fnExactEndCosts.relax1
  rw [ga_set _ _ _ _ hf]
  split <;> omega
theorem InF.relaxA {F : Int} {zs : List Int} {n : Nat} {xs : List Int} (ha : ArcsIn zs n xs.length) (h : InF F xs) : ∀ i, i ≤ n → InF F (relaxA zs i xs)
  | 0, _ => h
  | i + 1, hi => InF.relax1 (n := n) (by rw [relaxA_len]; exact ha) hi (InF.relaxA ha h i (by omega))
theorem InF.relaxR {F : Int} {zs : List Int} {n : Nat} {xs : List Int} (ha : ArcsIn zs n xs.length) (h : InF F xs) : ∀ k, InF F (relaxR zs n k xs)
  | 0 => h
  | k + 1 => InF.relaxA (by rw [relaxR_len]; exact ha) (InF.relaxR ha h k) n (Nat.le_refl _)
/-- two lists of costs, alike but for the word for 'far' -/
def Rl (F G b : Int) (x y : List Int) : Prop := x.length = y.length ∧ ∀ j, j < x.length → (ga x j = F ∧ ga y j = G) ∨ (ga x j = ga y j ∧ 0 ≤ ga x j ∧ ga x j ≤ b)
theorem Rl.mono {F G b c : Int} {x y : List Int} (h : Rl F G b x y) (hb : b ≤ c) : Rl F G c x y := ⟨h.1, fun j hj => by have := h.2 j hj; omega⟩
theorem Rl.init {F G : Int} {ys : List Int} (h : ∀ j, j < ys.length → ga ys j ≤ 1000) : Rl F G 1000 (initE F ys) (initE G ys) := by
  refine ⟨by rw [initE_len, initE_len], fun j hj => ?_⟩
  rw [initE_len] at hj
  unfold initE
  rw [ga_map _ _ _ hj, ga_map _ _ _ hj]
  have := h j hj
  by_cases h0 : ga ys j < 0
  · rw [if_pos h0, if_pos h0]; exact .inl ⟨rfl, rfl⟩
  · rw [if_neg h0, if_neg h0]; exact .inr ⟨rfl, by omega, this⟩
theorem Rl.relax1 {F G b : Int} {zs : List Int} {n i : Nat} {x y : List Int} (ha : ArcsIn zs n x.length) (hi : i < n) (hb : b + 1000 ≤ F) (hFG : F ≤ G) (h : Rl F G b x y) : Rl F G (b + 1000) (relax1 zs i x) (relax1 zs i y) := by
  refine ⟨by rw [relax1_len, relax1_len]; exact h.1, fun j hj => ?_⟩
  rw [relax1_len] at hj
  obtain ⟨a0, a1, a2, a3, a4, a5⟩ := ha i hi
  have hf : fromA zs i < x.length := by unfold fromA; omega
  have ht : toA zs i < x.length := by unfold toA; omega
  have h1 := h.2 _ hf
  have h2 := h.2 _ ht
  have h3 := h.2 j hj
  unfold fnExactEndCosts.relax1
  rw [ga_set _ _ _ _ hf, ga_set _ _ _ _ (by rw [← h.1]; exact hf)]
  split <;> omega
theorem Rl.relaxA {F G b : Int} {zs : List Int} {n : Nat} {x y : List Int} (ha : ArcsIn zs n x.length) (hFG : F ≤ G) (h : Rl F G b x y) : ∀ i, i ≤ n → b + 1000 * i ≤ F → Rl F G (b + 1000 * i) (relaxA zs i x) (relaxA zs i y)
  | 0, _, _ => h.mono (by omega)
  | i + 1, hi, hb => (Rl.relax1 (n := n) (by rw [relaxA_len]; exact ha) hi (by omega) hFG (Rl.relaxA ha hFG h i (by omega) (by omega))).mono (by omega)
theorem Rl.relaxR {F G b : Int} {zs : List Int} {n : Nat} {x y : List Int} (ha : ArcsIn zs n x.length) (hn : n ≤ 128) (hFG : F ≤ G) (h : Rl F G b x y) : ∀ k : Nat, b + 128000 * k ≤ F → Rl F G (b + 128000 * k) (relaxR zs n k x) (relaxR zs n k y)
  | 0, _ => h.mono (by omega)
  | k + 1, hb => (Rl.relaxA (by rw [relaxR_len]; exact ha) hFG (Rl.relaxR ha hn hFG h k (by omega)) n (Nat.le_refl _) (by omega)).mono (by omega)
theorem ends_same {F G : Int} {zs : List Int} {n : Nat} {ys : List Int} (ha : ArcsIn zs n ys.length) (hy : ∀ j, j < ys.length → ga ys j ≤ 1000) (hn : n ≤ 128) (hq : ys.length ≤ 16) (hF : 3000000 ≤ F) (hFG : F ≤ G) : endsOf F zs n ys = endsOf G zs n ys := by
  have h := Rl.relaxR (F := F) (G := G) (b := 1000) (n := n) (by rw [initE_len]; exact ha) hn hFG (Rl.init (F := F) (G := G) hy) ys.length (by omega)
  have hl := endsOf_len F zs n ys
  have hl2 := endsOf_len G zs n ys
  apply List.ext_getElem (by rw [hl, hl2])
  intro j h1 h2
  rw [← ga_get h1, ← ga_get h2]
  have hx : j < (relaxR zs n ys.length (initE F ys)).length := by rw [relaxR_len, initE_len]; omega
  have hy : j < (relaxR zs n ys.length (initE G ys)).length := by rw [relaxR_len, initE_len]; omega
  unfold endsOf toldE
  rw [ga_map _ _ _ hx, ga_map _ _ _ hy]
  rcases h.2 j hx with ⟨e1, e2⟩ | ⟨e1, e2, e3⟩
  · rw [e1, e2, if_pos (by omega), if_pos (by omega)]
  · rw [← e1, if_neg (by omega), if_neg (by omega)]
theorem arcsOk_at {S L : Int} {zs : List Int} : ∀ {n i : Nat}, arcsOk S L zs n = true → i < n → arcOk S L zs i = true
  | 0, _, _, hi => by omega
  | n + 1, i, h, hi => by
    unfold arcsOk at h
    rw [Bool.and_eq_true] at h
    by_cases e : i = n
    · subst e; exact h.2
    · exact arcsOk_at h.1 (by omega)
theorem allIn_ga {xs : List Int} {lo hi : Int} (h : allIn xs lo hi = true) : ∀ j, j < xs.length → lo ≤ ga xs j ∧ ga xs j ≤ hi := by
  intro j hj
  unfold allIn at h
  have := List.all_eq_true.1 h xs[j] (List.getElem_mem hj)
  rw [ga_get hj]
  exact inB_iff this
theorem valid_ends {S L : Int} {n : Nat} {zs : List Int} {m : Nat} {xs : List Int} {q : Nat} {ys : List Int} (hq : ys.length = q) (h : validM S L n zs m xs q ys = true) : ArcsIn zs n q ∧ (∀ j, j < q → ga ys j ≤ 1000) ∧ n ≤ 128 ∧ q ≤ 16 ∧ 1 ≤ q ∧ (q : Int) = S := by
  unfold validM marksOk at h
  simp only [Bool.and_eq_true, decide_eq_true_eq] at h
  obtain ⟨⟨⟨⟨⟨h1, h2⟩, h3⟩, h4⟩, _⟩, h5, h6⟩ := h
  have hS := inB_iff h1
  refine ⟨fun i hi => ?_, fun j hj => (allIn_ga h5 j (by omega)).2, h3, by omega, by omega, h6⟩
  have ha := arcsOk_at h4 hi
  unfold arcOk at ha
  simp only [Bool.and_eq_true] at ha
  have a := inB_iff ha.1.1.1
  have b := inB_iff ha.1.1.2
  have d := inB_iff ha.2
  omega
end Go.Proofs.Ytenfleceeeimlaa.fnExactEndCosts
