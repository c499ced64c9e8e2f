/-
  A point of the unit circle, as both texts compute it: its numbers, and their bounds. Over no program.
-/
import Derived.Test.YtmehbfcmmffhmaaSineAll
import Derived.Test.YtmehbfcmmffhmaaAngN
namespace Go.Proofs.Fl
open Go Ieee Go.RowKit
/-- the bound of the fraction behind j rounds -/
def phB : Nat → Nat
  | 0 => 4607182418800017408
  | 1 => 4604930618986332160
  | 2 => 4602678819172646912
  | 3 => 4598175219545276416
  | _ => 0
theorem Mg_phB_all : (List.range 5).all (fun j => Fl.Mg D (phB j) == (4 - j) * Fl.Mg D C025) = true := by decide +kernel
theorem Mg_phB {j : Nat} (h : j ≤ 4) : Fl.Mg D (phB j) = (4 - j) * Fl.Mg D C025 := by simpa using List.all_eq_true.1 Mg_phB_all j (List.mem_range.2 (by omega))
theorem sv_C025 : sv D C025 = (Fl.Mg D C025 : Nat) := by decide +kernel
theorem phB_zero : phB 0 = P2 0 := by decide +kernel
theorem phB_le {j : Nat} : phB j ≤ P2 0 := by
  unfold phB P2
  split <;> omega
theorem C025_fin : rg D C025 < D.infRung := by decide +kernel
theorem sub_le {x y c : Nat} (hx : rg D x < D.infRung) (hy : rg D y < D.infRung) (h : (sv D x - sv D y).natAbs ≤ Fl.Mg D c) : rg D (fop .sub .f64 x y) ≤ c := by
  rw [fop_sub]
  refine add_le x (fneg .f64 y) c hx (by rw [show rg D (fneg .f64 y) = rg D y from rg_fneg .f64 y]; exact hy) ?_
  rw [show sv D (fneg .f64 y) = -sv D y from sv_fneg .f64 y]
  exact h
/-- is a quarter taken off? -/
def phT (f : Nat) : Bool := FloatKind.f64.format.order f 4598175219545276416 == some Ordering.gt || FloatKind.f64.format.order f 4598175219545276416 == some Ordering.eq
def phF (f : Nat) : Nat → Nat
  | 0 => f
  | j + 1 => fop .sub .f64 (phF f j) C025
theorem phT_sv {f : Nat} (h : rg D f ≤ P2 0) : phT f = decide (sv D C025 ≤ sv D f) := by
  have hi := P2_inf (show 0 ≤ 1023 by omega)
  exact geq_sv (f := .f64) (x := f) (c := 4598175219545276416) (show rg D f ≤ D.infRung by omega) (Nat.le_of_lt C025_fin)
theorem ph_step {f j : Nat} (hj : j ≤ 4) (h : rg D f ≤ phB j) (ht : phT f = true) : j < 4 ∧ rg D (fop .sub .f64 f C025) ≤ phB (j + 1) := by
  rw [phT_sv (Nat.le_trans h phB_le)] at ht
  have ht := of_decide_eq_true ht
  have hm := natAbs_sv D f
  have hle : Fl.Mg D (rg D f) ≤ Fl.Mg D (phB j) := Mg_mono D h
  rw [Mg_phB hj] at hle
  rw [sv_C025] at ht
  have hu : 0 < Fl.Mg D C025 := by have := Mg_smono D (show 0 < C025 by decide); omega
  have hj4 : j < 4 := by
    rcases Nat.lt_or_eq_of_le hj with h | rfl
    · exact h
    · simp only [Nat.sub_self, Nat.zero_mul] at hle
      omega
  refine ⟨hj4, ?_⟩
  refine sub_le (Nat.lt_of_le_of_lt (Nat.le_trans h phB_le) (P2_inf (by omega))) C025_fin ?_
  rw [Mg_phB (show j + 1 ≤ 4 by omega), sv_C025]
  have e : (4 - j) * Fl.Mg D C025 = (4 - (j + 1)) * Fl.Mg D C025 + Fl.Mg D C025 := by
    rw [show 4 - j = (4 - (j + 1)) + 1 by omega, Nat.add_mul, Nat.one_mul]
  rw [e] at hle
  generalize (4 - (j + 1)) * Fl.Mg D C025 = q at *
  omega
theorem F2_of {n f : Nat} (h : rg D f ≤ P2 n) (hn : n ≤ 1023) : F2 n f := ⟨hn, h⟩
/-- after at most four rounds less than a quarter is left -/
theorem ph_end {f : Nat} (h : F2 0 f) : ∃ J, J ≤ 4 ∧ (∀ i, i < J → phT (phF f i) = true ∧ nan .f64 (phF f (i + 1)) = false) ∧ phT (phF f J) = false ∧ F2 0 (phF f J) := by
  have key : ∀ n j, n + j = 4 → rg D (phF f j) ≤ phB j → (∀ i, i < j → phT (phF f i) = true ∧ nan .f64 (phF f (i + 1)) = false) →
      ∃ J, J ≤ 4 ∧ (∀ i, i < J → phT (phF f i) = true ∧ nan .f64 (phF f (i + 1)) = false) ∧ phT (phF f J) = false ∧ F2 0 (phF f J) := by
    intro n
    induction n with
    | zero =>
      intro j hj hb hp
      refine ⟨j, by omega, hp, ?_, F2_of (Nat.le_trans hb phB_le) (by omega)⟩
      cases ht : phT (phF f j) with
      | false => rfl
      | true => have := (ph_step (by omega) hb ht).1; omega
    | succ n ih =>
      intro j hj hb hp
      cases ht : phT (phF f j) with
      | false => exact ⟨j, by omega, hp, ht, F2_of (Nat.le_trans hb phB_le) (by omega)⟩
      | true =>
        have hs := ph_step (by omega) hb ht
        refine ih (j + 1) (by omega) hs.2 fun i hi => ?_
        rcases Nat.lt_or_eq_of_le (Nat.le_of_lt_succ hi) with h1 | rfl
        · exact hp i h1
        · exact ⟨ht, (F2_of (n := 0) (Nat.le_trans hs.2 phB_le) (by omega)).nn⟩
  exact key 4 0 rfl (by rw [phB_zero]; exact h.2) (fun i hi => by omega)
def phC (f : Nat) : Nat := sineF (fracF (fop .sub .f64 C025 f))
def phS (f : Nat) : Nat := sineF (fracF f)
def phRe (J c s : Nat) : Nat := match J with
  | 1 => fop .sub .f64 0 s
  | 2 => fop .sub .f64 0 c
  | 3 => s
  | _ => c
def phIm (J c s : Nat) : Nat := match J with
  | 1 => c
  | 2 => fop .sub .f64 0 s
  | 3 => fop .sub .f64 0 c
  | _ => s
theorem F2_zero : F2 0 0 := ⟨by omega, by decide +kernel⟩
theorem phz_F2 {f : Nat} (h : F2 0 f) : F2 1 (fop .sub .f64 C025 f) := F2_C025.sub h 1 (by omega) (by omega) (by omega)
theorem phC_F2 {f : Nat} (h : F2 0 f) : F2 101 (phC f) := sineF_F2 (frac_F2 ((phz_F2 h).mono (by omega) (by omega)))
theorem phS_F2 {f : Nat} (h : F2 0 f) : F2 101 (phS f) := sineF_F2 (frac_F2 (h.mono (by omega) (by omega)))
theorem neg_F2 {f : Nat} (h : F2 101 f) : F2 102 (fop .sub .f64 0 f) := F2_zero.sub h 102 (by omega) (by omega) (by omega)
theorem phRe_F2 {J c s : Nat} (hc : F2 101 c) (hs : F2 101 s) : F2 102 (phRe J c s) := by
  unfold phRe
  split
  · exact neg_F2 hs
  · exact neg_F2 hc
  · exact hs.mono (by omega) (by omega)
  · exact hc.mono (by omega) (by omega)
theorem phIm_F2 {J c s : Nat} (hc : F2 101 c) (hs : F2 101 s) : F2 102 (phIm J c s) := by
  unfold phIm
  split
  · exact hc.mono (by omega) (by omega)
  · exact neg_F2 hs
  · exact neg_F2 hc
  · exact hs.mono (by omega) (by omega)
theorem small_big {n x : Nat} (h : F2 n x) (hn : n ≤ 51) : bigB x = false := by
  unfold bigB
  have := P2_mono (show n + 1 ≤ 52 by omega)
  have h2 : P2 n < P2 (n + 1) := by unfold P2; omega
  have := h.2
  exact decide_eq_false (by omega)
end Go.Proofs.Fl
