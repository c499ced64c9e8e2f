/-
  The sine of turns in float64, as both texts compute it: its numbers, and their bounds. Over no program.
-/
import Derived.Test.YtmehbfcmmffhmaaBound
namespace Go.Proofs.Fl
open Go Ieee Go.RowKit

def C2 : Nat := 4611686018427387904
def C05 : Nat := 4602678819172646912
def C025 : Nat := 4598175219545276416
def Cturn : Nat := 4618760256179416344
theorem F2_C1 : F2 0 C1 := ⟨by omega, by decide +kernel⟩
theorem F2_C05 : F2 0 C05 := ⟨by omega, by decide +kernel⟩
theorem F2_Cturn : F2 3 Cturn := ⟨by omega, by decide +kernel⟩
/-- the counter of the program's loop, a float, behind j rounds -/
def kf (j : Nat) : Nat := floatOfInt .f64 (8 - (j : Int))
def kA (j : Nat) : Nat := fop .mul .f64 C2 (kf j)
def kB (j : Nat) : Nat := fop .add .f64 (kA j) C1
/-- what is divided by in round j -/
def kD (j : Nat) : Nat := floatOfInt .f64 (2 * (8 - (j : Int)) * (2 * (8 - (j : Int)) + 1))
def ktabB (j : Nat) : Bool :=
  (FloatKind.f64.format.order (kf j) C1 == some Ordering.gt || FloatKind.f64.format.order (kf j) C1 == some Ordering.eq) &&
  !nan .f64 (kA j) && !nan .f64 (kB j) && (fop .mul .f64 (kA j) (kB j) == kD j) && !nan .f64 (kD j) && (fop .sub .f64 (kf j) C1 == kf (j + 1)) && !nan .f64 (kf (j + 1)) &&
  decide (P2 0 ≤ rg D (kD j)) && decide (rg D (kD j) ≤ P2 10)
theorem ktab_all : (List.range 8).all ktabB = true := by decide +kernel
theorem ktab {j : Nat} (h : j < 8) : ktabB j = true := List.all_eq_true.1 ktab_all j (List.mem_range.2 h)
theorem kf_end : (FloatKind.f64.format.order (kf 8) C1 == some Ordering.gt || FloatKind.f64.format.order (kf 8) C1 == some Ordering.eq) = false := by decide +kernel
theorem kf_start : kf 0 = 4620693217682128896 := by decide +kernel

/-- the polynomial behind j rounds -/
def sineP (u : Nat) : Nat → Nat
  | 0 => C1
  | j + 1 => fop .sub .f64 C1 (fop .quo .f64 (fop .mul .f64 u (sineP u j)) (kD j))
theorem kD_F2 {j : Nat} (h : j < 8) : F2 10 (kD j) ∧ P2 0 ≤ rg D (kD j) := by
  have := ktab h
  simp only [ktabB, Bool.and_eq_true, decide_eq_true_eq] at this
  exact ⟨⟨by omega, this.2⟩, this.1.2⟩
theorem sineP_F2 {u : Nat} (hu : F2 10 u) : ∀ j, j ≤ 8 → F2 (12 * j) (sineP u j)
  | 0, _ => F2_C1
  | j + 1, h => by
    have ih := sineP_F2 hu j (by omega)
    have hk := kD_F2 (show j < 8 by omega)
    have h1 := hu.mul ih (10 + 12 * j) (Nat.le_refl _) (by omega)
    have h2 := h1.div hk.1 hk.2 (11 + 12 * j) (by omega) (by omega)
    exact F2_C1.sub h2 (12 * (j + 1)) (by omega) (by omega) (by omega)
/-- the steps of a round, each a number -/
theorem sineP_steps {u : Nat} (hu : F2 10 u) {j : Nat} (h : j < 8) : nan .f64 (fop .mul .f64 u (sineP u j)) = false ∧ nan .f64 (fop .quo .f64 (fop .mul .f64 u (sineP u j)) (kD j)) = false ∧ nan .f64 (sineP u (j + 1)) = false := by
  have ih := sineP_F2 hu j (by omega)
  have hk := kD_F2 h
  have h1 := hu.mul ih (10 + 12 * j) (Nat.le_refl _) (by omega)
  have h2 := h1.div hk.1 hk.2 (11 + 12 * j) (by omega) (by omega)
  exact ⟨h1.nn, h2.nn, (sineP_F2 hu (j + 1) (by omega)).nn⟩

def sine1 (f : Nat) : Nat := if (D.order f C05 == some Ordering.gt || D.order f C05 == some Ordering.eq) = true then fop .sub .f64 f C05 else f
def sine2 (f : Nat) : Nat := if (D.order (sine1 f) C025 == some Ordering.gt) = true then fop .sub .f64 C05 (sine1 f) else sine1 f
def sineZ (f : Nat) : Nat := fop .mul .f64 (sine2 f) Cturn
def sineU (f : Nat) : Nat := fop .mul .f64 (sineZ f) (sineZ f)
def sineR (f : Nat) : Nat := fop .mul .f64 (sineZ f) (sineP (sineU f) 8)
/-- the sine of the turns whose fraction is f -/
def sineF (f : Nat) : Nat := if (D.order f C05 == some Ordering.gt || D.order f C05 == some Ordering.eq) = true then fneg .f64 (sineR f) else sineR f
theorem sine1_F2 {f : Nat} (h : F2 0 f) : F2 1 (sine1 f) := by
  unfold sine1
  split
  · exact h.sub F2_C05 1 (by omega) (by omega) (by omega)
  · exact h.mono (by omega) (by omega)
theorem sine2_F2 {f : Nat} (h : F2 0 f) : F2 2 (sine2 f) := by
  have := sine1_F2 h
  unfold sine2
  split
  · exact F2_C05.sub this 2 (by omega) (by omega) (by omega)
  · exact this.mono (by omega) (by omega)
theorem sineZ_F2 {f : Nat} (h : F2 0 f) : F2 5 (sineZ f) := (sine2_F2 h).mul F2_Cturn 5 (by omega) (by omega)
theorem sineU_F2 {f : Nat} (h : F2 0 f) : F2 10 (sineU f) := (sineZ_F2 h).mul (sineZ_F2 h) 10 (by omega) (by omega)
theorem sineR_F2 {f : Nat} (h : F2 0 f) : F2 101 (sineR f) := (sineZ_F2 h).mul (sineP_F2 (sineU_F2 h) 8 (by omega)) 101 (by omega) (by omega)
theorem sineF_F2 {f : Nat} (h : F2 0 f) : F2 101 (sineF f) := by
  unfold sineF
  split
  · exact (sineR_F2 h).neg
  · exact sineR_F2 h
/-- a float slot's bits, for a loop's measure -/
def bitsOfV : Value → Nat
  | .float _ b => b
  | _ => 0
theorem kf_fint_all : (List.range 9).all (fun j => fint (kf j) == 8 - (j : Int)) = true := by decide +kernel
theorem kf_fint {j : Nat} (h : j ≤ 8) : fint (kf j) = 8 - (j : Int) := by simpa using List.all_eq_true.1 kf_fint_all j (List.mem_range.2 (by omega))
theorem kf_measure {j : Nat} (h : j < 8) : (fint (bitsOfV (.float .f64 (kf (j + 1))))).toNat < (fint (bitsOfV (.float .f64 (kf j)))).toNat := by
  show (fint (kf (j + 1))).toNat < (fint (kf j)).toNat
  rw [kf_fint (show j + 1 ≤ 8 by omega), kf_fint (show j ≤ 8 by omega)]
  omega
structure KTab (j : Nat) : Prop where
  test : (FloatKind.f64.format.order (kf j) 4607182418800017408 == some Ordering.gt || FloatKind.f64.format.order (kf j) 4607182418800017408 == some Ordering.eq) = true
  nA : nan .f64 (kA j) = false
  nB : nan .f64 (kB j) = false
  eD : fop .mul .f64 (kA j) (kB j) = kD j
  nD : nan .f64 (kD j) = false
  eK : fop .sub .f64 (kf j) C1 = kf (j + 1)
  nK : nan .f64 (kf (j + 1)) = false
theorem ktabs {j : Nat} (h : j < 8) : KTab j := by
  have := ktab h
  simp only [ktabB, Bool.and_eq_true, decide_eq_true_eq, Bool.not_eq_true', beq_iff_eq] at this
  obtain ⟨⟨⟨⟨⟨⟨⟨⟨h1, h2⟩, h3⟩, h4⟩, h5⟩, h6⟩, h7⟩, _⟩, _⟩ := this
  exact ⟨h1, h2, h3, h4, h5, h6, h7⟩
/-- the parts of a sine, under their tests -/
structure SineParts (f f1 f2 z u : Nat) (T G : Bool) : Prop where
  hT : (FloatKind.f64.format.order f 4602678819172646912 == some Ordering.gt || FloatKind.f64.format.order f 4602678819172646912 == some Ordering.eq) = T
  h1 : f1 = if T = true then fop .sub .f64 f C05 else f
  n1 : nan .f64 (fop .sub .f64 f C05) = false
  hG : (FloatKind.f64.format.order f1 4598175219545276416 == some Ordering.gt) = G
  h2 : f2 = if G = true then fop .sub .f64 C05 f1 else f1
  n2 : nan .f64 (fop .sub .f64 C05 f1) = false
  hz : z = fop .mul .f64 f2 Cturn
  nz : nan .f64 (fop .mul .f64 f2 Cturn) = false
  hu : u = fop .mul .f64 z z
  nu : nan .f64 (fop .mul .f64 z z) = false
  fu : F2 10 u
  nr : nan .f64 (fop .mul .f64 z (sineP u 8)) = false
  res : sineF f = if T = true then fneg .f64 (fop .mul .f64 z (sineP u 8)) else fop .mul .f64 z (sineP u 8)
theorem sine_parts {f : Nat} (h : F2 0 f) : ∃ f1 f2 z u T G, SineParts f f1 f2 z u T G :=
  ⟨sine1 f, sine2 f, sineZ f, sineU f, _, _, rfl, rfl, (h.sub F2_C05 1 (by omega) (by omega) (by omega)).nn, rfl, rfl, (F2_C05.sub (sine1_F2 h) 2 (by omega) (by omega) (by omega)).nn, rfl, (sineZ_F2 h).nn, rfl, (sineU_F2 h).nn, sineU_F2 h, (sineR_F2 h).nn, rfl⟩

/-! ### Tests told by what the words stand for -/
theorem geq_sv {f : FloatKind} {x c : Nat} (hx : rg f.format x ≤ f.format.infRung) (hc : rg f.format c ≤ f.format.infRung) : (f.format.order x c == some Ordering.gt || f.format.order x c == some Ordering.eq) = decide (sv f.format c ≤ sv f.format x) := by
  rw [order_sv f.format (exp_pos f) x c hx hc, Bool.eq_iff_iff]
  simp only [Bool.or_eq_true, beq_iff_eq, Option.some.injEq, Int.compare_eq_gt, Int.compare_eq_eq, decide_eq_true_eq]
  omega
theorem leq_sv {f : FloatKind} {x c : Nat} (hx : rg f.format x ≤ f.format.infRung) (hc : rg f.format c ≤ f.format.infRung) : (f.format.order x c == some Ordering.lt || f.format.order x c == some Ordering.eq) = decide (sv f.format x ≤ sv f.format c) := by
  rw [order_sv f.format (exp_pos f) x c hx hc, Bool.eq_iff_iff]
  simp only [Bool.or_eq_true, beq_iff_eq, Option.some.injEq, Int.compare_eq_lt, Int.compare_eq_eq, decide_eq_true_eq]
  omega
theorem lss_sv {f : FloatKind} {x c : Nat} (hx : rg f.format x ≤ f.format.infRung) (hc : rg f.format c ≤ f.format.infRung) : (f.format.order x c == some Ordering.lt) = decide (sv f.format x < sv f.format c) := by
  rw [order_sv f.format (exp_pos f) x c hx hc, Bool.eq_iff_iff]
  simp only [beq_iff_eq, Option.some.injEq, Int.compare_eq_lt, decide_eq_true_eq]
theorem gtr_sv {f : FloatKind} {x c : Nat} (hx : rg f.format x ≤ f.format.infRung) (hc : rg f.format c ≤ f.format.infRung) : (f.format.order x c == some Ordering.gt) = decide (sv f.format c < sv f.format x) := by
  rw [order_sv f.format (exp_pos f) x c hx hc, Bool.eq_iff_iff]
  simp only [beq_iff_eq, Option.some.injEq, Int.compare_eq_gt, decide_eq_true_eq]
theorem neq_sv {f : FloatKind} {x c : Nat} (hx : rg f.format x ≤ f.format.infRung) (hc : rg f.format c ≤ f.format.infRung) : (f.format.order x c != some Ordering.eq) = decide (sv f.format x ≠ sv f.format c) := by
  rw [order_sv f.format (exp_pos f) x c hx hc, Bool.eq_iff_iff]
  simp only [bne_iff_ne, ne_eq, Option.some.injEq, Int.compare_eq_eq, decide_eq_true_eq]
/-- a finite number less itself is +0 -/
theorem self_zero (f : FloatKind) (x : Nat) (hx : rg f.format x < f.format.infRung) : fop .sub f x x = 0 := by
  have hs : fop .sub f x x = ((((f.format.read x).sum (f.format.read x).opposite).map f.format.write).getD (qn f)) := rfl
  obtain ⟨m, i, e1, hi, hm, _⟩ := read_fin f.format x hx
  rw [hs, e1]
  have e : (Datum.number (sg f.format x) m i).sum (Datum.number (sg f.format x) m i).opposite = some (.number false 0 i) := by
    simp only [Datum.sum, Datum.opposite, Int.min_self]
    have h0 : signed (sg f.format x) m (i - i).toNat + signed (!sg f.format x) m (i - i).toNat = 0 := by
      unfold signed
      cases sg f.format x <;> simp <;> omega
    rw [h0]
    simp
  rw [e]
  show f.format.nearest false 0 i = 0
  simp [Format.nearest, Format.word]
theorem self_inf (f : FloatKind) (x : Nat) (hx : rg f.format x = f.format.infRung) : fop .sub f x x = qn f := by
  have hs : fop .sub f x x = ((((f.format.read x).sum (f.format.read x).opposite).map f.format.write).getD (qn f)) := rfl
  rw [hs, read_inf f.format (exp_pos f) x hx]
  cases sg f.format x <;> rfl
/-- what IsFinite tells -/
theorem finB_told (x : Nat) : finB x = decide (rg Ieee.single x < 2139095040) := by
  unfold finB
  rcases Nat.lt_trichotomy (rg Ieee.single x) 2139095040 with h | h | h
  · rw [self_zero .f32 x (by show rg Ieee.single x < Ieee.single.infRung; rw [inf32]; exact h), decide_eq_true h]
    decide +kernel
  · rw [self_inf .f32 x (by show rg Ieee.single x = Ieee.single.infRung; rw [inf32]; exact h), order_nan_left (nan_qn _), decide_eq_false (by omega)]
    rfl
  · have hn : nan .f32 x = true := by
      rw [nan_eq]
      change decide (Ieee.single.infRung < rg Ieee.single x) = true
      rw [inf32]
      simpa using h
    rw [fop_nan_left hn, order_nan_left (nan_qn _), decide_eq_false (by omega)]
    rfl
/-- a float64 that is no finite number -/
theorem self_bad {y : Nat} (hy : ¬ rg D y < D.infRung) : nan .f64 (fop .sub .f64 y y) = true := by
  cases hn : nan .f64 y with
  | true => rw [fop_nan_left hn]; exact nan_qn _
  | false =>
    have h := rg_le_of hn
    change rg D y ≤ D.infRung at h
    rw [self_inf .f64 y (show rg D y = D.infRung by omega)]
    exact nan_qn _
def C52 : Nat := 4841369599423283200
theorem C52_P2 : C52 = P2 52 := by decide +kernel
theorem sv_C52 : sv D C52 = (Fl.Mg D (P2 52) : Nat) := by decide +kernel
theorem sv_N52 : sv D 14064741636278059008 = -(Fl.Mg D (P2 52) : Nat) := by decide +kernel
/-- is a number at least 2 to the power of 52, in its absolute value? -/
def bigB (y : Nat) : Bool := decide (P2 52 ≤ rg D y)
theorem big_abs {y : Nat} (hy : rg D y ≤ D.infRung) : (FloatKind.f64.format.order (rg D y) 4841369599423283200 == some Ordering.gt || FloatKind.f64.format.order (rg D y) 4841369599423283200 == some Ordering.eq) = bigB y := by
  rw [geq_sv (f := .f64) (x := rg D y) (c := 4841369599423283200) (by show rg D (rg D y) ≤ _; rw [rg_rg]; exact hy) (by decide +kernel)]
  have h2 : sv FloatKind.f64.format (rg D y) = (Fl.Mg D (rg D y) : Nat) := by
    unfold sv
    change (if sg D (rg D y) = true then -(Fl.Mg D (rg D (rg D y)) : Int) else (Fl.Mg D (rg D (rg D y)) : Int)) = _
    rw [sg_rg, rg_rg]
    simp
  rw [h2, show sv FloatKind.f64.format 4841369599423283200 = (Fl.Mg D (P2 52) : Nat) from sv_C52]
  unfold bigB
  rw [Bool.eq_iff_iff]
  simp only [decide_eq_true_eq, Int.ofNat_le]
  exact Mg_le_iff D
theorem big_two {y : Nat} (hy : rg D y ≤ D.infRung) : ((FloatKind.f64.format.order y 4841369599423283200 == some Ordering.gt || FloatKind.f64.format.order y 4841369599423283200 == some Ordering.eq) || (FloatKind.f64.format.order y 14064741636278059008 == some Ordering.lt || FloatKind.f64.format.order y 14064741636278059008 == some Ordering.eq)) = bigB y := by
  rw [geq_sv (f := .f64) (x := y) (c := 4841369599423283200) hy (by decide +kernel), leq_sv (f := .f64) (x := y) (c := 14064741636278059008) hy (by decide +kernel)]
  rw [show sv FloatKind.f64.format 4841369599423283200 = (Fl.Mg D (P2 52) : Nat) from sv_C52, show sv FloatKind.f64.format 14064741636278059008 = -(Fl.Mg D (P2 52) : Nat) from sv_N52]
  have hm := natAbs_sv D y
  have hle : Fl.Mg D (P2 52) ≤ Fl.Mg D (rg D y) ↔ P2 52 ≤ rg D y := Mg_le_iff D
  unfold bigB
  rw [Bool.eq_iff_iff]
  simp only [Bool.or_eq_true, decide_eq_true_eq]
  rw [← hle, ← hm]
  change (_ ≤ sv D y ∨ sv D y ≤ _) ↔ _
  omega
theorem F2_small {y : Nat} (h : bigB y = false) : F2 52 y := by
  unfold bigB at h
  simp at h
  exact ⟨by omega, Nat.le_of_lt h⟩
end Go.Proofs.Fl
