/-
  Points of the unit circle at 64ths of a turn, told: their parts, powers, angles and products. Over no program. (The tables were printed by Lean.)
-/
import Derived.Test.YtmehbfcmmffhmaaPhN
import Derived.Test.YtmehbfcmmffhmaaFast
import Derived.Test.YtmehbfcmmffhmaaLogIn
import Derived.Test.YtmehbfcmmffhmaaPowLaw
namespace Go.Proofs.Fl
open Go Ieee Go.RowKit
set_option linter.unusedVariables false
set_option maxRecDepth 100000
def reT : List Nat := [1065353216, 1065272429, 1065030846, 1064630795, 1064076126, 1063372184, 1062525745, 1061544963, 1060439283, 1059219353, 1057896922, 1056004842, 1053028117, 1049927729, 1044891074, 1036565814, 0, 3184049462, 3192374722, 3197411377, 3200511765, 3203488490, 3205380570, 3206703001, 3207922931, 3209028611, 3210009393, 3210855832, 3211559774, 3212114443, 3212514494, 3212756077, 3212836864, 3212756077, 3212514494, 3212114443, 3211559774, 3210855832, 3210009393, 3209028611, 3207922931, 3206703001, 3205380570, 3203488490, 3200511765, 3197411377, 3192374722, 3184049462, 0, 1036565814, 1044891074, 1049927729, 1053028117, 1056004842, 1057896922, 1059219353, 1060439283, 1061544963, 1062525745, 1063372184, 1064076126, 1064630795, 1065030846, 1065272429]
def imT : List Nat := [0, 1036565814, 1044891074, 1049927729, 1053028117, 1056004842, 1057896922, 1059219353, 1060439283, 1061544963, 1062525745, 1063372184, 1064076126, 1064630795, 1065030846, 1065272429, 1065353216, 1065272429, 1065030846, 1064630795, 1064076126, 1063372184, 1062525745, 1061544963, 1060439283, 1059219353, 1057896922, 1056004842, 1053028117, 1049927729, 1044891074, 1036565814, 0, 3184049462, 3192374722, 3197411377, 3200511765, 3203488490, 3205380570, 3206703001, 3207922931, 3209028611, 3210009393, 3210855832, 3211559774, 3212114443, 3212514494, 3212756077, 3212836864, 3212756077, 3212514494, 3212114443, 3211559774, 3210855832, 3210009393, 3209028611, 3207922931, 3206703001, 3205380570, 3203488490, 3200511765, 3197411377, 3192374722, 3184049462]
def vT : List Nat := [0, 1015021568, 1023410176, 1027604479, 1031798784, 1033895936, 1035993088, 1038090240, 1040187392, 1041235968, 1042284544, 1043333120, 1044381696, 1045430272, 1046478848, 1047527424, 1048576000, 1049100288, 1049624576, 1050148864, 1050673152, 1051197440, 1051721728, 1052246016, 1052770304, 1053294592, 1053818880, 1054343168, 1054867456, 1055391744, 1055916032, 1056440320, 1056964608, 3203923968, 3203399680, 3202875392, 3202351104, 3201826816, 3201302528, 3200778240, 3200253952, 3199729664, 3199205376, 3198681088, 3198156800, 3197632512, 3197108224, 3196583936, 3196059648, 3195011072, 3193962496, 3192913920, 3191865344, 3190816768, 3189768192, 3188719616, 3187671040, 3185573888, 3183476736, 3181379584, 3179282432, 3175088127, 3170893824, 3162505216]
def pRe (i : Nat) : Nat := reT.getD i 0
def pIm (i : Nat) : Nat := imT.getD i 0
def pV (i : Nat) : Nat := vT.getD i 0
def gI (i : Nat) : Nat := fop .quo .f64 (floatOfInt .f64 (i : Int)) 4634204016564240384
def yA (i : Nat) : Nat := fop .quo .f64 (floatOfInt .f64 ((i : Int) - 256)) 4634204016564240384
/-! the points -/
structure PhAt (i : Nat) : Prop where
  go : ∀ k, k < i / 16 → phT (phF (gI i) k) = true ∧ nan .f64 (phF (gI i) (k + 1)) = false
  stop : phT (phF (gI i) (i / 16)) = false
  small : F2 0 (phF (gI i) (i / 16))
  re : fnar (phRe (i / 16) (phC (phF (gI i) (i / 16))) (phS (phF (gI i) (i / 16)))) = pRe i
  im : fnar (phIm (i / 16) (phC (phF (gI i) (i / 16))) (phS (phF (gI i) (i / 16)))) = pIm i
  nre : nan .f32 (pRe i) = false
  nim : nan .f32 (pIm i) = false
def phAtB (i : Nat) : Bool :=
  ((List.range (i / 16)).all fun k => phT (phF (gI i) k) && !nan .f64 (phF (gI i) (k + 1))) && !phT (phF (gI i) (i / 16)) && decide (rg D (phF (gI i) (i / 16)) ≤ P2 0) &&
  (fnar (phRe (i / 16) (phC (phF (gI i) (i / 16))) (phS (phF (gI i) (i / 16)))) == pRe i) && (fnar (phIm (i / 16) (phC (phF (gI i) (i / 16))) (phS (phF (gI i) (i / 16)))) == pIm i) && !nan .f32 (pRe i) && !nan .f32 (pIm i)
theorem phAt_all : (List.range 64).all phAtB = true := by decide +kernel
theorem phAt {i : Nat} (h : i < 64) : PhAt i := by
  have := List.all_eq_true.1 phAt_all i (List.mem_range.2 h)
  unfold phAtB at this
  simp only [Bool.and_eq_true, Bool.not_eq_true', List.all_eq_true, List.mem_range, beq_iff_eq, decide_eq_true_eq] at this
  obtain ⟨⟨⟨⟨⟨⟨h1, h2⟩, h3⟩, h4⟩, h5⟩, h6⟩, h7⟩ := this
  exact ⟨h1, h2, F2_of h3 (by omega), h4, h5, h6, h7⟩
/-! the turns -/
structure TurnAt (i : Nat) : Prop where
  nd : nan .f64 (fop .sub .f64 (yA i) (yA i)) = false
  nb : bigB (yA i) = false
  fr : fracF (yA i) = gI (i % 64)
  nn : nan .f64 (yA i) = false
def turnAtB (i : Nat) : Bool := !nan .f64 (fop .sub .f64 (yA i) (yA i)) && !bigB (yA i) && (fracF (yA i) == gI (i % 64)) && !nan .f64 (yA i)
theorem turnAt_all : (List.range 511).all turnAtB = true := by decide +kernel
theorem turnAt {i : Nat} (h : i < 511) : TurnAt i := by
  have := List.all_eq_true.1 turnAt_all i (List.mem_range.2 h)
  unfold turnAtB at this
  simp only [Bool.and_eq_true, Bool.not_eq_true', beq_iff_eq] at this
  obtain ⟨⟨⟨h1, h2⟩, h3⟩, h4⟩ := this
  exact ⟨h1, h2, h3, h4⟩
/-! their powers -/
def pwS (a b : Nat) : Nat := fop .add .f64 (fop .mul .f64 (fwide a) (fwide a)) (fop .mul .f64 (fwide b) (fwide b))
structure PowAt (a b p : Nat) : Prop where
  n1 : nan .f64 (fop .mul .f64 (fwide a) (fwide a)) = false
  n2 : nan .f64 (fop .mul .f64 (fwide b) (fwide b)) = false
  n3 : nan .f64 (pwS a b) = false
  out : floatToFloatBits .f64 (pwS a b) .f32 = some p
  np : nan .f32 p = false
  ng : nan .f64 (gapF (fwide p) C1) = false
  gap : (FloatKind.f64.format.order (gapF (fwide p) C1) 4547007122018943789 == some Ordering.gt) = false
def powAtB (a b p : Nat) : Bool :=
  !nan .f64 (fop .mul .f64 (fwide a) (fwide a)) && !nan .f64 (fop .mul .f64 (fwide b) (fwide b)) && !nan .f64 (pwS a b) && (floatToFloatBits .f64 (pwS a b) .f32 == some p) && !nan .f32 p && !nan .f64 (gapF (fwide p) C1) &&
  !(FloatKind.f64.format.order (gapF (fwide p) C1) 4547007122018943789 == some Ordering.gt)
def pP (i : Nat) : Nat := fnar (pwS (pRe i) (pIm i))
theorem powAt_all : (List.range 64).all (fun i => powAtB (pRe i) (pIm i) (pP i)) = true := by decide +kernel
theorem powAt {i : Nat} (h : i < 64) : PowAt (pRe i) (pIm i) (pP i) := by
  have := List.all_eq_true.1 powAt_all i (List.mem_range.2 h)
  unfold powAtB at this
  simp only [Bool.and_eq_true, Bool.not_eq_true', beq_iff_eq] at this
  obtain ⟨⟨⟨⟨⟨⟨h1, h2⟩, h3⟩, h4⟩, h5⟩, h6⟩, h7⟩ := this
  exact ⟨h1, h2, h3, h4, h5, h6, h7⟩
/-! their angles -/
def vI (re im : Nat) : Nat := fnar (angF (decide (rg D (fwide re) < rg D (fwide im))) (FloatKind.f32.format.order re 0 == some Ordering.lt) (FloatKind.f32.format.order im 0 == some Ordering.lt) (angQ (rg D (fwide im)) (rg D (fwide re))))
structure AngAt (a b v : Nat) : Prop where
  fa : rg Ieee.single a < 2139095040
  fb : rg Ieee.single b < 2139095040
  nz : rg D (fwide b) ≠ 0 ∨ rg D (fwide a) ≠ 0
  zz : ((FloatKind.f32.format.order a 0 == some Ordering.eq) && (FloatKind.f32.format.order b 0 == some Ordering.eq)) = false
  val : vI a b = v
  nv : nan .f32 v = false
def angAtB (a b v : Nat) : Bool :=
  decide (rg Ieee.single a < 2139095040) && decide (rg Ieee.single b < 2139095040) && (decide (rg D (fwide b) ≠ 0) || decide (rg D (fwide a) ≠ 0)) && !((FloatKind.f32.format.order a 0 == some Ordering.eq) && (FloatKind.f32.format.order b 0 == some Ordering.eq)) && (vI a b == v) && !nan .f32 v
theorem AngAt.of {a b v : Nat} (this : angAtB a b v = true) : AngAt a b v := by
  unfold angAtB at this
  rw [Bool.and_eq_true, Bool.and_eq_true, Bool.and_eq_true, Bool.and_eq_true, Bool.and_eq_true, Bool.or_eq_true] at this
  obtain ⟨⟨⟨⟨⟨h1, h2⟩, h3⟩, h4⟩, h5⟩, h6⟩ := this
  exact ⟨of_decide_eq_true h1, of_decide_eq_true h2, h3.imp of_decide_eq_true of_decide_eq_true, by simpa only [Bool.not_eq_true'] using h4, eq_of_beq h5, by simpa only [Bool.not_eq_true'] using h6⟩
theorem angAt_all : (List.range 64).all (fun i => angAtB (pRe i) (pIm i) (pV i)) = true := by decide +kernel
theorem angAt {i : Nat} (h : i < 64) : AngAt (pRe i) (pIm i) (pV i) := AngAt.of (List.all_eq_true.1 angAt_all i (List.mem_range.2 h))
theorem angOne : AngAt 0 1065353216 1048576000 := AngAt.of (by decide +kernel)
/-! from an angle to its turn -/
def aT (i : Nat) : Nat := fop .mul .f64 (fwide (pV (i % 64))) 4634204016564240384
def aD (i : Nat) : Nat := fop .sub .f64 (aT i) (floatOfInt .f64 ((i : Int) - 128))
def aE (i : Nat) : Nat := fop .add .f64 (aD i) 4666723447345250304
def aW (i : Nat) : Int := (floatToIntVal .f64 (aE i) .i64).getD 0
structure WholeAt (i : Nat) : Prop where
  n1 : nan .f64 (aT i) = false
  n2 : nan .f64 (aD i) = false
  n3 : nan .f64 (aE i) = false
  w : floatToIntVal .f64 (aE i) .i64 = some (aW i)
  lo : 0 ≤ aW i
  hi : aW i ≤ 20000
  ng : nan .f64 (gapF (aD i) (floatOfInt .f64 (aW i - 10000))) = false
  gap : (FloatKind.f64.format.order (gapF (aD i) (floatOfInt .f64 (aW i - 10000))) 4562254508917369340 == some Ordering.gt) = false
  md : (aW i - 10000).tmod 64 = 0
def wholeAtB (i : Nat) : Bool :=
  !nan .f64 (aT i) && !nan .f64 (aD i) && !nan .f64 (aE i) && (floatToIntVal .f64 (aE i) .i64 == some (aW i)) && decide (0 ≤ aW i) && decide (aW i ≤ 20000) && !nan .f64 (gapF (aD i) (floatOfInt .f64 (aW i - 10000))) &&
  !(FloatKind.f64.format.order (gapF (aD i) (floatOfInt .f64 (aW i - 10000))) 4562254508917369340 == some Ordering.gt) && decide ((aW i - 10000).tmod 64 = 0)
theorem wholeAt_all : (List.range 256).all wholeAtB = true := by decide +kernel
theorem wholeAt {i : Nat} (h : i < 256) : WholeAt i := by
  have := List.all_eq_true.1 wholeAt_all i (List.mem_range.2 h)
  unfold wholeAtB at this
  simp only [Bool.and_eq_true, Bool.not_eq_true', beq_iff_eq, decide_eq_true_eq] at this
  obtain ⟨⟨⟨⟨⟨⟨⟨⟨h1, h2⟩, h3⟩, h4⟩, h5⟩, h6⟩, h7⟩, h8⟩, h9⟩ := this
  exact ⟨h1, h2, h3, h4, h5, h6, h7, h8, h9⟩
/-! at quarters the first part is 0, 1 or -1 -/
def qB (i : Nat) : Bool := !nan .f64 (gapF (fwide (pRe i)) 0) && (!(Nat.beq (i % 16) 0) || !((FloatKind.f64.format.order (gapF (fwide (pRe i)) 0) 0 != some Ordering.eq) && (FloatKind.f64.format.order (gapF (fwide (pRe i)) 0) 4607182418800017408 != some Ordering.eq)))
theorem q_all : (List.range 64).all qB = true := by decide +kernel
theorem q_at {i : Nat} (h : i < 64) : nan .f64 (gapF (fwide (pRe i)) 0) = false ∧ (i % 16 = 0 → ((FloatKind.f64.format.order (gapF (fwide (pRe i)) 0) 0 != some Ordering.eq) && (FloatKind.f64.format.order (gapF (fwide (pRe i)) 0) 4607182418800017408 != some Ordering.eq)) = false) := by
  have := List.all_eq_true.1 q_all i (List.mem_range.2 h)
  unfold qB at this
  rw [Bool.and_eq_true, Bool.or_eq_true, Bool.not_eq_true'] at this
  refine ⟨this.1, fun h0 => ?_⟩
  rcases this.2 with h1 | h1
  · rw [h0] at h1
    cases h1
  · rw [Bool.not_eq_true'] at h1
    exact h1
/-! eighths -/
def xT8 (i : Nat) : Nat := fop .quo .f32 (floatOfInt .f32 (1 + (i : Int))) 1090519040
end Go.Proofs.Fl
