/-
  Powers of e at eighths, told: the program's polynomial and squares, their sums and logarithms. Over no program. (Its tables were printed by Lean.)
-/
import Derived.Test.YtmehbfcmmffhmaaLogIn
namespace Go.Proofs.Fl
open Go Ieee Go.RowKit
/-- i / 8 -/
def xF (i : Int) : Nat := fop .quo .f32 (floatOfInt .f32 i) 1090519040
def tF (x : Nat) : Nat := fop .quo .f64 (fwide x) 4643211215818981376
def kF (j : Nat) : Nat := floatOfInt .f64 ((12 : Int) - j)
def exP (t : Nat) : Nat → Nat
  | 0 => C1
  | j + 1 => fop .add .f64 C1 (fop .quo .f64 (fop .mul .f64 t (exP t j)) (kF j))
def exS (p : Nat) : Nat → Nat
  | 0 => p
  | j + 1 => fop .mul .f64 (exS p j) (exS p j)
def xTab : List Nat := [3238002688, 3237740544, 3237478400, 3237216256, 3236954112, 3236691968, 3236429824, 3236167680, 3235905536, 3235643392, 3235381248, 3235119104, 3234856960, 3234594816, 3234332672, 3234070528, 3233808384, 3233546240, 3233284096, 3233021952, 3232759808, 3232497664, 3232235520, 3231973376, 3231711232, 3231449088, 3231186944, 3230924800, 3230662656, 3230400512, 3230138368, 3229876224, 3229614080, 3229089792, 3228565504, 3228041216, 3227516928, 3226992640, 3226468352, 3225944064, 3225419776, 3224895488, 3224371200, 3223846912, 3223322624, 3222798336, 3222274048, 3221749760, 3221225472, 3220176896, 3219128320, 3218079744, 3217031168, 3215982592, 3214934016, 3213885440, 3212836864, 3210739712, 3208642560, 3206545408, 3204448256, 3200253952, 3196059648, 3187671040, 0, 1040187392, 1048576000, 1052770304, 1056964608, 1059061760, 1061158912, 1063256064, 1065353216, 1066401792, 1067450368, 1068498944, 1069547520, 1070596096, 1071644672, 1072693248, 1073741824, 1074266112, 1074790400, 1075314688, 1075838976, 1076363264, 1076887552, 1077411840, 1077936128, 1078460416, 1078984704, 1079508992, 1080033280, 1080557568, 1081081856, 1081606144, 1082130432, 1082392576, 1082654720, 1082916864, 1083179008, 1083441152, 1083703296, 1083965440, 1084227584, 1084489728, 1084751872, 1085014016, 1085276160, 1085538304, 1085800448, 1086062592, 1086324736, 1086586880, 1086849024, 1087111168, 1087373312, 1087635456, 1087897600, 1088159744, 1088421888, 1088684032, 1088946176, 1089208320, 1089470464, 1089732608, 1089994752, 1090256896, 1090519040]
def eTab : List Nat := [967827720, 969362444, 971101513, 973072137, 974191837, 975457003, 976890623, 978515128, 980355933, 981954487, 983136307, 984475485, 985992972, 987712511, 989661003, 990862339, 992113296, 993530815, 995137075, 996957207, 998632019, 999800566, 1001124704, 1002625149, 1004325375, 1006251984, 1007534039, 1008770946, 1010172546, 1011760767, 1013560457, 1015310670, 1016466094, 1017775360, 1019258954, 1020940085, 1022845057, 1024206924, 1025429940, 1026815799, 1028386182, 1030165660, 1031990428, 1033132876, 1034427438, 1035894369, 1037556620, 1039440198, 1040880981, 1042090262, 1043460556, 1045013303, 1046772796, 1048671281, 1049800898, 1051080921, 1052531378, 1054174960, 1056037383, 1057556197, 1058751896, 1060106801, 1061642109, 1063381841, 1065353216, 1066470146, 1067735794, 1069169961, 1070795084, 1072636591, 1074232558, 1075414828, 1076754516, 1078272582, 1079992775, 1081942010, 1083140607, 1084392041, 1085810101, 1087416973, 1089237798, 1090910051, 1092079044, 1093403686, 1094904703, 1096605577, 1098532920, 1099812267, 1101049646, 1102451780, 1104040606, 1105840981, 1107588665, 1108744529, 1110054295, 1111538453, 1113220225, 1115125923, 1116485113, 1117708595, 1119094981, 1120665963, 1122446119, 1124268386, 1125411269, 1126706325, 1128173815, 1129836699, 1131720994, 1133159130, 1134368872, 1135739688, 1137293027, 1139053190, 1140949202, 1142079249, 1143359761, 1144810770, 1146454979, 1148318112, 1149834307, 1151030462, 1152385883, 1153921776, 1155662171, 1157631101, 1158748457, 1160014587, 1161449300]
def lTab : List Nat := [3229614080, 3229089792, 3228565504, 3228041216, 3227516928, 3226992640, 3226468352, 3225944064, 3225419776, 3224895488, 3224371200, 3223846912, 3223322624, 3222798336, 3222274048, 3221749760, 3221225472, 3220176896, 3219128320, 3218079744, 3217031168, 3215982592, 3214934016, 3213885440, 3212836864, 3210739712, 3208642560, 3206545407, 3204448256, 3200253951, 3196059648, 3187671041, 0, 1040187389, 1048576000, 1052770305, 1056964607, 1059061760, 1061158913, 1063256064, 1065353215, 1066401792, 1067450368, 1068498944, 1069547520, 1070596096, 1071644672, 1072693248, 1073741824, 1074266112, 1074790400, 1075314688, 1075838976, 1076363264, 1076887552, 1077411840, 1077936128, 1078460416, 1078984704, 1079508992, 1080033280, 1080557568, 1081081856, 1081606144, 1082130432]
def xT (m : Nat) : Nat := xTab.getD m 0
def eT (m : Nat) : Nat := eTab.getD m 0
def lT (m : Nat) : Nat := lTab.getD m 0
/-- the gap of two numbers -/
def gapF (a b : Nat) : Nat := if (FloatKind.f64.format.order a b == some Ordering.lt) = true then fop .sub .f64 b a else fop .sub .f64 a b
def C001 : Nat := 4562254508917369340
/-! the power of one number -/
structure ExpAt (x e : Nat) : Prop where
  hi : (FloatKind.f32.format.order x 1128792064 == some Ordering.gt) = false
  lo : (FloatKind.f32.format.order x 3276275712 == some Ordering.lt) = false
  nx : nan .f32 x = false
  nt : nan .f64 (tF x) = false
  step : ∀ j, j < 12 → nan .f64 (fop .mul .f64 (tF x) (exP (tF x) j)) = false ∧ nan .f64 (fop .quo .f64 (fop .mul .f64 (tF x) (exP (tF x) j)) (kF j)) = false ∧ nan .f64 (exP (tF x) (j + 1)) = false
  sq : ∀ j, j < 8 → nan .f64 (exS (exP (tF x) 12) (j + 1)) = false
  out : floatToFloatBits .f64 (exS (exP (tF x) 12) 8) .f32 = some e
def expB (x e : Nat) : Bool :=
  !(FloatKind.f32.format.order x 1128792064 == some Ordering.gt) && !(FloatKind.f32.format.order x 3276275712 == some Ordering.lt) && !nan .f32 x && !nan .f64 (tF x) &&
  ((List.range 12).all fun j => !nan .f64 (fop .mul .f64 (tF x) (exP (tF x) j)) && !nan .f64 (fop .quo .f64 (fop .mul .f64 (tF x) (exP (tF x) j)) (kF j)) && !nan .f64 (exP (tF x) (j + 1))) &&
  ((List.range 8).all fun j => !nan .f64 (exS (exP (tF x) 12) (j + 1))) && (floatToFloatBits .f64 (exS (exP (tF x) 12) 8) .f32 == some e)
theorem ExpAt.of {x e : Nat} (h : expB x e = true) : ExpAt x e := by
  unfold expB at h
  simp only [Bool.and_eq_true, Bool.not_eq_true', List.all_eq_true, List.mem_range, beq_iff_eq] at h
  obtain ⟨⟨⟨⟨⟨⟨h1, h2⟩, h3⟩, h4⟩, h5⟩, h6⟩, h7⟩ := h
  exact ⟨h1, h2, h3, h4, fun j hj => ⟨(h5 j hj).1.1, (h5 j hj).1.2, (h5 j hj).2⟩, h6, h7⟩
theorem exp_all : (List.range 129).all (fun m => expB (xT m) (eT m)) = true := by decide +kernel
theorem exp_at {m : Nat} (h : m < 129) : ExpAt (xT m) (eT m) := ExpAt.of (List.all_eq_true.1 exp_all m (List.mem_range.2 h))
/-! the counter -/
def kAtB (j : Nat) : Bool := (FloatKind.f64.format.order (kF j) C1 == some Ordering.gt || FloatKind.f64.format.order (kF j) C1 == some Ordering.eq) && (fop .sub .f64 (kF j) C1 == kF (j + 1)) && !nan .f64 (kF (j + 1))
theorem k_all : (List.range 12).all kAtB = true := by decide +kernel
theorem k_at {j : Nat} (h : j < 12) : (FloatKind.f64.format.order (kF j) 4607182418800017408 == some Ordering.gt || FloatKind.f64.format.order (kF j) 4607182418800017408 == some Ordering.eq) = true ∧ fop .sub .f64 (kF j) C1 = kF (j + 1) ∧ nan .f64 (kF (j + 1)) = false := by
  have := List.all_eq_true.1 k_all j (List.mem_range.2 h)
  unfold kAtB at this
  simp only [Bool.and_eq_true, Bool.not_eq_true', beq_iff_eq] at this
  exact ⟨this.1.1, this.1.2, this.2⟩
theorem k_end : (FloatKind.f64.format.order (kF 12) 4607182418800017408 == some Ordering.gt || FloatKind.f64.format.order (kF 12) 4607182418800017408 == some Ordering.eq) = false := by decide +kernel
theorem k_start : kF 0 = 4622945017495814144 := by decide +kernel
/-! the arguments -/
theorem x_all : (List.range 65).all (fun i => (fop .quo .f32 (floatOfInt .f32 ((i : Int) - 32)) 1090519040 == xT (i + 32)) && !nan .f32 (xT (i + 32))) = true := by decide +kernel
theorem x_at {i : Nat} (h : i < 65) : fop .quo .f32 (floatOfInt .f32 ((i : Int) - 32)) 1090519040 = xT (i + 32) ∧ nan .f32 (xT (i + 32)) = false := by
  have := List.all_eq_true.1 x_all i (List.mem_range.2 h)
  simp only [Bool.and_eq_true, Bool.not_eq_true', beq_iff_eq] at this
  exact this
theorem sum_all : (List.range 65).all (fun i => (List.range 65).all fun j => (fop .add .f32 (xT (i + 32)) (xT (j + 32)) == xT (i + j)) && !nan .f32 (xT (i + j))) = true := by decide +kernel
theorem sum_at {i j : Nat} (hi : i < 65) (hj : j < 65) : fop .add .f32 (xT (i + 32)) (xT (j + 32)) = xT (i + j) ∧ nan .f32 (xT (i + j)) = false := by
  have := List.all_eq_true.1 (List.all_eq_true.1 sum_all i (List.mem_range.2 hi)) j (List.mem_range.2 hj)
  simp only [Bool.and_eq_true, Bool.not_eq_true', beq_iff_eq] at this
  exact this
/-! their logarithms -/
structure LogAt (x e l : Nat) : Prop where
  fin : rg Ieee.single e < 2139095040
  pos : 0 < rg Ieee.single e
  sign : sg Ieee.single e = false
  val : fnar (logF (fwide e)) = l
  nl : nan .f32 l = false
  ngap : nan .f64 (gapF (fwide l) (fwide x)) = false
  gap : (FloatKind.f64.format.order (gapF (fwide l) (fwide x)) 4562254508917369340 == some Ordering.lt) = true
  gt : (FloatKind.f32.format.order e 0 == some Ordering.gt) = true
  ne : nan .f32 e = false
def logAtB (x e l : Nat) : Bool :=
  decide (rg Ieee.single e < 2139095040) && decide (0 < rg Ieee.single e) && !(sg Ieee.single e) && (fnar (logF (fwide e)) == l) && !nan .f32 l && !nan .f64 (gapF (fwide l) (fwide x)) &&
  (FloatKind.f64.format.order (gapF (fwide l) (fwide x)) 4562254508917369340 == some Ordering.lt) && (FloatKind.f32.format.order e 0 == some Ordering.gt) && !nan .f32 e
theorem log_all : (List.range 65).all (fun i => Fl.logAtB (xT (i + 32)) (eT (i + 32)) (lT i)) = true := by decide +kernel
theorem log_at {i : Nat} (h : i < 65) : LogAt (xT (i + 32)) (eT (i + 32)) (lT i) := by
  have := List.all_eq_true.1 log_all i (List.mem_range.2 h)
  unfold Fl.logAtB at this
  simp only [Bool.and_eq_true, Bool.not_eq_true', beq_iff_eq, decide_eq_true_eq] at this
  obtain ⟨⟨⟨⟨⟨⟨⟨⟨h1, h2⟩, h3⟩, h4⟩, h5⟩, h6⟩, h7⟩, h8⟩, h9⟩ := this
  exact ⟨h1, h2, h3, h4, h5, h6, by simpa using h7, by simpa using h8, h9⟩
end Go.Proofs.Fl
