/-
  Products of points of the unit circle, told so that the kernel counts them fast. Over no program. (Printed by gen_circp.py.)
-/
import Derived.Test.YtmehbfcmmffhmaaCircN
namespace Go.Proofs.Fl
open Go Ieee Go.RowKit
set_option linter.unusedVariables false
set_option maxRecDepth 100000
def wreT : List Nat := [4607182418800017408, 4607139046609649664, 4607009347724115968, 4606794571978899456, 4606496786327011328, 4606118860343476224, 4605664431865593856, 4605137878538780672, 4604544271108800512, 4603889326177124352, 4603179351440097280, 4602163548724920320, 4600565431659397120, 4598900923526283264, 4596196889963003904, 4591727300034166784, 0, 13815099336888942592, 13819568926817779712, 13822272960381059072, 13823937468514172928, 13825535585579696128, 13826551388294873088, 13827261363031900160, 13827916307963576320, 13828509915393556480, 13829036468720369664, 13829490897198252032, 13829868823181787136, 13830166608833675264, 13830381384578891776, 13830511083464425472, 13830554455654793216, 13830511083464425472, 13830381384578891776, 13830166608833675264, 13829868823181787136, 13829490897198252032, 13829036468720369664, 13828509915393556480, 13827916307963576320, 13827261363031900160, 13826551388294873088, 13825535585579696128, 13823937468514172928, 13822272960381059072, 13819568926817779712, 13815099336888942592, 0, 4591727300034166784, 4596196889963003904, 4598900923526283264, 4600565431659397120, 4602163548724920320, 4603179351440097280, 4603889326177124352, 4604544271108800512, 4605137878538780672, 4605664431865593856, 4606118860343476224, 4606496786327011328, 4606794571978899456, 4607009347724115968, 4607139046609649664]
def wimT : List Nat := [0, 4591727300034166784, 4596196889963003904, 4598900923526283264, 4600565431659397120, 4602163548724920320, 4603179351440097280, 4603889326177124352, 4604544271108800512, 4605137878538780672, 4605664431865593856, 4606118860343476224, 4606496786327011328, 4606794571978899456, 4607009347724115968, 4607139046609649664, 4607182418800017408, 4607139046609649664, 4607009347724115968, 4606794571978899456, 4606496786327011328, 4606118860343476224, 4605664431865593856, 4605137878538780672, 4604544271108800512, 4603889326177124352, 4603179351440097280, 4602163548724920320, 4600565431659397120, 4598900923526283264, 4596196889963003904, 4591727300034166784, 0, 13815099336888942592, 13819568926817779712, 13822272960381059072, 13823937468514172928, 13825535585579696128, 13826551388294873088, 13827261363031900160, 13827916307963576320, 13828509915393556480, 13829036468720369664, 13829490897198252032, 13829868823181787136, 13830166608833675264, 13830381384578891776, 13830511083464425472, 13830554455654793216, 13830511083464425472, 13830381384578891776, 13830166608833675264, 13829868823181787136, 13829490897198252032, 13829036468720369664, 13828509915393556480, 13827916307963576320, 13827261363031900160, 13826551388294873088, 13825535585579696128, 13823937468514172928, 13822272960381059072, 13819568926817779712, 13815099336888942592]
def wRe (i : Nat) : Nat := wreT.getD i 0
def wIm (i : Nat) : Nat := wimT.getD i 0
theorem w_all : (List.range 64).all (fun i => (fwide (pRe i) == wRe i) && (fwide (pIm i) == wIm i)) = true := by decide +kernel
theorem w_at {i : Nat} (h : i < 64) : fwide (pRe i) = wRe i ∧ fwide (pIm i) = wIm i := by
  have := List.all_eq_true.1 w_all i (List.mem_range.2 h)
  rw [Bool.and_eq_true] at this
  exact ⟨eq_of_beq this.1, eq_of_beq this.2⟩
def nnB (x : Nat) : Bool := Nat.ble (Nat.mod x (nat_lit 9223372036854775808)) (nat_lit 9218868437227405312)
theorem nn_of {x : Nat} (h : nnB x = true) : nan .f64 x = false := by
  unfold nnB at h
  rw [Nat.ble_eq] at h
  rw [nan_eq]
  change decide (D.infRung < rg D x) = false
  rw [show D.infRung = _ from inf64, rgB_eq]
  exact decide_eq_false (Nat.not_lt.2 h)
def gapQ (x p : Nat) : Nat := cond (FloatKind.f64.format.order x p == some Ordering.lt) (subB64 p x) (subB64 x p)
theorem gapQ_eq (x p : Nat) : gapF x p = gapQ x p := by
  unfold gapF gapQ
  rw [← subB_eq, ← subB_eq]
  cases (FloatKind.f64.format.order x p == some Ordering.lt) <;> rfl
def partB (u p : Nat) : Bool := cond (floatToFloatBits .f64 u .f32).isSome (st (fnar u) fun y => cond (nan .f32 y) false (st (fwide y) fun x => st (gapQ x p) fun g => cond (nnB g) (FloatKind.f64.format.order g 4547007122018943789 == some Ordering.lt || FloatKind.f64.format.order g 4547007122018943789 == some Ordering.eq) false)) false
structure PartAt (u p : Nat) : Prop where
  out : floatToFloatBits .f64 u .f32 = some (fnar u)
  nn : nan .f32 (fnar u) = false
  ng : nan .f64 (gapF (fwide (fnar u)) p) = false
  gap : (FloatKind.f64.format.order (gapF (fwide (fnar u)) p) 4547007122018943789 == some Ordering.lt || FloatKind.f64.format.order (gapF (fwide (fnar u)) p) 4547007122018943789 == some Ordering.eq) = true
theorem PartAt.of {u p : Nat} (h : partB u p = true) : PartAt u p := by
  unfold partB at h
  simp only [st_eq, cand] at h
  rw [Bool.and_eq_true] at h
  obtain ⟨h1, h2⟩ := h
  cases hn : nan .f32 (fnar u) with
  | true => rw [hn] at h2; cases h2
  | false =>
    rw [hn] at h2
    change (nnB (gapQ (fwide (fnar u)) p) && _) = true at h2
    rw [Bool.and_eq_true, ← gapQ_eq] at h2
    refine ⟨?_, hn, nn_of h2.1, h2.2⟩
    obtain ⟨r, hr⟩ := Option.isSome_iff_exists.1 h1
    unfold fnar
    rw [hr]
    rfl
/-- the parts of a product -/
def muS (a b c d : Nat) : Nat := fop .sub .f64 (fop .mul .f64 a c) (fop .mul .f64 b d)
def muT (a b c d : Nat) : Nat := fop .add .f64 (fop .mul .f64 a d) (fop .mul .f64 b c)
structure MulAt (a b c d : Nat) : Prop where
  n1 : nan .f64 (fop .mul .f64 a c) = false
  n2 : nan .f64 (fop .mul .f64 b d) = false
  n3 : nan .f64 (muS a b c d) = false
  n4 : nan .f64 (fop .mul .f64 a d) = false
  n5 : nan .f64 (fop .mul .f64 b c) = false
  n6 : nan .f64 (muT a b c d) = false
def mulAtB (a b c d p q : Nat) : Bool :=
  st (mulB a c) fun ac => st (mulB b d) fun bd => st (mulB a d) fun ad => st (mulB b c) fun bc => st (subB64 ac bd) fun u => st (addB ad bc) fun v =>
    cond (nnB ac) (cond (nnB bd) (cond (nnB u) (cond (nnB ad) (cond (nnB bc) (cond (nnB v) (cond (partB u p) (partB v q) false) false) false) false) false) false) false
theorem mulAt_of {a b c d p q : Nat} (h : mulAtB a b c d p q = true) : MulAt a b c d ∧ PartAt (muS a b c d) p ∧ PartAt (muT a b c d) q := by
  unfold mulAtB at h
  simp only [st_eq, cand] at h
  rw [← mulB_eq, ← mulB_eq, ← mulB_eq, ← mulB_eq, ← subB_eq, ← addB_eq] at h
  simp only [Bool.and_eq_true] at h
  obtain ⟨h1, h2, h3, h4, h5, h6, h7, h8⟩ := h
  exact ⟨⟨nn_of h1, nn_of h2, nn_of h3, nn_of h4, nn_of h5, nn_of h6⟩, PartAt.of h7, PartAt.of h8⟩
def circB (i : Nat) : Bool := st (wRe i) fun a => st (wIm i) fun b => (List.range 64).all fun j => st (wRe j) fun c => st (wIm j) fun d => st (Nat.mod (Nat.add i j) (nat_lit 64)) fun k => st (wRe k) fun p => st (wIm k) fun q => mulAtB a b c d p q
theorem circB_at {i j : Nat} (h : circB i = true) (hj : j < 64) : mulAtB (wRe i) (wIm i) (wRe j) (wIm j) (wRe ((i + j) % 64)) (wIm ((i + j) % 64)) = true := by
  unfold circB at h
  simp only [st_eq] at h
  exact List.all_eq_true.1 h j (List.mem_range.2 hj)
end Go.Proofs.Fl
