/-
  Which float32 have a logarithm: the cases of a word, and what the tests say of it. Over no program.
-/
import Derived.Test.YtmehbfcmmffhmaaLogN
namespace Go.Proofs.Fl
open Go Ieee Go.RowKit

structure Neg32 (x : Nat) : Prop where
  fin : rg Ieee.single x < 2139095040
  pos : 0 < rg Ieee.single x
  sign : sg Ieee.single x = true
structure Pos32 (x : Nat) : Prop where
  fin : rg Ieee.single x < 2139095040
  pos : 0 < rg Ieee.single x
  sign : sg Ieee.single x = false
theorem cases32 {x : Nat} (hx : x < 4294967296) : nan .f32 x = true ∨ x = 0 ∨ x = 2147483648 ∨ x = 2139095040 ∨ x = 4286578688 ∨ Neg32 x ∨ Pos32 x := by
  have hw := word_parts Ieee.single x (by rw [sw32]; omega)
  rw [sw32] at hw
  cases hn : nan .f32 x
  · have hr := rg_le_of hn
    change rg Ieee.single x ≤ Ieee.single.infRung at hr
    rw [inf32] at hr
    rcases Nat.eq_zero_or_pos (rg Ieee.single x) with h0 | h0
    · rw [h0] at hw
      cases hs : sg Ieee.single x <;> rw [hs] at hw <;> simp at hw <;> omega
    · rcases Nat.lt_or_eq_of_le hr with h1 | h1
      · cases hs : sg Ieee.single x
        · exact .inr (.inr (.inr (.inr (.inr (.inr ⟨h1, h0, hs⟩)))))
        · exact .inr (.inr (.inr (.inr (.inr (.inl ⟨h1, h0, hs⟩)))))
      · rw [h1] at hw
        cases hs : sg Ieee.single x <;> rw [hs] at hw <;> simp at hw <;> omega
  · exact .inl rfl
theorem nn_fin {x : Nat} (h : rg Ieee.single x < 2139095040) : nan .f32 x = false := by
  rw [nan_eq]
  change decide (Ieee.single.infRung < rg Ieee.single x) = false
  rw [inf32]
  exact decide_eq_false (by omega)
theorem Mg32_pos {x : Nat} (h : 0 < rg Ieee.single x) : 1 ≤ Fl.Mg Ieee.single (rg Ieee.single x) := by
  have := Mg_smono Ieee.single h
  omega
theorem sv32_zero : sv Ieee.single 0 = 0 := by decide +kernel
theorem sv64_zero : sv D 0 = 0 := by decide +kernel
theorem rg0_32 : rg Ieee.single 0 ≤ Ieee.single.infRung := by decide +kernel
theorem rg0_64 : rg D 0 ≤ D.infRung := by decide +kernel
theorem lt32 (x : Nat) (h : rg Ieee.single x < 2139095040) : (FloatKind.f32.format.order x 0 == some Ordering.lt) = decide (sv Ieee.single x < 0) := by
  rw [lss_sv (f := .f32) (x := x) (c := 0) (by show rg Ieee.single x ≤ Ieee.single.infRung; rw [inf32]; omega) rg0_32]
  rw [show sv FloatKind.f32.format 0 = 0 from sv32_zero]
  rfl
theorem eq32 (x : Nat) (h : rg Ieee.single x < 2139095040) : (FloatKind.f32.format.order x 0 == some Ordering.eq) = decide (sv Ieee.single x = 0) := by
  have := neq_sv (f := .f32) (x := x) (c := 0) (by show rg Ieee.single x ≤ Ieee.single.infRung; rw [inf32]; omega) rg0_32
  rw [show sv FloatKind.f32.format 0 = 0 from sv32_zero] at this
  change _ = decide (sv Ieee.single x ≠ 0) at this
  unfold bne at this
  cases he : (FloatKind.f32.format.order x 0 == some Ordering.eq) <;> simp_all
theorem le32 (x : Nat) (h : rg Ieee.single x < 2139095040) : (FloatKind.f32.format.order x 0 == some Ordering.lt || FloatKind.f32.format.order x 0 == some Ordering.eq) = decide (sv Ieee.single x ≤ 0) := by
  rw [leq_sv (f := .f32) (x := x) (c := 0) (by show rg Ieee.single x ≤ Ieee.single.infRung; rw [inf32]; omega) rg0_32]
  rw [show sv FloatKind.f32.format 0 = 0 from sv32_zero]
  rfl
theorem Neg32.sv {x : Nat} (h : Neg32 x) : sv Ieee.single x < 0 := by
  have := Mg32_pos h.pos
  unfold Fl.sv
  rw [h.sign]
  simp only [if_true]
  omega
theorem Pos32.sv {x : Nat} (h : Pos32 x) : 0 < sv Ieee.single x := by
  have := Mg32_pos h.pos
  unfold Fl.sv
  rw [h.sign]
  simp only [Bool.false_eq_true, if_false]
  omega
theorem Neg32.wide_lt {x : Nat} (h : Neg32 x) : (FloatKind.f64.format.order (fwide x) 0 == some Ordering.lt) = true := by
  have hw := wide_fin x h.fin
  rw [lss_sv (f := .f64) (x := fwide x) (c := 0) (by show rg D (fwide x) ≤ D.infRung; rw [show D.infRung = _ from inf64]; exact Nat.le_of_lt hw.2.2.1) rg0_64]
  rw [show Fl.sv FloatKind.f64.format 0 = 0 from sv64_zero]
  apply decide_eq_true
  show Fl.sv D (fwide x) < 0
  unfold Fl.sv
  rw [hw.2.1, h.sign, if_pos rfl, hw.2.2.2]
  have := Nat.mul_pos (Mg32_pos h.pos) w925_pos
  omega
theorem Mg_874 : Fl.Mg D (873 * 4503599627370496) ≤ w925 := by decide +kernel
theorem Pos32.log {x : Nat} (h : Pos32 x) : LogIn (fwide x) := by
  have hw := wide_fin x h.fin
  have hp := word_parts D (fwide x) (by rw [sw64]; exact fwide_lt)
  rw [hw.2.1, h.sign] at hp
  simp only [Bool.false_eq_true, if_false, Nat.zero_add] at hp
  constructor
  · rw [hp]
    refine (Mg_le_iff D).1 (Nat.le_trans Mg_874 ?_)
    rw [hw.2.2.2]
    exact Nat.le_mul_of_pos_left _ (Mg32_pos h.pos)
  · have := (F2.wide h.fin).2
    rw [← hp] at this
    unfold P2 at this
    omega
theorem finB_fin {x : Nat} (h : rg Ieee.single x < 2139095040) : finB x = true := by rw [finB_told]; exact decide_eq_true h
theorem fw0 : fwide 0 = 0 := by decide +kernel
theorem fw1 : fwide 2147483648 = 9223372036854775808 := by decide +kernel
theorem fw2 : fwide 2139095040 = 9218868437227405312 := by decide +kernel
theorem fw3 : fwide 4286578688 = 18442240474082181120 := by decide +kernel
theorem fn_inf : fnar 9218868437227405312 = 2139095040 := by decide +kernel
theorem fits_qn : Fits (qn .f64) := .inl (nan_qn _)
theorem fits_pinf : Fits 9218868437227405312 := Fits_inf (by decide +kernel)
theorem fits_ninf : Fits 18442240474082181120 := Fits_inf (by decide +kernel)
theorem fin_nan {x : Nat} (h : nan .f32 x = true) : finB x = false := by
  rw [finB_told]
  rw [nan_eq] at h
  have h' : Ieee.single.infRung < rg Ieee.single x := of_decide_eq_true h
  rw [inf32] at h'
  exact decide_eq_false (by omega)
theorem nan_lt {k : FloatKind} {x c : Nat} (h : nan k x = true) : (k.format.order x c == some Ordering.lt) = false := by rw [order_nan_left h]; rfl
theorem nan_eql {k : FloatKind} {x c : Nat} (h : nan k x = true) : (k.format.order x c == some Ordering.eq) = false := by rw [order_nan_left h]; rfl
theorem nan_neq {k : FloatKind} {x c : Nat} (h : nan k x = true) : (k.format.order x c != some Ordering.eq) = true := by rw [order_nan_left h]; rfl
end Go.Proofs.Fl
