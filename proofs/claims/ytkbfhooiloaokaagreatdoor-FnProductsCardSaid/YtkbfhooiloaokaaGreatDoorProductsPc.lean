/-
  FnProducts: whatever the input, the law returns true and leaves its arguments as they were (statement Rows.FnProductsSaid). No condition of its own.
-/
import Derived.LoopTactic
import Derived.Deep.QuietTactic
import Derived.BigQuiet
import Derived.Deep.RegionLaw
import Derived.SizedLaws
import Derived.Handed
import Derived.Shelf.Vars
import Derived.Test.YtkbfhooiloaokaaGreatDoorRows
import Derived.Test.YtkbfhooiloaokaaGreatDoorCards
import Derived.Test.YtkbfhooiloaokaaGreatDoorTie
import Derived.Stop.LaidErr
import Derived.LaidMore
import Derived.SevenTiedAt
import Derived.Lib.LaidTab
import Derived.WalkKit
import Derived.ProofKit
import Derived.OpenShut
import Derived.ShutString
import Derived.Laws.Cover2
import Derived.ChangeOld
import Derived.Below
import Derived.Test.YtkbfhooiloaokaaGreatDoorProductsPb
/-
  The reference's draws of complex numbers: l01DrawFine, l01DrawComplex, l01DrawComplexes, B10Any, B10Complex, B10Whole.
-/
namespace Go.Proofs.YtkbfhooiloaokaaGreatDoor.Num
open Go.RowKit Go.Proofs.Fl
set_option linter.unusedVariables false
def fineT (i : Nat) : Nat := fop .quo .f32 (floatOfInt .f32 ((i : Int) - 32)) 1098907648
theorem fine_all : (List.range 65).all (fun i => !nan .f32 (fineT i) && decide (fineT i < 4294967296)) = true := by decide +kernel
theorem fine_at {i : Nat} (h : i < 65) : nan .f32 (fineT i) = false ∧ fineT i < 4294967296 := by
  have := List.all_eq_true.1 fine_all i (List.mem_range.2 h)
  simp only [Bool.and_eq_true, Bool.not_eq_true', decide_eq_true_eq] at this
  exact this
/-- returned a complex number -/
def RetCx (g : Nat) (A : Option Addr) (n c : Nat) (xs : List Int) (a k : Nat) (w : World) (e : Ending) (w' : World) : Prop := (∃ x y : Nat, x < 4294967296 ∧ y < 4294967296 ∧ e = .returned (.complex .f32 x y)) ∧ SrcTo w g A n c xs a k w'
theorem fineC_calls (g : Nat) (A : Option Addr) (n c : Nat) (xs : List Int) (a : Nat) (ha : a < 700000000) (hn : n ≤ maxLen) (w : World) (h : SrcIs w g A n c xs a) :
    Calls Tryz.prog 58 #[.pointer (some ⟨g, 0, none⟩)] w (RetCx g A n c xs a 24 w) := by
  have HC := hid (pick_calls 65 g A n c xs a (by omega) hn (by decide) (by decide) w h)
  have HN := hid hn
  clear h hn
  go_enter Tryz.func58, Tryz.ntmps58
  go_wp2_with fail
  refine HC.out.mono ?_
  rintro e w1 ⟨⟨i, hi, rfl⟩, ⟨a1, ha1, hs1⟩, hk1⟩
  have HC2 := hid (pick_calls 65 g A n c xs a1 (by omega) HN.out (by decide) (by decide) w1 hs1)
  have HK := hid hk1
  have qi := fun w => run_fop_det (P := Tryz.prog) (show nan .f32 (fop .quo .f32 (floatOfInt .f32 ((i : Int) - 32)) 1098907648) = false from (fine_at hi).1) 28 w
  have HI := hid (show fop .quo .f32 (floatOfInt .f32 ((i : Int) - 32)) 1098907648 < 4294967296 from (fine_at hi).2)
  generalize fop .quo .f32 (floatOfInt .f32 ((i : Int) - 32)) 1098907648 = x at *
  clear hs1 hk1 HC
  go_wp2_with fail
  refine HC2.out.mono ?_
  rintro e w2 ⟨⟨j, hj, rfl⟩, ⟨a2, ha2, hs2⟩, hk2⟩
  have HS2 := hid hs2
  have HK2 := hid (HK.out.trans hk2)
  have qj := fun w => run_fop_det (P := Tryz.prog) (show nan .f32 (fop .quo .f32 (floatOfInt .f32 ((j : Int) - 32)) 1098907648) = false from (fine_at hj).1) 28 w
  have HJ := hid (show fop .quo .f32 (floatOfInt .f32 ((j : Int) - 32)) 1098907648 < 4294967296 from (fine_at hj).2)
  generalize fop .quo .f32 (floatOfInt .f32 ((j : Int) - 32)) 1098907648 = y at *
  clear hs2 hk2 HC2
  go_wp2_with fail
  go_ret
  exact ⟨⟨x, y, HI.out, HJ.out, rfl⟩, ⟨a2, by omega, HS2.out⟩, HK2.out⟩
theorem cxC_calls (g : Nat) (A : Option Addr) (n c : Nat) (xs : List Int) (a : Nat) (ha : a < 600000000) (hn : n ≤ maxLen) (w : World) (h : SrcIs w g A n c xs a) :
    Calls Tryz.prog 57 #[.pointer (some ⟨g, 0, none⟩)] w (RetCx g A n c xs a 24 w) := by
  have HC := hid (float_calls g A n c xs a (by omega) hn w h)
  have HN := hid hn
  clear h hn
  go_enter Tryz.func57, Tryz.ntmps57
  go_wp2_with fail
  refine HC.out.mono ?_
  rintro e w1 ⟨⟨x, hx, rfl⟩, ⟨a1, ha1, hs1⟩, hk1⟩
  have HC2 := hid (float_calls g A n c xs a1 (by omega) HN.out w1 hs1)
  have HK := hid hk1
  have HX := hid hx
  clear hs1 hk1 HC hx
  go_wp2_with fail
  refine HC2.out.mono ?_
  rintro e w2 ⟨⟨y, hy, rfl⟩, ⟨a2, ha2, hs2⟩, hk2⟩
  have HS2 := hid hs2
  have HK2 := hid (HK.out.trans hk2)
  have HY := hid hy
  clear hs2 hk2 HC2 hy
  go_wp2_with fail
  go_ret
  exact ⟨⟨x, y, HX.out, HY.out, rfl⟩, ⟨a2, by omega, HS2.out⟩, HK2.out⟩
def okC (z : Nat × Nat) : Prop := z.1 < 4294967296 ∧ z.2 < 4294967296
theorem okC_snoc {ys : List (Nat × Nat)} {P : Nat × Nat → Prop} {z : Nat × Nat} (h : ∀ y ∈ ys, P y) (hz : P z) : ∀ y ∈ ys ++ [z], P y := by
  intro y hy
  rcases List.mem_append.1 hy with h1 | h1
  · exact h y h1
  · rw [List.mem_singleton.1 h1]; exact hz
/-- returned a new list of m complex numbers -/
def RetCxs (P : Nat × Nat → Prop) (g : Nat) (m : Nat) (w : World) (e : Ending) (w' : World) : Prop :=
  ∃ A1 c1 ys, ys.length = m ∧ (∀ y ∈ ys, P y) ∧ e = .returned (.slice A1 m c1) ∧ w'.ownsRow w.heap.size 24 1 (.slice A1 m c1) m (c64s ys) ∧ Kept w w' [some g]
set_option maxRecDepth 100000 in
set_option maxHeartbeats 3200000 in
theorem cxs_calls (m g : Nat) (A : Option Addr) (n c : Nat) (xs : List Int) (hn : n ≤ maxLen) (hm : m ≤ 1000) (w : World) (h : SrcIs w g A n c xs 0) :
    Calls Tryz.prog 46 #[.pointer (some ⟨g, 0, none⟩), .int .i64 (m : Int)] w (RetCxs okC g m w) := by
  obtain ⟨i0, hi0, hz0, hz1, hz2⟩ := info_parts1 c64_info
  have hgB := h.lt
  have HN := hid hn
  have HS0 := hid (h.step ((Below.refl w.heap.size w).alloc (Nat.le_refl _) (.cells #[] 24)))
  have HC := hid (one_calls 5 g A n c xs 0 (by omega) hn (by decide) (by decide) (w.alloc (.cells #[] 24)) HS0.out)
  have HO0 := hid (own_none (w := w) (base := w.heap.size) (e := 24) (Nat.le_refl _))
  have HK0 := hid ((Kept.refl w [some g]).alloc (.cells #[] 24))
  clear h hn
  go_enter Tryz.func46, Tryz.ntmps46
  go_wp2_with fail
  refine HC.out.mono ?_
  rintro e w1 ⟨⟨b, rfl⟩, ⟨a1, ha1, hs1⟩, hk1⟩
  have HS1 := hid hs1
  have HK1 := hid (HK0.out.trans hk1)
  have HO1 := hid (own_kept HO0.out hk1 hgB)
  clear hs1 hk1 HC HK0 HO0 HS0
  go_wp2_with fail
  go_loopw [1, 5] (fun q o wr => ∃ (k c3 a3 : Nat) (A3 : Option Addr) (ys : List (Nat × Nat)), k ≤ m ∧ a3 ≤ 2 + 24 * k ∧ q = .int .i64 ((m : Int) - (k : Int)) ∧ o = .slice A3 k c3 ∧ Hid (∀ y ∈ ys, okC y) ∧ Hid (wr.ownsRow w.heap.size 24 1 (.slice A3 k c3) k (c64s ys)) ∧ Hid (SrcIs wr g A n c xs a3) ∧ Hid (Kept w wr [some g])) (fun q _ _ => (intOf q).toNat)
  case atStart => exact ⟨0, 0, a1, _, [], Nat.zero_le _, by omega, by simp, rfl, hid (by simp), HO1, HS1, HK1⟩
  case round =>
    obtain ⟨k, c3, a3, A3, ys, hk, ha3, rfl, rfl, hys, hown, hsrc, hkept⟩ := hrel
    clear HS1 HK1 HO1
    by_cases hlt : k < m
    · have hc0 : (0 : Int) < (m : Int) - (k : Int) := by omega
      cases b
      · have HC := hid (fineC_calls g A n c xs a3 (by omega) HN.out wr hsrc.out)
        go_wp2_with fail
        refine HC.out.mono ?_
        rintro e w2 ⟨⟨x, y, hx, hy, rfl⟩, ⟨a2, ha2, hs2⟩, hk2⟩
        have HX := hid (show okC (x, y) from ⟨hx, hy⟩)
        have HS2 := hid hs2
        have HO2 := hid (own_kept hown.out hk2 hgB)
        have HK2 := hid (hkept.out.trans hk2)
        have hsz := HK2.out.size
        clear hs2 hk2 HC hown hsrc hkept hx hy
        go_wp2_with (at_builtin; refine wpList_append_lies _ rfl _ _ 25 rfl w.heap.size 24 i0 (Value.complex .f32 0 0) 1 8 Tryz.underlying25 hi0 hz0 hz1 hz2 rfl (by decide) (.slice A3 k c3) k (c64s ys) rfl (HO2.out.alloc _) ⟨_, 0, none⟩ 1 1 [.complex .f32 x y] rfl rfl (any_new _ _ _) (c64s_oneCell [(x, y)]) (by decide) (by unfold maxLen; omega) (by omega) (by simp; omega) _ rfl ?_; intro g2 c4 w5 hown3 hgrow hat hlt2; rw [c64s_snoc ys (x, y)] at hown3; have OW2 := hid hown3; have BL2 := hid (grown_belowB hsz HO2.out hgrow); clear hown3 hgrow hat hlt2)
        go_roundw
        case rel => exact ⟨k + 1, c4, a2, _, ys ++ [(x, y)], hlt, by omega, by go_num, rfl, hid (okC_snoc hys.out HX.out), OW2, hid (HS2.out.stepB BL2.out hgB), hid (HK2.out.below_after BL2.out)⟩
        case measure => simp [intOf]; omega
      · have HC := hid (cxC_calls g A n c xs a3 (by omega) HN.out wr hsrc.out)
        go_wp2_with fail
        refine HC.out.mono ?_
        rintro e w2 ⟨⟨x, y, hx, hy, rfl⟩, ⟨a2, ha2, hs2⟩, hk2⟩
        have HX := hid (show okC (x, y) from ⟨hx, hy⟩)
        have HS2 := hid hs2
        have HO2 := hid (own_kept hown.out hk2 hgB)
        have HK2 := hid (hkept.out.trans hk2)
        have hsz := HK2.out.size
        clear hs2 hk2 HC hown hsrc hkept hx hy
        go_wp2_with (at_builtin; refine wpList_append_lies _ rfl _ _ 25 rfl w.heap.size 24 i0 (Value.complex .f32 0 0) 1 8 Tryz.underlying25 hi0 hz0 hz1 hz2 rfl (by decide) (.slice A3 k c3) k (c64s ys) rfl (HO2.out.alloc _) ⟨_, 0, none⟩ 1 1 [.complex .f32 x y] rfl rfl (any_new _ _ _) (c64s_oneCell [(x, y)]) (by decide) (by unfold maxLen; omega) (by omega) (by simp; omega) _ rfl ?_; intro g2 c4 w5 hown3 hgrow hat hlt2; rw [c64s_snoc ys (x, y)] at hown3; have OW2 := hid hown3; have BL2 := hid (grown_belowB hsz HO2.out hgrow); clear hown3 hgrow hat hlt2)
        go_roundw
        case rel => exact ⟨k + 1, c4, a2, _, ys ++ [(x, y)], hlt, by omega, by go_num, rfl, hid (okC_snoc hys.out HX.out), OW2, hid (HS2.out.stepB BL2.out hgB), hid (HK2.out.below_after BL2.out)⟩
        case measure => simp [intOf]; omega
    · obtain rfl : k = m := by omega
      have hyl : ys.length = k := by have := hown.out.1; rwa [c64s_length, Nat.mul_one] at this
      go_wp2
      go_ret
      exact ⟨A3, c3, ys, hyl, hys.out, rfl, hown.out, hkept.out⟩
/-- returned a new list of m complex numbers; what was there is as it was -/
def RetLst (P : Nat × Nat → Prop) (m : Nat) (w : World) (e : Ending) (w' : World) : Prop := ∃ A1 c1 ys, ys.length = m ∧ (∀ y ∈ ys, P y) ∧ e = .returned (.slice A1 m c1) ∧ OwnV w' 24 A1 m c1 (c64s ys) ∧ Below w.heap.size w w'
theorem B10Any_calls (m : Nat) (hm : m ≤ 1000) (A : Option Addr) (n c : Nat) (xs : List Int) (hx : xs.length = n) (h8 : ∀ z ∈ xs, 0 ≤ z ∧ z ≤ 255) (hn : n ≤ maxLen) (w : World) (ha : Rd w w.heap.size A (xs.map (Value.int .u8))) :
    Calls Tryz.prog 15 #[.slice A n c, .int .i64 (m : Int)] w (RetLst okC m w) := by
  have HC := hid (l00From_calls A n c xs hx h8 w ha)
  have HN := hid hn
  clear hx h8 ha hn
  go_enter Tryz.func15, Tryz.ntmps15
  go_wp2_with fail
  refine HC.out.mono ?_
  rintro e w1 ⟨g, hg, rfl, hs1, hb1⟩
  have HF := hid (cxs_calls m g A n c xs HN.out hm w1 hs1)
  have HB := hid hb1
  clear hs1 hb1 HC
  go_wp2_with fail
  refine HF.out.mono ?_
  rintro e w2 ⟨A1, c1, ys, hl, hy, rfl, ho, hk⟩
  have HL := hid hl
  have HY := hid hy
  have HO := hid (ownV_any ho).1
  have HK := hid hk
  clear hl hy ho hk
  go_wp2
  go_ret
  exact ⟨A1, c1, ys, HL.out, HY.out, rfl, HO.out, src_below HB.out hg HK.out⟩
/-- returned a complex number; what was there is as it was -/
def RetOneC (w : World) (e : Ending) (w' : World) : Prop := (∃ x y : Nat, x < 4294967296 ∧ y < 4294967296 ∧ e = .returned (.complex .f32 x y)) ∧ Below w.heap.size w w'
theorem B10Complex_calls (A : Option Addr) (n c : Nat) (xs : List Int) (hx : xs.length = n) (h8 : ∀ z ∈ xs, 0 ≤ z ∧ z ≤ 255) (hn : n ≤ maxLen) (w : World) (ha : Rd w w.heap.size A (xs.map (Value.int .u8))) :
    Calls Tryz.prog 22 #[.slice A n c] w (RetOneC w) := by
  have HC := hid (l00From_calls A n c xs hx h8 w ha)
  have HN := hid hn
  clear hx h8 ha hn
  go_enter Tryz.func22, Tryz.ntmps22
  go_wp2_with fail
  refine HC.out.mono ?_
  rintro e w1 ⟨g, hg, rfl, hs1, hb1⟩
  have HO := hid (one_calls 4 g A n c xs 0 (by omega) HN.out (by decide) (by decide) w1 hs1)
  have HB := hid hb1
  clear hs1 hb1 HC
  go_wp2_with fail
  refine HO.out.mono ?_
  rintro e w2 ⟨⟨b, rfl⟩, ⟨a2, ha2, hs2⟩, hk2⟩
  have HS2 := hid hs2
  have HK2 := hid hk2
  clear hs2 hk2 HO
  cases b
  · have HC := hid (fineC_calls g A n c xs a2 (by omega) HN.out w2 HS2.out)
    go_wp2_with fail
    refine HC.out.mono ?_
    rintro e w3 ⟨⟨x, y, hx, hy, rfl⟩, ⟨a3, ha3, hs3⟩, hk3⟩
    have HX := hid (And.intro hx hy)
    have HK3 := hid (HK2.out.trans hk3)
    clear hs3 hk3 HC hx hy
    go_wp2
    go_ret
    exact ⟨⟨x, y, HX.out.1, HX.out.2, rfl⟩, src_below HB.out hg HK3.out⟩
  · have HC := hid (cxC_calls g A n c xs a2 (by omega) HN.out w2 HS2.out)
    go_wp2_with fail
    refine HC.out.mono ?_
    rintro e w3 ⟨⟨x, y, hx, hy, rfl⟩, ⟨a3, ha3, hs3⟩, hk3⟩
    have HX := hid (And.intro hx hy)
    have HK3 := hid (HK2.out.trans hk3)
    clear hs3 hk3 HC hx hy
    go_wp2
    go_ret
    exact ⟨⟨x, y, HX.out.1, HX.out.2, rfl⟩, src_below HB.out hg HK3.out⟩
/-- both parts are whole numbers from -200 to 200 -/
def whole200 (z : Nat × Nat) : Prop := ∃ a b : Int, a.natAbs ≤ 200 ∧ b.natAbs ≤ 200 ∧ z = (floatOfInt .f32 a, floatOfInt .f32 b)
set_option maxRecDepth 100000 in
set_option maxHeartbeats 3200000 in
theorem B10Whole_calls (m : Nat) (hm : m ≤ 1000) (A : Option Addr) (n c : Nat) (xs : List Int) (hx : xs.length = n) (h8 : ∀ z ∈ xs, 0 ≤ z ∧ z ≤ 255) (hn : n ≤ maxLen) (w : World) (ha : Rd w w.heap.size A (xs.map (Value.int .u8))) :
    Calls Tryz.prog 6 #[.slice A n c, .int .i64 (m : Int), .int .i64 200] w (RetLst whole200 m w) := by
  obtain ⟨i0, hi0, hz0, hz1, hz2⟩ := info_parts1 c64_info
  have HC := hid (l00From_calls A n c xs hx h8 w ha)
  have HN := hid hn
  clear hx h8 ha hn
  go_enter Tryz.func6, Tryz.ntmps6
  go_wp2_with fail
  refine HC.out.mono ?_
  rintro e w1 ⟨g, hg, rfl, hs1, hb1⟩
  have hgB := hs1.lt
  have HB := hid hb1
  have HS1 := hid (hs1.step ((Below.refl w1.heap.size w1).alloc (Nat.le_refl _) (.cells #[] 24)))
  have HO1 := hid (own_none (w := w1) (base := w1.heap.size) (e := 24) (Nat.le_refl _))
  have HK1 := hid ((Kept.refl w1 [some g]).alloc (.cells #[] 24))
  clear hs1 hb1 HC
  go_wp2_with fail
  go_loopw [1, 8] (fun q o wr => ∃ (k c3 a3 : Nat) (A3 : Option Addr) (ys : List (Nat × Nat)), k ≤ m ∧ a3 ≤ 4 * k ∧ q = .int .i64 ((m : Int) - (k : Int)) ∧ o = .slice A3 k c3 ∧ Hid (∀ y ∈ ys, whole200 y) ∧ Hid (wr.ownsRow w1.heap.size 24 1 (.slice A3 k c3) k (c64s ys)) ∧ Hid (SrcIs wr g A n c xs a3) ∧ Hid (Kept w1 wr [some g])) (fun q _ _ => (intOf q).toNat)
  case atStart => exact ⟨0, 0, 0, _, [], Nat.zero_le _, by omega, by simp, rfl, hid (by simp), HO1, HS1, HK1⟩
  case round =>
    obtain ⟨k, c3, a3, A3, ys, hk, ha3, rfl, rfl, hys, hown, hsrc, hkept⟩ := hrel
    clear HS1 HK1 HO1
    by_cases hlt : k < m
    · have hc0 : (0 : Int) < (m : Int) - (k : Int) := by omega
      have HC := hid (pick_calls 401 g A n c xs a3 (by omega) HN.out (by decide) (by decide) wr hsrc.out)
      go_wp2_with fail
      refine HC.out.mono ?_
      rintro e w2 ⟨⟨i, hi, rfl⟩, ⟨a2, ha2, hs2⟩, hk2⟩
      have HC2 := hid (pick_calls 401 g A n c xs a2 (by omega) HN.out (by decide) (by decide) w2 hs2)
      have HO2 := hid (own_kept hown.out hk2 hgB)
      have HK2 := hid (hkept.out.trans hk2)
      clear hs2 hk2 HC hown hsrc hkept
      go_wp2_with fail
      refine HC2.out.mono ?_
      rintro e w3 ⟨⟨j, hj, rfl⟩, ⟨a4, ha4, hs4⟩, hk4⟩
      have HS3 := hid hs4
      have HO3 := hid (own_kept HO2.out hk4 hgB)
      have HK3 := hid (HK2.out.trans hk4)
      have hsz := HK3.out.size
      have HX := hid (show whole200 (floatOfInt .f32 ((i : Int) - 200), floatOfInt .f32 ((j : Int) - 200)) from ⟨(i : Int) - 200, (j : Int) - 200, by omega, by omega, rfl⟩)
      clear hs4 hk4 HC2 HO2 HK2
      go_wp2_with (at_builtin; refine wpList_append_lies _ rfl _ _ 25 rfl w1.heap.size 24 i0 (Value.complex .f32 0 0) 1 8 Tryz.underlying25 hi0 hz0 hz1 hz2 rfl (by decide) (.slice A3 k c3) k (c64s ys) rfl (HO3.out.alloc _) ⟨_, 0, none⟩ 1 1 [.complex .f32 (floatOfInt .f32 ((i : Int) - 200)) (floatOfInt .f32 ((j : Int) - 200))] rfl rfl (any_new _ _ _) (c64s_oneCell [(floatOfInt .f32 ((i : Int) - 200), floatOfInt .f32 ((j : Int) - 200))]) (by decide) (by unfold maxLen; omega) (by omega) (by simp; omega) _ rfl ?_; intro g2 c4 w5 hown3 hgrow hat hlt2; rw [c64s_snoc ys (floatOfInt .f32 ((i : Int) - 200), floatOfInt .f32 ((j : Int) - 200))] at hown3; have OW2 := hid hown3; have BL2 := hid (grown_belowB hsz HO3.out hgrow); clear hown3 hgrow hat hlt2)
      go_roundw
      case rel => exact ⟨k + 1, c4, a4, _, ys ++ [(floatOfInt .f32 ((i : Int) - 200), floatOfInt .f32 ((j : Int) - 200))], hlt, by omega, by go_num, rfl, hid (okC_snoc hys.out HX.out), OW2, hid (HS3.out.stepB BL2.out hgB), hid (HK3.out.below_after BL2.out)⟩
      case measure => simp [intOf]; omega
    · obtain rfl : k = m := by omega
      have hyl : ys.length = k := by have := hown.out.1; rwa [c64s_length, Nat.mul_one] at this
      go_wp2
      go_ret
      exact ⟨A3, c3, ys, hyl, hys.out, rfl, (ownV_any hown.out).1, src_below HB.out hg hkept.out⟩
end Go.Proofs.YtkbfhooiloaokaaGreatDoor.Num
/-
  Whether a float32 is finite: both texts take it from itself and look for zero.
-/
namespace Go.Proofs.YtkbfhooiloaokaaGreatDoor.Num
open Go.RowKit Go.Proofs.Fl
set_option linter.unusedVariables false

theorem l01Finite_calls (x : Nat) (w : World) : Calls Tryz.prog 62 #[.float .f32 x] w (Ret (.bool (finB x)) w) := by
  go_enter Tryz.func62, Tryz.ntmps62
  go_wp2_with (refine wpList_fop rfl rfl rfl rfl ?_; intro v n hv)
  go_ret
  exact ⟨ret_bool (finB_eq hv), _, rfl⟩
theorem IsFinite_calls (x : Nat) (w : World) : Calls Tryz.prog 61 #[.float .f32 x] w (Ret (.bool (finB x)) w) := by
  go_enter Tryz.func61, Tryz.ntmps61
  go_wp2_with (refine wpList_fop rfl rfl rfl rfl ?_; intro v n hv)
  go_ret
  exact ⟨ret_bool (finB_eq hv), _, rfl⟩
end Go.Proofs.YtkbfhooiloaokaaGreatDoor.Num
/-
  Complex numbers compared, narrowed and read back, as FnProducts calls them.
-/
namespace Go.Proofs.YtkbfhooiloaokaaGreatDoor.Num
open Go.RowKit Go.Proofs.Fl Go.Proofs.Hx Go.Proofs.Tx
set_option linter.unusedVariables false
set_option linter.unusedSimpArgs false
theorem W32.lt {x : Nat} (h : W32 x) (hn : nan .f32 x = false) : x < 4294967296 := by
  rcases h with h | h
  · rw [hn] at h; cases h
  · exact h
theorem SameI_any (x y : Nat) (hx : W32 x) (hy : W32 y) (b : Bool) (hb : sameB x y = b) (w : World) :
    Calls Tryz.prog 60 #[.float .f32 x, .float .f32 y] w (Ret (.bool b) w) := by
  subst hb
  have ex := order_self .f32 x
  have ey := order_self .f32 y
  by_cases hn : nan .f32 x = true ∨ nan .f32 y = true
  · have hs := hid (same_of_nan hn)
    clear hx hy
    cases h1 : nan .f32 x <;> cases h2 : nan .f32 y <;> rw [h1] at ex <;> rw [h2] at ey <;> first | (simp [h1, h2] at hn; done) | skip
    all_goals
      clear hn
      have H1 := hid h1
      have H2 := hid h2
      clear h1 h2
      go_enter Tryz.func60, Tryz.ntmps60
      go_wp2
      go_ret
      exact ⟨ret_bool (by rw [hs.out, H1.out, H2.out]; rfl), 0, rfl⟩
  · obtain ⟨h1, h2⟩ : nan .f32 x = false ∧ nan .f32 y = false := by simpa using hn
    have hs := hid (same_spell h1 h2 (hx.lt h1) (hy.lt h2))
    have cx : ∀ w, (convert 28 46 (.float .f32 x)).run Tryz.prog w = .ok (.float .f64 (fwide x)) w := fun w => run_convert_float_float w _ _ .f32 .f64 x _ (by kernel_rfl) Tryz.underlying46 (wide_some h1)
    have cy : ∀ w, (convert 28 46 (.float .f32 y)).run Tryz.prog w = .ok (.float .f64 (fwide y)) w := fun w => run_convert_float_float w _ _ .f32 .f64 y _ (by kernel_rfl) Tryz.underlying46 (wide_some h2)
    have sx := signbit64 (fwide x)
    have sy := signbit64 (fwide y)
    rw [h1] at ex
    rw [h2] at ey
    clear hn h1 h2 hx hy
    cases ho : (FloatKind.f32.format.order x y == some Ordering.eq)
    all_goals
      have Ho := hid ho
      go_enter Tryz.func60, Tryz.ntmps60
      go_wp2
      go_ret
      exact ⟨ret_bool (by rw [hs.out, Ho.out]; simp), 0, rfl⟩
theorem SameC_is (a b c d : Nat) (ha : W32 a) (hb : W32 b) (hc : W32 c) (hd : W32 d) (h1 : FEq .f32 a c) (h2 : FEq .f32 b d) (w : World) :
    Calls Tryz.prog 24 #[.complex .f32 a b, .complex .f32 c d] w (Ret (.bool true) w) := by
  have H1 := hid (fun w => SameI_any a c ha hc true (same_feq h1) w)
  have H2 := hid (fun w => SameI_any b d hb hd true (same_feq h2) w)
  clear ha hb hc hd h1 h2
  go_enter Tryz.func24, Tryz.ntmps24
  go_wp2_with fail
  refine (H1.out _).mono ?_
  rintro e w' ⟨rfl, n1, rfl⟩
  go_wp2_with fail
  refine (H2.out _).mono ?_
  rintro e w' ⟨rfl, n2, rfl⟩
  go_wp2
  go_ret
  exact ⟨rfl, _, rfl⟩
theorem l01Same_any (x y : Nat) (hx : W32 x) (hy : W32 y) (b : Bool) (hb : sameB x y = b) (w : World) : Calls Tryz.prog 43 #[.float .f32 x, .float .f32 y] w (Ret (.bool b) w) := by
  have HX := hid (Bits_any x hx)
  have HY := hid (Bits_any y hy)
  have HB := hid hb
  clear hx hy hb
  go_enter Tryz.func43, Tryz.ntmps43
  go_wp2_with fail
  refine (HX.out _).mono ?_
  rintro e w' ⟨rfl, n1, rfl⟩
  go_wp2_with fail
  refine (HY.out _).mono ?_
  rintro e w' ⟨rfl, n2, rfl⟩
  go_wp2
  go_ret
  refine ⟨ret_bool ?_, _, rfl⟩
  rw [← HB.out]
  unfold sameB
  rw [Bool.eq_iff_iff, beq_iff_eq, beq_iff_eq]
  exact Int.ofNat_inj
theorem SameCS_is (a b c d : Nat) (ha : W32 a) (hb : W32 b) (hc : W32 c) (hd : W32 d) (h1 : FEq .f32 a c) (h2 : FEq .f32 b d) (w : World) :
    Calls Tryz.prog 59 #[.complex .f32 a b, .complex .f32 c d] w (Ret (.bool true) w) := by
  have H1 := hid (fun w => l01Same_any a c ha hc true (same_feq h1) w)
  have H2 := hid (fun w => l01Same_any b d hb hd true (same_feq h2) w)
  clear ha hb hc hd h1 h2
  have HS : Hid (∀ w, Calls Tryz.prog 79 #[.complex .f32 a b, .complex .f32 c d] w (Ret (.bool true) w)) := hid (fun w => by
    go_enter Tryz.func79, Tryz.ntmps79
    go_wp2_with fail
    refine (H1.out _).mono ?_
    rintro e w' ⟨rfl, n1, rfl⟩
    go_wp2_with fail
    refine (H2.out _).mono ?_
    rintro e w' ⟨rfl, n2, rfl⟩
    go_wp2
    go_ret
    exact ⟨rfl, _, rfl⟩)
  go_enter Tryz.func59, Tryz.ntmps59
  go_wp2_with fail
  refine (HS.out _).mono ?_
  rintro e w' ⟨rfl, n1, rfl⟩
  go_wp2
  go_ret
  exact ⟨rfl, _, rfl⟩
theorem NarrowComplex_is (x y u v : Nat) (hx : x < 4294967296) (hy : y < 4294967296) (hu : FEq .f64 u (fwide x)) (hv : FEq .f64 v (fwide y)) (w : World) :
    Calls Tryz.prog 25 #[.complex .f64 u v] w (fun e w' => ∃ a b n, e = .returned (.complex .f32 a b) ∧ FEq .f32 a x ∧ FEq .f32 b y ∧ w' = w.drewN n) := by
  obtain ⟨h1, h2⟩ := fnar_back hx
  obtain ⟨g1, g2⟩ := fnar_back hy
  have HF := hid (h1.congr hu)
  have HE := hid (show FEq .f32 (fnar u) x by rw [fnar_congr hu]; exact h2)
  have GF := hid (g1.congr hv)
  have GE := hid (show FEq .f32 (fnar v) y by rw [fnar_congr hv]; exact g2)
  clear h1 h2 hu g1 g2 hv
  go_enter Tryz.func25, Tryz.ntmps25
  go_wp2_with (first | (refine wpList_narrow rfl rfl (by kernel_rfl) Tryz.underlying28 HF.out ?_; intro v3 n3 hv3) | (refine wpList_narrow rfl rfl (by kernel_rfl) Tryz.underlying28 GF.out ?_; intro v4 n4 hv4))
  go_ret
  exact ⟨_, _, _, rfl, (by assumption : FEq .f32 _ (fnar u)).trans HE.out, (by assumption : FEq .f32 _ (fnar v)).trans GE.out, rfl⟩
theorem IsFinC_calls (x y : Nat) (w : World) : Calls Tryz.prog 26 #[.complex .f32 x y] w (Ret (.bool (finB x && finB y)) w) := by
  cases h : finB x
  · have H := hid (fun w => IsFinite_calls x w)
    rw [h] at H
    clear h
    go_enter Tryz.func26, Tryz.ntmps26
    go_wp2_with fail
    refine (H.out _).mono ?_
    rintro e w' ⟨rfl, n1, rfl⟩
    go_wp2
    go_ret
    exact ⟨rfl, _, rfl⟩
  · have H := hid (fun w => IsFinite_calls x w)
    have H2 := hid (fun w => IsFinite_calls y w)
    rw [h] at H
    clear h
    go_enter Tryz.func26, Tryz.ntmps26
    go_wp2_with fail
    refine (H.out _).mono ?_
    rintro e w' ⟨rfl, n1, rfl⟩
    go_wp2_with fail
    refine (H2.out _).mono ?_
    rintro e w' ⟨rfl, n2, rfl⟩
    go_wp2
    go_ret
    exact ⟨rfl, _, rfl⟩
theorem sFinite_calls (x : Nat) (w : World) : Calls Tryz.prog 27 #[.float .f32 x] w (Ret (.bool (finB x)) w) := by
  go_enter Tryz.func27, Tryz.ntmps27
  go_wp2_with (go_at_call 62; refine (l01Finite_calls _ _).mono ?_; rintro e w' ⟨rfl, n, rfl⟩)
  go_ret
  exact ⟨rfl, _, rfl⟩
def cnP (z : Nat × Nat) : Nat × Nat := (cn .f32 z.1, cn .f32 z.2)
theorem hexP_plain (z : Nat × Nat) (h1 : z.1 < 4294967296) (h2 : z.2 < 4294967296) : ∀ c ∈ hexP z, c ≠ 44 := by
  intro c hc
  unfold hexP at hc
  rcases List.mem_append.1 hc with h | h
  · exact hexT_plain _ h1 c h
  · exact hexT_plain _ h2 c h
theorem readC_text (xs : List (Nat × Nat)) (hn : xs.length ≤ 256) (hx : ∀ z ∈ xs, z.1 < 4294967296 ∧ z.2 < 4294967296) : readC (textJ (xs.map hexP)) = some (xs.map cnP) := by
  cases xs with
  | nil => exact readC_none rfl
  | cons y ys =>
    have hcut : cut (textJ ((y :: ys).map hexP)) = (y :: ys).map hexP := by
      unfold textJ
      rw [if_neg (by simp), List.map_cons, cut_joined]
      intro u hu c hc
      rw [← List.map_cons] at hu
      obtain ⟨z, hz, rfl⟩ := List.mem_map.1 hu
      exact hexP_plain z (hx z hz).1 (hx z hz).2 c hc
    have hne : textJ ((y :: ys).map hexP) ≠ none4 := by
      intro e
      have := congrArg List.length (congrArg (fun l => (cut l).headD []) e)
      simp only [hcut] at this
      simp [hexP_len] at this
      revert this
      decide
    have hv : ∀ p ∈ (y :: ys).map hexP, ∃ z, z ∈ (y :: ys) ∧ p = hexP z ∧ rdPair p = some (cnP z) := by
      intro p hp
      obtain ⟨z, hz, rfl⟩ := List.mem_map.1 hp
      exact ⟨z, hz, rfl, rdPair_hexP z (hx z hz).1 (hx z hz).2⟩
    rw [readC_yes hne (by rw [hcut, List.length_map]; exact hn) (by
      rw [hcut]
      refine List.all_eq_true.2 fun p hp => ?_
      obtain ⟨z, _, _, h⟩ := hv p hp
      rw [h]
      rfl), hcut]
    unfold vals
    rw [List.map_map]
    congr 1
    refine List.map_congr_left fun z hz => ?_
    show (rdPair (hexP z)).getD (0, 0) = _
    rw [rdPair_hexP z (hx z hz).1 (hx z hz).2]
    rfl
set_option maxRecDepth 100000 in
set_option maxHeartbeats 1600000 in
theorem b10Same_yes (A B : Option Addr) (n c d : Nat) (xs : List (Nat × Nat)) (hx : xs.length = n) (hn : n ≤ 1000) (hok : ∀ z ∈ xs, z.1 < 4294967296 ∧ z.2 < 4294967296) (w : World)
    (ha : Rd w w.heap.size A (c64s (xs.map cnP))) (hb : Rd w w.heap.size B (c64s xs)) :
    Calls Tryz.prog 23 #[.slice A n c, .slice B n d] w (Ret (.bool true) w) := by
  have HX := hid hx
  have HOK := hid hok
  have HA := hid ha
  have HB := hid hb
  have hnn : ((n : Int) != (n : Int)) = false := bne_self_eq_false _
  clear hx hok ha hb
  go_enter Tryz.func23, Tryz.ntmps23
  go_wp2_with fail
  go_loopw [5, 13] (fun _ i wr => ∃ q mm : Nat, q ≤ n ∧ i = .int .i64 q ∧ wr = w.drewN mm) (fun _ i _ => n - (intOf i).toNat)
  case atStart => exact ⟨0, 0, Nat.zero_le _, rfl, rfl⟩
  case round =>
    obtain ⟨q, mm, hq, rfl, rfl⟩ := hrel
    by_cases hlt : q < n
    · have hky : q < xs.length := by have := HX.out; omega
      have hkx : q < (xs.map cnP).length := by rw [List.length_map]; exact hky
      have hz := HOK.out _ (List.getElem_mem hky)
      obtain ⟨b1, o1, rfl, hb1, hc1⟩ := c64s_at (show Rd (w.drewN mm) _ _ _ from HA.out) hkx
      obtain ⟨b2, o2, rfl, hb2, hc2⟩ := c64s_at (show Rd (w.drewN mm) _ _ _ from HB.out) hky
      rw [List.getElem_map] at hc1
      have HS := hid (SameCS_is (cnP xs[q]).1 (cnP xs[q]).2 xs[q].1 xs[q].2 (.inr (cn_lt hz.1)) (.inr (cn_lt hz.2)) (.inr hz.1) (.inr hz.2) (cn_cn _) (cn_cn _))
      have HWZ := hid (show ∀ k, (w.drewN mm).drewN k = w.drewN (mm + k) from fun k => World.drewN_drewN _ _ _)
      have hqi : (q : Int) < (n : Int) := by omega
      generalize w.drewN mm = wz at *
      generalize (cnP xs[q]).1 = x1 at *
      generalize (cnP xs[q]).2 = x2 at *
      generalize xs[q].1 = y1 at *
      generalize xs[q].2 = y2 at *
      clear hz
      go_wp2
      go_quiet ((go_at_call 59; exact Calls.quiet_of (HS.out _)))
      go_wp2
      go_roundw
      case rel => exact ⟨q + 1, _, hlt, by go_num, HWZ.out _⟩
      case measure => simp [intOf]; omega
    · obtain rfl : q = n := by omega
      go_wp2
      go_ret
      exact ⟨rfl, _, rfl⟩
end Go.Proofs.YtkbfhooiloaokaaGreatDoor.Num
/-
  The laws' b10Long, b10At.
-/
namespace Go.Proofs.YtkbfhooiloaokaaGreatDoor.Num
open Go.RowKit Go.Proofs.Fl
set_option linter.unusedVariables false
def RetAB (w : World) (e : Ending) (w' : World) : Prop := (∃ b : Bool, e = .returned (.bool b)) ∧ w' = w
def RetUpTo (N : Nat) (w : World) (e : Ending) (w' : World) : Prop := (∃ i : Nat, i < N ∧ e = .returned (.int .i64 (i : Int))) ∧ w' = w
theorem b10Long_calls (A B : Option Addr) (n c m d : Nat) (w : World) : Calls Tryz.prog 5 #[.slice A n c, .slice B m d] w (RetAB w) := by
  go_enter Tryz.func5, Tryz.ntmps5
  go_wp2
  all_goals go_ret
  all_goals exact ⟨⟨_, rfl⟩, rfl⟩
/-- a number from 0 to N - 1 -/
theorem b10At_calls (A : Option Addr) (n c : Nat) (xs : List Int) (hx : xs.length = n) (hw8 : ∀ z ∈ xs, (Lit.int .u8 z).wf = true) (k N : Nat) (hk : k < 1000) (hN : 1 < N) (hN2 : N < 1000000) (w : World) (ha : Rd w w.heap.size A (xs.map (Value.int .u8))) :
    Calls Tryz.prog 16 #[.slice A n c, .int .i64 (k : Int), .int .i64 (N : Int)] w (RetUpTo N w) := by
  by_cases hlt : k < n
  · have hkx : k < xs.length := by omega
    have h8 := hw8 _ (List.getElem_mem hkx)
    rcases ha with h0 | ⟨b, o, rfl, hb, hc⟩
    · have : (xs.map (Value.int .u8)).length = 0 := by rw [h0]; rfl
      rw [List.length_map] at this
      omega
    · have hc1 := hc k (.int .u8 xs[k]) (by rw [List.getElem?_map, List.getElem?_eq_getElem hkx]; rfl)
      have h8' : IntKind.u8.min ≤ xs[k] ∧ xs[k] ≤ IntKind.u8.max := by simpa [Lit.wf] using h8
      have hz : 0 ≤ xs[k] ∧ xs[k] ≤ 255 := h8'
      clear h8'
      clear hc h8 hw8
      generalize xs[k] = z at *
      obtain ⟨u, rfl⟩ : ∃ u : Nat, z = (u : Int) := ⟨z.toNat, by omega⟩
      have hmod : (u : Int).tmod (N : Int) = ((u % N : Nat) : Int) := rfl
      have hml : u % N < N := Nat.mod_lt _ (by omega)
      go_enter Tryz.func16, Tryz.ntmps16
      go_wp2
      go_ret
      exact ⟨⟨u % N, hml, by first | rfl | (congr 2; omega) | skip⟩, rfl⟩
  · clear ha hw8
    have hml : (k * 37 + 11) % N < N := Nat.mod_lt _ (by omega)
    go_enter Tryz.func16, Tryz.ntmps16
    go_wp2
    go_ret
    exact ⟨⟨(k * 37 + 11) % N, hml, by first | rfl | (congr 2; omega) | skip⟩, rfl⟩
theorem byte_wf {xs : List Int} (h : ∀ z ∈ xs, (Lit.int .u8 z).wf = true) : ∀ z ∈ xs, 0 ≤ z ∧ z ≤ 255 := by
  intro z hz
  have h8 : IntKind.u8.min ≤ z ∧ z ≤ IntKind.u8.max := by simpa [Lit.wf] using h z hz
  exact h8
end Go.Proofs.YtkbfhooiloaokaaGreatDoor.Num
/-
  The text of a list of complex64: the program (ComplexText).
-/
namespace Go.Proofs.YtkbfhooiloaokaaGreatDoor.Num
open Go.RowKit Go.Proofs.Fl Go.Proofs.Hx Go.Proofs.Tx
open Go.Lib (join)
set_option linter.unusedVariables false
set_option linter.unusedSimpArgs false
theorem at_hex {x : Nat} (hx : x < 4294967296) (w w1 : World) {B : Nat} (hB : B ≤ w.heap.size) (hD : Hid (∀ w', Below w.heap.size w w' → Deb B w')) (h : Hid (Below w.heap.size w w1)) :
    Calls Tryz.prog 47 #[.float .f32 x] w1 (RetStr (hexT x) w1) := hexOf_calls x hx w1 (B := B) (Nat.le_trans hB h.out.size) (hD.out w1 h.out)
set_option maxRecDepth 100000 in
set_option maxHeartbeats 3200000 in
theorem ComplexText_calls (A : Option Addr) (n c : Nat) (xs : List (Nat × Nat)) (hz : xs.length = n) (hn : n ≤ 1048576) (hok : ∀ z ∈ xs, z.1 < 4294967296 ∧ z.2 < 4294967296) (w : World) {B : Nat} (hB : B ≤ w.heap.size) (ha : Rd w w.heap.size A (c64s xs)) (hD : Deb B w) :
    Calls Tryz.prog 17 #[.slice A n c] w (RetText (cplxText xs) w) := by
  by_cases h256 : n ≤ 256
  · obtain ⟨i0, hi0, hz0, hz1, hz2⟩ := info_parts1 str_info
    have HNT := hid (show cplxText xs = some (textJ (xs.map hexP)) by unfold cplxText; rw [if_pos (by omega)])
    have HZ := hid hz
    have HR := hid ha
    have HM := hid hok
    have HL := hid (join_le 16 (xs.map hexP) (hexP_le xs))
    have HDB := hid (fun w' (h : Below w.heap.size w w') => hD.on (h.mono hB))
    have HBs := hid hB
    clear hz ha hok hD hB
    go_enter Tryz.func17, Tryz.ntmps17
    go_wp2_with fail
    go_loopw [4, 6, 13] (fun o q i wr => ∃ (k : Nat) (A2 : Option Addr) (c2 : Nat), k ≤ n ∧ i = .int .i64 k ∧ o = .slice A2 k c2 ∧ Hid (OwnT wr w.heap.size (.slice A2 k c2) k ((xs.map hexP).take k)) ∧ Hid (Below w.heap.size w wr)) (fun _ _ i _ => n - (intOf i).toNat)
    case atStart => exact ⟨0, _, 0, Nat.zero_le _, rfl, rfl, own_none (Nat.le_refl _), (Below.refl _ _).alloc (Nat.le_refl _) _⟩
    case round =>
      obtain ⟨k, A2, c2, hk, rfl, rfl, hown, hbel⟩ := hrel
      by_cases hlt : k < n
      · have hkx : k < xs.length := by have := HZ.out; omega
        obtain ⟨hm1, hm2⟩ := HM.out _ (List.getElem_mem hkx)
        obtain ⟨b1, o1, rfl, hb1, hc1⟩ := c64s_at (show Rd wr wr.heap.size A (c64s xs) from (HR.out.below hbel.out).more hbel.out.size) hkx
        have hsn : (xs.map hexP).take (k + 1) = (xs.map hexP).take k ++ [hexT xs[k].1 ++ hexT xs[k].2] := by
          rw [List.take_succ_eq_append_getElem (by simpa using hkx)]
          simp [hexP]
        have HSN := hid hsn
        clear hsn
        generalize xs[k] = z at *
        obtain ⟨z1, z2⟩ := z
        simp only at hm1 hm2 hc1 HSN
        have hBw := Nat.le_trans HBs.out hbel.out.size
        have HE1 := hid (fun w' (h : Hid (Below wr.heap.size wr w')) => at_hex hm1 wr w' (B := B) hBw (hid (fun w2 h2 => HDB.out w2 (hbel.out.trans (h2.mono hbel.out.size)))) h)
        have HE2 := hid (fun w' (h : Hid (Below wr.heap.size wr w')) => at_hex hm2 wr w' (B := B) hBw (hid (fun w2 h2 => HDB.out w2 (hbel.out.trans (h2.mono hbel.out.size)))) h)
        have HB0 := hid (Below.refl wr.heap.size wr)
        clear hm1 hm2 hBw
        have hl1 := hexT_len z1
        have hl2 := hexT_len z2
        generalize hexT z1 = l1 at *
        generalize hexT z2 = l2 at *
        obtain ⟨S1, hS1⟩ : ∃ S : ByteArray, S = ⟨l1.toArray⟩ := ⟨_, rfl⟩
        obtain ⟨S2, hS2⟩ : ∃ S : ByteArray, S = ⟨l2.toArray⟩ := ⟨_, rfl⟩
        have HSS := hid (show S1 ++ S2 = ⟨(l1 ++ l2).toArray⟩ by rw [hS1, hS2, mk_append])
        have hs1 : S1.size = 8 := by rw [hS1, mk_size]; exact hl1
        have hs2 : S2.size = 8 := by rw [hS2, mk_size]; exact hl2
        clear hl1 hl2
        unfold RetStr at HE1 HE2
        simp only [← hS1] at HE1
        simp only [← hS2] at HE2
        clear hS1 hS2
        go_wp2_with (first
          | (go_at_call_of 47 z1; refine (HE1.out _ HB0).mono ?_; rintro e w2 ⟨rfl, hb⟩; have HB2 := hid hb; clear hb)
          | (go_at_call_of 47 z2; refine (HE2.out _ HB2).mono ?_; rintro e w3 ⟨rfl, hb⟩; have HB3 := hid (HB2.out.trans (hb.mono HB2.out.size)); clear hb)
          | (at_builtin; refine wpList_append_lies _ rfl _ _ 69 rfl w.heap.size 9 i0 (Value.string ByteArray.empty) 1 16 Tryz.underlying69 hi0 hz0 hz1 hz2 rfl (by decide) (.slice A2 k c2) k (strs ((xs.map hexP).take k)) rfl ((own_step hown.out HB3.out).alloc _) ⟨_, 0, none⟩ 1 1 [.string (S1 ++ S2)] rfl rfl (any_new _ _ _) (by intro u hu; rw [List.mem_singleton.1 hu]; rfl) (by decide) (by unfold maxLen; omega) (by omega) (by simp; have := hbel.out.size; have := HB3.out.size; omega) _ rfl ?_; intro g2 c3 w5 hown2 hgrow hat hlt2; rw [HSS.out, strs_snoc, ← HSN.out] at hown2; have OW2 := hid hown2; have BL2 := hid (grown_below (hbel.out.trans (HB3.out.mono hbel.out.size)) (own_step hown.out HB3.out) hgrow); clear hown2 hgrow hat hlt2))
        go_roundw
        case rel => exact ⟨k + 1, _, c3, hlt, by go_num, rfl, OW2, BL2⟩
        case measure => simp [intOf]; omega
      · obtain rfl : k = n := by omega
        have hj := HL.out
        rw [List.length_map, HZ.out] at hj
        have ho := hown.out
        rw [List.take_of_length_le (by rw [List.length_map, HZ.out]; omega)] at ho
        clear hlt hk
        have HJ := hid (joined_calls A2 c2 (xs.map hexP) k w.heap.size wr ho (by omega) (by omega))
        clear ho hj
        go_wp2_with (go_at_call 48; refine HJ.out.mono ?_; rintro e w2 ⟨rfl, hb⟩; have HB2 := hid hb; clear hb)
        go_ret2
        exact ⟨by rw [HNT.out]; rfl, hbel.out.trans (HB2.out.mono hbel.out.size)⟩
  · have HNT := hid (show cplxText xs = none by unfold cplxText; rw [if_neg (by omega)])
    clear ha hok hD hB hz
    go_enter Tryz.func17, Tryz.ntmps17
    go_wp2
    go_ret2
    exact ⟨by rw [HNT.out]; rfl, Below.refl _ _⟩
end Go.Proofs.YtkbfhooiloaokaaGreatDoor.Num
/-
  The list of complex64 with a text, by the program (ReadComplex), walked.
-/
namespace Go.Proofs.YtkbfhooiloaokaaGreatDoor.Num
open Go.RowKit Go.Proofs.Fl Go.Proofs.Hx Go.Proofs.Tx
set_option linter.unusedVariables false
set_option linter.unusedSimpArgs false
def RetF (x : Nat) (w : World) (e : Ending) (w' : World) : Prop := e = .returned (.float .f32 x) ∧ Below w.heap.size w w'
theorem at_readHex {T : ByteArray} {x : Nat} (h8 : T.size = 8) (hx : (rdU T.data.toList).getD 0 = x) (w w1 : World) {B : Nat} (hB : B ≤ w.heap.size) (hE : Hid (∀ w', Below w.heap.size w w' → Errs B w')) (h : Hid (Below w.heap.size w w1)) :
    Calls Tryz.prog 50 #[.string T] w1 (RetF x w1) := by
  rw [← hx]
  exact readHex_calls T h8 w1 (B := B) (Nat.le_trans hB h.out.size) (hE.out w1 h.out)
theorem at_rd {T : ByteArray} {x : Nat} {w0 w1 : World} (h : Hid (∀ w', Hid (Below w0.heap.size w0 w') → Calls Tryz.prog 50 #[.string T] w' (RetF x w'))) (hb : Hid (Below w0.heap.size w0 w1)) :
    Calls Tryz.prog 50 #[.string T] w1 (RetF x w1) := h.out w1 hb
set_option maxRecDepth 100000 in
set_option maxHeartbeats 6400000 in
theorem ReadComplex_calls (s : ByteArray) (hs : s.size ≤ 1048576) (w : World) {B : Nat} (hB : B ≤ w.heap.size) (hL : Lib4 B w) :
    Calls Tryz.prog 18 #[.string s] w (RetV 24 (c64s ((readC s.data.toList).getD [])) (readC s.data.toList).isSome w) := by
  obtain ⟨i0, hi0, hz0, hz1, hz2⟩ := info_parts1 c64_info
  have hsl : s.data.toList.length = s.size := by simp
  have HN8 := hid (fun k (hk : k < (ps s.data.toList).length) => readC_not16 s.data.toList hk)
  have HMany := hid (readC_many s.data.toList)
  have HEnd := hid (readC_ps s.data.toList)
  have hpl0 := ps_len s.data.toList
  have HLB := hid (fun w' (h : Below w.heap.size w w') => hL.on (h.mono hB))
  have HBs := hid hB
  have HC := hid (fun w' (h : Below w.heap.size w w') => pieces_calls s hs w' (hL.maxl.on (h.mono hB)))
  have HO := hid (own_none (w := w) (base := w.heap.size) (e := 24) (Nat.le_refl _))
  have HB0 := hid ((Below.refl w.heap.size w).alloc (Nat.le_refl _) (.cells #[] 24))
  generalize ps s.data.toList = P at *
  generalize readC s.data.toList = R at *
  clear hL hB
  go_enter Tryz.func18, Tryz.ntmps18
  go_wp2_with (go_at_call 49; refine (HC.out _ HB0.out).mono ?_; rintro e w1 ⟨A2, c2, rfl, hown, hbel⟩; have HP := hid hown; have HO1 := hid (own_step HO.out hbel); have HAP := hid (apart_low (g := w.heap.size) hown (by simp)); have HB1 := hid (HB0.out.trans (hbel.mono HB0.out.size)); clear hown hbel)
  obtain ⟨N, hN⟩ : ∃ N, P.length = N := ⟨_, rfl⟩
  have HN := hid hN
  rw [hN] at HP hpl0
  simp only [hN]
  clear hN
  go_loopw [4, 6, 13] (fun o _ i wr => ∃ (k c3 : Nat) (A3 : Option Addr), k ≤ N ∧ k ≤ 256 ∧ i = .int .i64 k ∧ o = .slice A3 k c3 ∧ Hid (all16 (P.take k) = true) ∧ Hid (wr.ownsRow w.heap.size 24 1 (.slice A3 k c3) k (c64s ((P.take k).map anyPair))) ∧ Hid (OwnT wr (w.alloc (.cells #[] 24)).heap.size (.slice A2 N c2) N P) ∧ Hid (Apart A3 A2) ∧ Hid (Below w.heap.size w wr)) (fun _ _ i _ => N - (intOf i).toNat)
  case atStart => exact ⟨0, 0, _, Nat.zero_le _, Nat.zero_le _, rfl, rfl, rfl, HO1.out, HP, HAP, HB1⟩
  case round =>
    obtain ⟨k, c3, A3, hk, hk256, rfl, rfl, hall, hown, hpt, hap, hbel⟩ := hrel
    have hsz := hbel.out.size
    clear HP HAP HB1 HO1 HB0 HO
    by_cases hlt : k < N
    · have hkp : k < P.length := by have := HN.out; omega
      obtain ⟨g, rfl, hg, _, hc⟩ := hpt.out.cell hlt
      have hT := hid (all16_take hkp hall.out)
      have hF := hid (HN8.out k hkp)
      have hA := hid (anyP_take hkp)
      clear hg
      generalize P[k] = p at *
      obtain ⟨S, hS⟩ : ∃ S : ByteArray, S = ⟨p.toArray⟩ := ⟨_, rfl⟩
      have hSz : S.size = p.length := by rw [hS]; exact mk_size p
      have hSl : S.data.toList = p := by simp [hS]
      rw [← hS] at hc
      clear hS
      by_cases hp8 : p.length = 16
      · rw [hp8] at hSz
        by_cases h256 : k = 256
        · subst h256
          obtain rfl := HMany.out (by have := HN.out; omega)
          clear hp8 hSl
          go_wp2_with fail
          go_ret2
          exact RetV.none hbel.out
        · have hT2 := hid (hT.out hp8)
          have hBw := Nat.le_trans HBs.out hsz
          have HLE := hid (fun w' (h : Below wr.heap.size wr w') => (HLB.out w' (hbel.out.trans (h.mono hsz))).errs)
          have HV1 := hid (fun w' h => at_readHex (T := S.extract 0 8) (x := (anyPair p).1) (by rw [ByteArray.size_extract]; omega) (by rw [half_fst, hSl]; rfl) wr w' (B := B) hBw HLE h)
          have HV2 := hid (fun w' h => at_readHex (T := S.extract 8 16) (x := (anyPair p).2) (by rw [ByteArray.size_extract]; omega) (by have := half_snd S hSz; rw [hSz] at this; rw [this, hSl]; rfl) wr w' (B := B) hBw HLE h)
          have HB0 := hid (Below.refl wr.heap.size wr).drew
          have hke : ((k : Int) == 256) = false := by simp; omega
          clear hp8 hSl hT hF hBw
          generalize anyPair p = z at *
          obtain ⟨z1, z2⟩ := z
          simp only at HV1 HV2
          go_wp2_with fail
          go_region_law (first
            | (go_simp; go_at_call 50; refine (at_rd (x := z1) (by with_reducible assumption) (by with_reducible exact HB0)).mono ?_; rintro e w2 ⟨rfl, hb⟩; have HB2 := hid (HB0.out.trans hb); clear hb)
            | (go_simp; go_at_call 50; refine (at_rd (x := z2) (by with_reducible assumption) (by with_reducible exact HB2)).mono ?_; rintro e w3 ⟨rfl, hb⟩; have HB3 := hid (HB2.out.trans (hb.mono HB2.out.size)); clear hb)
            | (refine step_append_lies _ (by rfl) _ _ 25 (by rfl) w.heap.size 24 i0 (Value.complex .f32 0 0) 1 8 Tryz.underlying25 hi0 hz0 hz1 hz2 rfl (by decide) (.slice A3 k c3) k (c64s ((P.take k).map anyPair)) (by rfl) ((own_step hown.out HB3.out).alloc _) ⟨w3.heap.size, 0, none⟩ 1 1 [.complex .f32 z1 z2] (by rfl) rfl (any_new _ _ _) (c64s_oneCell [(z1, z2)]) (by decide) (by unfold maxLen; omega) (by omega) (by simp; have := HB3.out.size; omega) _ rfl ?_; intro g2 c4 w5 hown3 hgrow hat hlt2; rw [show c64s ((P.take k).map anyPair) ++ [.complex .f32 z1 z2] = _ from c64s_snoc _ (z1, z2), ← hA.out] at hown3; have OW2 := hid hown3; have BL2 := hid (grown_below (hbel.out.trans (HB3.out.mono hsz)) (own_step hown.out HB3.out) hgrow); have PT2 := hid (keep_texts (own_step hpt.out HB3.out) (own_step hown.out HB3.out) hgrow hap.out); have AP2 := hid (apart_new (own_step hpt.out HB3.out) (own_step hown.out HB3.out) hap.out hat); clear hown3 hgrow hat hlt2))
          go_wp2_with fail
          go_roundw
          case rel => exact ⟨k + 1, c4, _, hlt, by omega, by go_num, rfl, hT2, OW2, PT2, AP2, BL2⟩
          case measure => simp [intOf]; omega
      · obtain rfl := hF.out hp8
        have hb8 : ((S.size : Int) != 16) = true := by rw [bne_iff_ne]; omega
        clear hSl
        go_wp2_with fail
        go_ret2
        exact RetV.none hbel.out
    · obtain rfl : k = N := by omega
      have hall2 := hall.out
      have ho := hown.out
      rw [List.take_of_length_le (by rw [HN.out]; omega)] at hall2 ho
      have he := HEnd.out hall2 (by have := HN.out; omega)
      have hm := all16_mem hall2
      have hx : ((P.map anyPair).length) = k := by rw [List.length_map]; exact HN.out
      have hwf : ∀ z ∈ P.map anyPair, z.1 < 4294967296 ∧ z.2 < 4294967296 := by
        intro x hx2
        obtain ⟨p, hp, rfl⟩ := List.mem_map.1 hx2
        exact anyPair_lt (hm p hp)
      clear hm hall2 hlt hk
      have hnt : cplxText (P.map anyPair) = some (textJ ((P.map anyPair).map hexP)) := by unfold cplxText; rw [if_pos (by omega)]
      have HO2 := hid ho
      have hD := (HLB.out wr hbel.out).deb
      have hBw := Nat.le_trans HBs.out hsz
      have HT := hid (ComplexText_calls A3 k c3 (P.map anyPair) hx (by omega) hwf wr (B := B) hBw (ownV_any ho).1.rd hD)
      rw [hnt] at HT
      clear ho hx hwf hnt hD hBw
      generalize textJ ((P.map anyPair).map hexP) = txt at *
      generalize P.map anyPair = xs at *
      by_cases htx : txt = s.data.toList
      · rw [if_pos htx] at he
        have hse : (txt == s.toList) = true := by rw [ByteArray.toList_eq, htx]; exact beq_self_eq_true _
        have HE := hid he
        clear he htx
        go_wp2_with (go_at_call 17; refine HT.out.mono ?_; rintro e w2 ⟨rfl, hb⟩; have HB2 := hid hb; clear hb)
        go_ret2
        rw [HE.out]
        exact RetV.some (own_step HO2.out HB2.out) (hbel.out.trans (HB2.out.mono hsz))
      · rw [if_neg htx] at he
        have hse : (txt == s.toList) = false := by rw [ByteArray.toList_eq]; simpa using htx
        have HE := hid he
        clear he htx
        go_wp2_with (go_at_call 17; refine HT.out.mono ?_; rintro e w2 ⟨rfl, hb⟩; have HB2 := hid hb; clear hb)
        go_ret2
        rw [HE.out]
        exact RetV.none (hbel.out.trans (HB2.out.mono hsz))
end Go.Proofs.YtkbfhooiloaokaaGreatDoor.Num
/-
  The law on products, walked over the contracts of both texts.
-/
namespace Go.Proofs.YtkbfhooiloaokaaGreatDoor.fnProducts
open Go.RowKit Go.Proofs.Fl Go.Proofs.YtkbfhooiloaokaaGreatDoor.Num Go.Proofs.Hx Go.Proofs.Tx
set_option linter.unusedVariables false
theorem textC_len (zs : List (Nat × Nat)) (h : zs.length ≤ 256) : (textJ (zs.map hexP)).length ≤ 1048576 := by
  unfold textJ
  split
  · decide
  · have := join_le 16 (zs.map hexP) (hexP_le zs)
    rw [List.length_map] at this
    omega
theorem fneg_fneg (k : FloatKind) (x : Nat) : fneg k (fneg k x) = x := by
  unfold fneg Op.negFloat
  rw [Nat.xor_assoc, Nat.xor_self, Nat.xor_zero]
theorem cneq_is {r s r' s' : Nat} {a b : Int} (h1 : IS r a) (h2 : IS s b) (h3 : IS r' a) (h4 : IS s' b) (w : World) : (binOp .neq 24 (.complex .f32 r s) (.complex .f32 r' s')).run Tryz.prog w = .ok (.bool false) w := by
  rw [run_cneq, h1.eq h3, h2.eq h4, decide_eq_true rfl, decide_eq_true rfl]
  rfl
theorem cneq_zero {r s : Nat} {a b : Int} (h1 : IS r a) (h2 : IS s b) (w : World) : (binOp .neq 24 (.complex .f32 r s) (.complex .f32 0 0)).run Tryz.prog w = .ok (.bool (!(decide (a = 0) && decide (b = 0)))) w := by
  rw [run_cneq, h1.eq IS_zero.1, h2.eq IS_zero.1]
theorem cneq_twice {a b : Int} (h1 : OneAt a) (h2 : OneAt b) (w : World) : (binOp .neq 24 (.complex .f32 (fop .mul .f32 (floatOfInt .f32 a) 1073741824) (fop .mul .f32 (floatOfInt .f32 b) 1073741824)) (.complex .f32 (fop .add .f32 (floatOfInt .f32 a) (floatOfInt .f32 a)) (fop .add .f32 (floatOfInt .f32 b) (floatOfInt .f32 b)))).run Tryz.prog w = .ok (.bool false) w := by
  rw [run_cneq, h1.same, h2.same]
  rfl
theorem neq_is {r s : Nat} {a : Int} (h1 : IS r a) (h2 : IS s a) : (FloatKind.f32.format.order r s != some Ordering.eq) = false := by
  have := h1.eq h2
  rw [decide_eq_true rfl] at this
  unfold bne
  rw [this]
  rfl
theorem toI_run {a : Int} (h : OneAt a) (w : World) : (convert 28 2 (.float .f32 (floatOfInt .f32 a))).run Tryz.prog w = .ok (.int .i64 a) w :=
  run_convert_float_int w _ _ .f32 .i64 _ _ (by kernel_rfl) Tryz.underlying2 h.toI
theorem prod_le {a b : Int} (ha : a.natAbs ≤ 200) (hb : b.natAbs ≤ 200) : -40000 ≤ a * b ∧ a * b ≤ 40000 := by
  have : (a * b).natAbs ≤ 40000 := by rw [Int.natAbs_mul]; exact Nat.mul_le_mul ha hb
  omega
/-- what the products of two complex numbers with whole parts are, and what the comparisons say -/
structure Prods (a b f g : Int) (r s r2 s2 r3 s3 p : Nat) : Prop where
  m1 : ∀ w, Calls Tryz.prog 7 #[.complex .f32 (floatOfInt .f32 a) (floatOfInt .f32 b), .complex .f32 (floatOfInt .f32 f) (floatOfInt .f32 g)] w (Ret (.complex .f32 r s) w)
  m2 : ∀ w, Calls Tryz.prog 7 #[.complex .f32 (floatOfInt .f32 f) (floatOfInt .f32 g), .complex .f32 (floatOfInt .f32 a) (floatOfInt .f32 b)] w (Ret (.complex .f32 r2 s2) w)
  m3 : ∀ w, Calls Tryz.prog 7 #[.complex .f32 (floatOfInt .f32 a) (floatOfInt .f32 b), .complex .f32 (floatOfInt .f32 a) (fneg .f32 (floatOfInt .f32 b))] w (Ret (.complex .f32 r3 s3) w)
  pw : ∀ w, Calls Tryz.prog 8 #[.complex .f32 (floatOfInt .f32 a) (floatOfInt .f32 b)] w (Ret (.float .f32 p) w)
  hr : IS r (a * f - b * g)
  hs : IS s (a * g + b * f)
  e1 : ∀ w, (binOp .neq 24 (.complex .f32 r s) (.complex .f32 (floatOfInt .f32 (a * f - b * g)) (floatOfInt .f32 (a * g + b * f)))).run Tryz.prog w = .ok (.bool false) w
  e2 : ∀ w, (binOp .neq 24 (.complex .f32 r2 s2) (.complex .f32 r s)).run Tryz.prog w = .ok (.bool false) w
  e3 : (FloatKind.f32.format.order p (floatOfInt .f32 (a * a + b * b)) != some Ordering.eq) = false
  e4 : ∀ w, (binOp .neq 24 (.complex .f32 r3 s3) (.complex .f32 (floatOfInt .f32 (a * a + b * b)) 0)).run Tryz.prog w = .ok (.bool false) w
theorem prods {a b f g : Int} (ha : a.natAbs ≤ 200) (hb : b.natAbs ≤ 200) (hf : f.natAbs ≤ 200) (hg : g.natAbs ≤ 200) : ∃ r s r2 s2 r3 s3 p, Prods a b f g r s r2 s2 r3 s3 p := by
  have b1 := prod_le ha hf
  have b2 := prod_le hb hg
  have b3 := prod_le ha hg
  have b4 := prod_le hb hf
  have b5 := prod_le ha ha
  have b6 := prod_le hb hb
  have ia := ofInt32 (z := a) (by omega)
  have ib := ofInt32 (z := b) (by omega)
  have jf := ofInt32 (z := f) (by omega)
  have jg := ofInt32 (z := g) (by omega)
  have sa : small a := by unfold small; omega
  have sb : small b := by unfold small; omega
  have sn : small (-b) := by unfold small; omega
  have sf : small f := by unfold small; omega
  have sg : small g := by unfold small; omega
  obtain ⟨r, s, hr, hs, m1⟩ := mul_is ia ib jf jg sa sb sf sg (by omega) (by omega)
  obtain ⟨r2, s2, hr2, hs2, m2⟩ := mul_is jf jg ia ib sf sg sa sb (by rw [Int.mul_comm f a, Int.mul_comm g b]; omega) (by rw [Int.mul_comm f b, Int.mul_comm g a]; omega)
  rw [Int.mul_comm f a, Int.mul_comm g b] at hr2
  rw [Int.mul_comm f b, Int.mul_comm g a, Int.add_comm] at hs2
  obtain ⟨r3, s3, hr3, hs3, m3⟩ := mul_is ia ib ia ib.neg sa sb sa sn (by rw [Int.mul_neg]; omega) (by rw [Int.mul_neg, Int.mul_comm b a]; omega)
  rw [Int.mul_neg, Int.sub_neg] at hr3
  rw [Int.mul_neg, Int.mul_comm b a, Int.add_left_neg] at hs3
  obtain ⟨p, hp, pw⟩ := PowerOf_is ia ib sa sb (by omega)
  exact ⟨r, s, r2, s2, r3, s3, p, m1, m2, m3, pw, hr, hs, cneq_is hr hs (ofInt32 (by omega)) (ofInt32 (by omega)), cneq_is hr2 hs2 hr hs, neq_is hp (ofInt32 (by omega)), cneq_is hr3 hs3 (ofInt32 (by omega)) IS_zero.1⟩
set_option maxRecDepth 100000 in
set_option maxHeartbeats 12800000 in
theorem walk (AA : Option Addr) (n c : Nat) (xs : List Int) (hx : xs.length = n) (hnc : n ≤ c) (hc : c ≤ maxLen) {w : World} (ha : Rd w w.heap.size AA (xs.map (Value.int .u8))) (hwf : ∀ z ∈ xs, (Lit.int .u8 z).wf = true)
    (BB : Option Addr) (m d : Nat) (ys : List Int) (hy : ys.length = m) (hmd : m ≤ d) (hd : d ≤ maxLen) (hb : Rd w w.heap.size BB (ys.map (Value.int .u8))) (hwf2 : ∀ z ∈ ys, (Lit.int .u8 z).wf = true) (hL : Lib4 w.heap.size w) :
    Calls Tryz.prog 3 #[.slice AA n c, .slice BB m d] w fun e w' => e = .returned (.bool true) ∧ Below w.heap.size w w' := by
  have HLong := hid (b10Long_calls AA BB n c m d)
  have HW1 := hid (B10Whole_calls 1 (by decide) AA n c xs hx (byte_wf hwf) (Nat.le_trans hnc hc) w ha)
  have HW2 := hid (fun w' (h : Below w.heap.size w w') => B10Whole_calls 1 (by decide) BB m d ys hy (byte_wf hwf2) (Nat.le_trans hmd hd) w' ((hb.below h).more h.size))
  have HAt := hid (fun w' (h : Below w.heap.size w w') => b10At_calls AA n c xs hx hwf 0 9 (by decide) (by decide) (by decide) w' ((ha.below h).more h.size))
  have HNs := hid (fun w' (h : Below w.heap.size w w') k (hk : k ≤ 1000) => B10Any_calls k hk BB m d ys hy (byte_wf hwf2) (Nat.le_trans hmd hd) w' ((hb.below h).more h.size))
  have HX1 := hid (fun w' (h : Below w.heap.size w w') => B10Number_calls AA n c xs hx (byte_wf hwf) (Nat.le_trans hnc hc) w' ((ha.below h).more h.size))
  have HC1 := hid (fun w' (h : Below w.heap.size w w') => B10Complex_calls AA n c xs hx (byte_wf hwf) (Nat.le_trans hnc hc) w' ((ha.below h).more h.size))
  have HLB := hid (fun w' (h : Below w.heap.size w w') => hL.on h)
  clear hx hnc hc ha hwf hy hmd hd hb hwf2 hL
  go_enter Tryz.func3, Tryz.ntmps3
  go_wp2_with fail
  refine (HLong.out _).mono ?_
  rintro e w' ⟨⟨b, rfl⟩, rfl⟩
  cases b
  · go_wp2_with fail
    refine HW1.out.mono ?_
    rintro e w1 ⟨A1, c1, zs1, hl1, hz1, rfl, ho1, b1⟩
    obtain ⟨z, rfl⟩ := List.length_eq_one_iff.1 hl1
    obtain ⟨a, b, ha2, hb2, rfl⟩ := hz1 _ (List.mem_singleton_self _)
    obtain ⟨k1, o1, rfl, hk1, hcell1⟩ := c64s_at ho1.rd (show 0 < [(floatOfInt .f32 a, floatOfInt .f32 b)].length by simp)
    simp only [List.getElem_cons_zero, Nat.add_zero] at hcell1
    have B1 := hid b1
    have HAB := hid (And.intro ha2 hb2)
    clear b1 ho1 hz1 hl1 HW1 HLong ha2 hb2
    go_wp2_with fail
    refine (HW2.out _ B1.out).mono ?_
    rintro e w2 ⟨A2, c2, zs2, hl2, hz2, rfl, ho2, b2⟩
    obtain ⟨z, rfl⟩ := List.length_eq_one_iff.1 hl2
    obtain ⟨f, g, hf2, hg2, rfl⟩ := hz2 _ (List.mem_singleton_self _)
    obtain ⟨k2, o2, rfl, hk2, hcell2⟩ := c64s_at ho2.rd (show 0 < [(floatOfInt .f32 f, floatOfInt .f32 g)].length by simp)
    simp only [List.getElem_cons_zero, Nat.add_zero] at hcell2
    have B2 := hid (B1.out.trans (b2.mono B1.out.size))
    have HFG := hid (And.intro hf2 hg2)
    clear b2 ho2 hz2 hl2 HW2 hf2 hg2 B1 hcell1
    go_wp2_with fail
    have Oa := oneAt HAB.out.1
    have Ob := oneAt HAB.out.2
    have Of := oneAt HFG.out.1
    have Og := oneAt HFG.out.2
    obtain ⟨r, s, r2, s2, r3, s3, p, HP⟩ := prods HAB.out.1 HAB.out.2 HFG.out.1 HFG.out.2
    have CL := hid (fun w => LongOf_is (a := a) (b := b) (by have := HAB.out; omega) (by have := HAB.out; omega) w)
    have M1 := hid HP.m1
    have M2 := hid HP.m2
    have M3 := hid HP.m3
    have MP := hid HP.pw
    have HRS := hid (And.intro HP.hr HP.hs)
    have e1 := HP.e1
    have e2 := HP.e2
    have e3 := HP.e3
    have e4 := HP.e4
    have t1 := fun w => toI_run Oa w
    have t2 := fun w => toI_run Ob w
    have t3 := fun w => toI_run Of w
    have t4 := fun w => toI_run Og w
    have b1 := prod_le HAB.out.1 HFG.out.1
    have b2 := prod_le HAB.out.2 HFG.out.2
    have b3 := prod_le HAB.out.1 HFG.out.2
    have b4 := prod_le HAB.out.2 HFG.out.1
    have b5 := prod_le HAB.out.1 HAB.out.1
    have b6 := prod_le HAB.out.2 HAB.out.2
    have HOA := hid Oa
    have HOB := hid Ob
    clear HP Oa Ob Of Og hcell2 hk1 hk2
    refine (M1.out _).mono ?_
    rintro e w3 ⟨rfl, n1, rfl⟩
    go_wp2_with fail
    refine (M2.out _).mono ?_
    rintro e w3 ⟨rfl, n2, rfl⟩
    go_wp2_with fail
    refine (MP.out _).mono ?_
    rintro e w3 ⟨rfl, n3, rfl⟩
    go_wp2_with fail
    refine (ConjugateOf_calls _ _ _).mono ?_
    rintro e w3 ⟨rfl, n4, rfl⟩
    go_wp2_with fail
    refine (M3.out _).mono ?_
    rintro e w3 ⟨rfl, n5, rfl⟩
    go_wp2_with fail
    refine (CL.out _).mono ?_
    rintro e w3 ⟨v1, n6, rfl, hv1, rfl⟩
    have HV1 := hid hv1
    clear hv1 M1 M2 M3 MP CL
    go_wp2_with fail
    refine (fnExactRootNumber.root_spec_calls _ _).mono ?_
    rintro e w3 ⟨v2, n7, rfl, hv2, rfl⟩
    have HSN := hid (Same_any v1 v2 (W32.of_feq HV1.out (fnar_lt _)) (W32.of_feq hv2 (fnar_lt _)) true (same_feq (HV1.out.trans hv2.symm)))
    clear hv2 HV1
    have e5 := fun w => cneq_zero (ofInt32 (z := f) (by have := HFG.out; omega)) (ofInt32 (z := g) (by have := HFG.out; omega)) w
    by_cases h0 : f = 0 ∧ g = 0
    · rw [decide_eq_true h0.1, decide_eq_true h0.2] at e5
      have e5' : ∀ w, (binOp .neq 24 (.complex .f32 (floatOfInt .f32 f) (floatOfInt .f32 g)) (.complex .f32 0 0)).run Tryz.prog w = .ok (.bool false) w := e5
      clear e5
      go_wp2_with fail
      refine (HSN.out _).mono ?_
      rintro e w3 ⟨rfl, n8, rfl⟩
      have sc := hid (fun w => ScaleComplex_calls (floatOfInt .f32 a) (floatOfInt .f32 b) 1073741824 0 0 HOA.out.nm HOB.out.nm w)
      have e7 := fun w => cneq_twice HOA.out HOB.out w
      have e8 := fun w => run_cadd _ _ _ _ HOA.out.na HOB.out.na w
      generalize fop .mul .f32 (floatOfInt .f32 a) 1073741824 = sc1 at *
      generalize fop .mul .f32 (floatOfInt .f32 b) 1073741824 = sc2 at *
      generalize fop .add .f32 (floatOfInt .f32 a) (floatOfInt .f32 a) = ad1 at *
      generalize fop .add .f32 (floatOfInt .f32 b) (floatOfInt .f32 b) = ad2 at *
      go_wp2_with fail
      refine (sc.out _).mono ?_
      rintro e w3 ⟨rfl, n9, rfl⟩
      go_wp2_with fail
      refine (HAt.out _ (below_drewN B2.out _)).mono ?_
      rintro e w3 ⟨⟨k, hk, rfl⟩, rfl⟩
      go_wp2_with fail
      refine (HNs.out _ (below_drewN B2.out _) k (by omega)).mono ?_
      rintro e w4 ⟨A4, c4, zs, hzl, hzx, rfl, ho, b4⟩
      have B4 := hid ((below_drewN B2.out _).trans (b4.mono (below_drewN B2.out _).size))
      have HZL := hid hzl
      have HZX := hid hzx
      have HO4 := hid ho
      clear b4 hzl hzx ho HAt HNs sc e7 e8 HOA HOB
      have hk9 : zs.length ≤ 256 := by have := HZL.out; omega
      have HT := hid (ComplexText_calls A4 k c4 zs HZL.out (by omega) HZX.out w4 (B := w'.heap.size) B4.out.size HO4.out.rd (HLB.out _ B4.out).deb)
      rw [show cplxText zs = some (textJ (zs.map hexP)) by unfold cplxText; rw [if_pos hk9]] at HT
      have HTL := hid (textC_len zs hk9)
      have HRN := hid (readC_text zs hk9 HZX.out)
      generalize textJ (zs.map hexP) = txt at *
      go_wp2_with fail
      refine HT.out.mono ?_
      rintro e w6 ⟨rfl, b6⟩
      have B6 := hid (B4.out.trans (b6.mono B4.out.size))
      have HO6 := hid (HO4.out.step b6)
      have HR := hid (ReadComplex_calls ⟨txt.toArray⟩ (by rw [mk_size]; exact HTL.out) w6 (B := w'.heap.size) B6.out.size (HLB.out _ B6.out))
      rw [show (⟨txt.toArray⟩ : ByteArray).data.toList = txt by simp, HRN.out] at HR
      unfold RetV at HR
      simp only [Option.getD_some, Option.isSome_some, c64s_length, List.length_map, HZL.out] at HR
      clear b6 HT B4 HO4 HTL HRN
      go_wp2_with fail
      refine HR.out.mono ?_
      rintro e w7 ⟨A7, c7, rfl, o7, _, b7⟩
      have B7 := hid (B6.out.trans (b7.mono B6.out.size))
      have HO7 := hid (HO6.out.step b7)
      have HP7 := hid o7
      clear o7 b7 HR B6 HO6
      go_wp2_with fail
      refine (HX1.out _ B7.out).mono ?_
      rintro e w8 ⟨⟨z, hz, rfl⟩, b8⟩
      have B8 := hid (B7.out.trans (b8.mono B7.out.size))
      have HO8 := hid (HO7.out.step b8)
      have HP8 := hid (HP7.out.step b8)
      have HZ := hid hz
      clear b8 hz HX1 B7 HO7 HP7
      go_wp2_with fail
      refine (BitsOf_is z HZ.out _).mono ?_
      rintro e w9 ⟨rfl, m1, rfl⟩
      go_wp2_with fail
      refine (back_calls (cn .f32 z) (cn_lt HZ.out) _).mono ?_
      rintro e w9 ⟨rfl, m2, rfl⟩
      go_wp2_with fail
      have B9 := hid (below_drewN B8.out (m1 + m2))
      have HO9 := hid (show OwnV (w8.drewN (m1 + m2)) 24 A4 k c4 (c64s zs) from HO8.out.step (below_drewN (Below.refl _ _) _))
      have HP9 := hid (show OwnV (w8.drewN (m1 + m2)) 24 A7 k c7 (c64s (zs.map cnP)) from HP8.out.step (below_drewN (Below.refl _ _) _))
      clear B8 HO8 HP8
      generalize w8.drewN (m1 + m2) = w9 at *
      refine (HC1.out _ B9.out).mono ?_
      rintro e w10 ⟨⟨x, y, hx, hy, rfl⟩, b10⟩
      have B10 := hid (B9.out.trans (b10.mono B9.out.size))
      have HO10 := hid (HO9.out.step b10).rd
      have HP10 := hid (HP9.out.step b10).rd
      have HX := hid hx
      have HY := hid hy
      clear b10 hx hy HC1 B9 HO9 HP9
      go_wp2_with (refine wpList_wide rfl rfl (by kernel_rfl) Tryz.underlying46 ?_; intro v5 q5 hv5)
      have HV5 := hid (by assumption : FEq .f64 _ (fwide x))
      have HV6 := hid (by assumption : FEq .f64 _ (fwide y))
      have F1 := hid (fun w => IsFinC_calls x y w)
      have F2 := hid (fun w => sFinite_calls x w)
      have F3 := hid (fun w => sFinite_calls y w)
      generalize finB x = fx at *
      generalize finB y = fy at *
      refine (b10Same_yes _ _ _ _ _ zs HZL.out (by omega) HZX.out _ (show Rd (w10.drewN _) _ _ _ from HP10.out) (show Rd (w10.drewN _) _ _ _ from HO10.out)).mono ?_
      rintro e w11 ⟨rfl, m4, rfl⟩
      go_wp2_with fail
      refine (Same_any (cn .f32 z) z (.inr (cn_lt HZ.out)) (.inr HZ.out) true (same_feq (cn_cn z)) _).mono ?_
      rintro e w11 ⟨rfl, m5, rfl⟩
      go_wp2_with fail
      refine (NarrowComplex_is x y _ _ HX.out HY.out HV5.out HV6.out _).mono ?_
      rintro e w11 ⟨a5, b5, m6, rfl, ha5, hb5, rfl⟩
      have HA5 := hid ha5
      have HB5 := hid hb5
      clear ha5 hb5
      go_wp2_with fail
      refine (SameC_is a5 b5 x y (W32.of_feq HA5.out HX.out) (W32.of_feq HB5.out HY.out) (.inr HX.out) (.inr HY.out) HA5.out HB5.out _).mono ?_
      rintro e w11 ⟨rfl, m7, rfl⟩
      go_wp2_with fail
      refine (ConjugateOf_calls _ _ _).mono ?_
      rintro e w11 ⟨rfl, m8, rfl⟩
      go_wp2_with fail
      refine (ConjugateOf_calls _ _ _).mono ?_
      rintro e w11 ⟨rfl, m9, rfl⟩
      rw [fneg_fneg]
      go_wp2_with fail
      refine (SameC_is x y x y (.inr HX.out) (.inr HY.out) (.inr HX.out) (.inr HY.out) (FEq.refl _ _) (FEq.refl _ _) _).mono ?_
      rintro e w11 ⟨rfl, m10, rfl⟩
      go_wp2_with fail
      refine (F1.out _).mono ?_
      rintro e w11 ⟨rfl, m11, rfl⟩
      cases fx
      · go_wp2_with fail
        refine (F2.out _).mono ?_
        rintro e w11 ⟨rfl, m12, rfl⟩
        go_wp2
        go_ret
        exact ⟨rfl, below_drewN B10.out _⟩
      · go_wp2_with fail
        refine (F2.out _).mono ?_
        rintro e w11 ⟨rfl, m12, rfl⟩
        go_wp2_with fail
        refine (F3.out _).mono ?_
        rintro e w11 ⟨rfl, m13, rfl⟩
        cases fy
        all_goals
          go_wp2
          go_ret
          exact ⟨rfl, below_drewN B10.out _⟩
    · have e5' : ∀ w, (binOp .neq 24 (.complex .f32 (floatOfInt .f32 f) (floatOfInt .f32 g)) (.complex .f32 0 0)).run Tryz.prog w = .ok (.bool true) w := fun w => by
        rw [e5 w]
        congr 2
        rw [← Bool.decide_and, decide_eq_false h0]
        rfl
      clear e5
      obtain ⟨q, t, hq, ht, CQ⟩ := Quotient_is HRS.out.1 HRS.out.2 (ofInt32 (z := f) (by have := HFG.out; omega)) (ofInt32 (z := g) (by have := HFG.out; omega)) HAB.out.1 HAB.out.2 HFG.out.1 HFG.out.2 (by omega)
      have e6 := fun w => cneq_is hq ht (ofInt32 (z := a) (by have := HAB.out; omega)) (ofInt32 (z := b) (by have := HAB.out; omega)) w
      have CQ := hid CQ
      clear hq ht
      go_wp2_with fail
      refine (HSN.out _).mono ?_
      rintro e w3 ⟨rfl, n8, rfl⟩
      go_wp2_with fail
      refine (CQ.out _).mono ?_
      rintro e w3 ⟨rfl, n10, rfl⟩
      have sc := hid (fun w => ScaleComplex_calls (floatOfInt .f32 a) (floatOfInt .f32 b) 1073741824 0 0 HOA.out.nm HOB.out.nm w)
      have e7 := fun w => cneq_twice HOA.out HOB.out w
      have e8 := fun w => run_cadd _ _ _ _ HOA.out.na HOB.out.na w
      generalize fop .mul .f32 (floatOfInt .f32 a) 1073741824 = sc1 at *
      generalize fop .mul .f32 (floatOfInt .f32 b) 1073741824 = sc2 at *
      generalize fop .add .f32 (floatOfInt .f32 a) (floatOfInt .f32 a) = ad1 at *
      generalize fop .add .f32 (floatOfInt .f32 b) (floatOfInt .f32 b) = ad2 at *
      go_wp2_with fail
      refine (sc.out _).mono ?_
      rintro e w3 ⟨rfl, n9, rfl⟩
      go_wp2_with fail
      refine (HAt.out _ (below_drewN B2.out _)).mono ?_
      rintro e w3 ⟨⟨k, hk, rfl⟩, rfl⟩
      go_wp2_with fail
      refine (HNs.out _ (below_drewN B2.out _) k (by omega)).mono ?_
      rintro e w4 ⟨A4, c4, zs, hzl, hzx, rfl, ho, b4⟩
      have B4 := hid ((below_drewN B2.out _).trans (b4.mono (below_drewN B2.out _).size))
      have HZL := hid hzl
      have HZX := hid hzx
      have HO4 := hid ho
      clear b4 hzl hzx ho HAt HNs sc e7 e8 HOA HOB
      have hk9 : zs.length ≤ 256 := by have := HZL.out; omega
      have HT := hid (ComplexText_calls A4 k c4 zs HZL.out (by omega) HZX.out w4 (B := w'.heap.size) B4.out.size HO4.out.rd (HLB.out _ B4.out).deb)
      rw [show cplxText zs = some (textJ (zs.map hexP)) by unfold cplxText; rw [if_pos hk9]] at HT
      have HTL := hid (textC_len zs hk9)
      have HRN := hid (readC_text zs hk9 HZX.out)
      generalize textJ (zs.map hexP) = txt at *
      go_wp2_with fail
      refine HT.out.mono ?_
      rintro e w6 ⟨rfl, b6⟩
      have B6 := hid (B4.out.trans (b6.mono B4.out.size))
      have HO6 := hid (HO4.out.step b6)
      have HR := hid (ReadComplex_calls ⟨txt.toArray⟩ (by rw [mk_size]; exact HTL.out) w6 (B := w'.heap.size) B6.out.size (HLB.out _ B6.out))
      rw [show (⟨txt.toArray⟩ : ByteArray).data.toList = txt by simp, HRN.out] at HR
      unfold RetV at HR
      simp only [Option.getD_some, Option.isSome_some, c64s_length, List.length_map, HZL.out] at HR
      clear b6 HT B4 HO4 HTL HRN
      go_wp2_with fail
      refine HR.out.mono ?_
      rintro e w7 ⟨A7, c7, rfl, o7, _, b7⟩
      have B7 := hid (B6.out.trans (b7.mono B6.out.size))
      have HO7 := hid (HO6.out.step b7)
      have HP7 := hid o7
      clear o7 b7 HR B6 HO6
      go_wp2_with fail
      refine (HX1.out _ B7.out).mono ?_
      rintro e w8 ⟨⟨z, hz, rfl⟩, b8⟩
      have B8 := hid (B7.out.trans (b8.mono B7.out.size))
      have HO8 := hid (HO7.out.step b8)
      have HP8 := hid (HP7.out.step b8)
      have HZ := hid hz
      clear b8 hz HX1 B7 HO7 HP7
      go_wp2_with fail
      refine (BitsOf_is z HZ.out _).mono ?_
      rintro e w9 ⟨rfl, m1, rfl⟩
      go_wp2_with fail
      refine (back_calls (cn .f32 z) (cn_lt HZ.out) _).mono ?_
      rintro e w9 ⟨rfl, m2, rfl⟩
      go_wp2_with fail
      have B9 := hid (below_drewN B8.out (m1 + m2))
      have HO9 := hid (show OwnV (w8.drewN (m1 + m2)) 24 A4 k c4 (c64s zs) from HO8.out.step (below_drewN (Below.refl _ _) _))
      have HP9 := hid (show OwnV (w8.drewN (m1 + m2)) 24 A7 k c7 (c64s (zs.map cnP)) from HP8.out.step (below_drewN (Below.refl _ _) _))
      clear B8 HO8 HP8
      generalize w8.drewN (m1 + m2) = w9 at *
      refine (HC1.out _ B9.out).mono ?_
      rintro e w10 ⟨⟨x, y, hx, hy, rfl⟩, b10⟩
      have B10 := hid (B9.out.trans (b10.mono B9.out.size))
      have HO10 := hid (HO9.out.step b10).rd
      have HP10 := hid (HP9.out.step b10).rd
      have HX := hid hx
      have HY := hid hy
      clear b10 hx hy HC1 B9 HO9 HP9
      go_wp2_with (refine wpList_wide rfl rfl (by kernel_rfl) Tryz.underlying46 ?_; intro v5 q5 hv5)
      have HV5 := hid (by assumption : FEq .f64 _ (fwide x))
      have HV6 := hid (by assumption : FEq .f64 _ (fwide y))
      have F1 := hid (fun w => IsFinC_calls x y w)
      have F2 := hid (fun w => sFinite_calls x w)
      have F3 := hid (fun w => sFinite_calls y w)
      generalize finB x = fx at *
      generalize finB y = fy at *
      refine (b10Same_yes _ _ _ _ _ zs HZL.out (by omega) HZX.out _ (show Rd (w10.drewN _) _ _ _ from HP10.out) (show Rd (w10.drewN _) _ _ _ from HO10.out)).mono ?_
      rintro e w11 ⟨rfl, m4, rfl⟩
      go_wp2_with fail
      refine (Same_any (cn .f32 z) z (.inr (cn_lt HZ.out)) (.inr HZ.out) true (same_feq (cn_cn z)) _).mono ?_
      rintro e w11 ⟨rfl, m5, rfl⟩
      go_wp2_with fail
      refine (NarrowComplex_is x y _ _ HX.out HY.out HV5.out HV6.out _).mono ?_
      rintro e w11 ⟨a5, b5, m6, rfl, ha5, hb5, rfl⟩
      have HA5 := hid ha5
      have HB5 := hid hb5
      clear ha5 hb5
      go_wp2_with fail
      refine (SameC_is a5 b5 x y (W32.of_feq HA5.out HX.out) (W32.of_feq HB5.out HY.out) (.inr HX.out) (.inr HY.out) HA5.out HB5.out _).mono ?_
      rintro e w11 ⟨rfl, m7, rfl⟩
      go_wp2_with fail
      refine (ConjugateOf_calls _ _ _).mono ?_
      rintro e w11 ⟨rfl, m8, rfl⟩
      go_wp2_with fail
      refine (ConjugateOf_calls _ _ _).mono ?_
      rintro e w11 ⟨rfl, m9, rfl⟩
      rw [fneg_fneg]
      go_wp2_with fail
      refine (SameC_is x y x y (.inr HX.out) (.inr HY.out) (.inr HX.out) (.inr HY.out) (FEq.refl _ _) (FEq.refl _ _) _).mono ?_
      rintro e w11 ⟨rfl, m10, rfl⟩
      go_wp2_with fail
      refine (F1.out _).mono ?_
      rintro e w11 ⟨rfl, m11, rfl⟩
      cases fx
      · go_wp2_with fail
        refine (F2.out _).mono ?_
        rintro e w11 ⟨rfl, m12, rfl⟩
        go_wp2
        go_ret
        exact ⟨rfl, below_drewN B10.out _⟩
      · go_wp2_with fail
        refine (F2.out _).mono ?_
        rintro e w11 ⟨rfl, m12, rfl⟩
        go_wp2_with fail
        refine (F3.out _).mono ?_
        rintro e w11 ⟨rfl, m13, rfl⟩
        cases fy
        all_goals
          go_wp2
          go_ret
          exact ⟨rfl, below_drewN B10.out _⟩
  · go_wp2
    go_ret
    exact ⟨rfl, Below.refl _ _⟩
end Go.Proofs.YtkbfhooiloaokaaGreatDoor.fnProducts
/-
  The wrap of a row that lists variables, with the world's shape handed to the contract too. Over no program.
-/
namespace Go.Proofs.Fl
open Go
variable {H : Type} {enc : TypeId × Value → H}
theorem returns_and_shaped {a : Assume} {C : Checked} {os : Os} {f : FuncId} {fn : Func} {s : ChangeSpec} {conds : List PathCond} {apart fresh handsOn again : Bool} {X : World → Array Value → Prop}
    (hX : ∀ (w w' : World) (args : Array Value), w.heap = w'.heap → X w args → X w' args)
    (own : ownKnob C.prog.godebug = none) (started : os.Started) (noInit : C.prog.inits.idxOf? f = none) (hfn : C.prog.funcs[f]? = some fn)
    (witness : ∃ (w : World) (tape : Tape) (i : Input), w.os = os ∧ (w.forCall tape i).Shaped C.prog ∧ i.vars = [] ∧ Input.okWide C.prog (w.forCall tape i) .any w.heap.size f i ∧
      ((s.pre enc C.prog fn conds apart (w.forCall tape i).memory i.args ∧ X (w.forCall tape i).memory i.args) ∧ sizedMet enc C.prog fn (OpenSpec.ofChange s) apart (w.forCall tape i).memory i.args) ∧ a.holds C.prog (lone (Frame.enter C.prog f i.args .normal) [] (w.forCall tape i)))
    (contract : ∀ (W : World) (base : Nat) (args : Array Value) (ds gs : List (DataW H)) (before : List MemPlace),
      (∀ (j : Nat) t v, fn.params[j]? = some t → args[j]? = some v → Value.okWide C.prog W .any base t v) →
      DataW.Whole enc C.prog fn.params.toList s.vars apart W args.toList ds gs before →
      conds.all (PathCond.test C.prog ⟨fn.params.toList, ds, s.plain.varTypes C.prog, gs⟩) = true →
      X W args → W.ShapedOpen C.prog →
      Calls C.prog f args W fun e W' => ∃ v, e = .returned v ∧ s.post enc C.prog fn apart fresh handsOn again W args v W') :
    ReturnsInHanded a C os f .any (fun w args => (s.pre enc C.prog fn conds apart w args ∧ X w args) ∧ sizedMet enc C.prog fn (OpenSpec.ofChange s) apart w args) (s.post enc C.prog fn apart fresh handsOn again) := by
  refine returnsInHanded_of_calls own started noInit witness ?_
  intro w tape i _ hsh _ hok hpre _
  obtain ⟨_, _, _, fn', hfn', _, _, _, _, hval⟩ := hok
  have e : fn' = fn := Option.some.inj (hfn'.symm.trans hfn)
  subst e
  obtain ⟨⟨⟨ds, gs, before, hw, hc⟩, hx⟩, _⟩ := hpre
  have hw' := DataW.Whole.of_heap (w' := w.forCall tape i) (by rfl) hw
  refine (contract (w.forCall tape i) w.heap.size i.args ds gs before hval hw' hc (hX _ _ _ (by rfl) hx) hsh).mono fun e W' ⟨v, he, hp⟩ => ?_
  subst he
  exact ChangeSpec.post_blind hp
end Go.Proofs.Fl
/-
  FnProducts: whatever the input, the law returns true and leaves its arguments as they were (statement Rows.FnProductsSaid). No condition of its own.
-/
namespace Go.Proofs.YtkbfhooiloaokaaGreatDoor.fnProducts
open Go.ChangeShapes Go.WideShapes Go.ChangeAt Go.RowKit
open Go.ChangeMaps (open_string shut_string)
set_option linter.unusedVariables false
theorem own : ownKnob Tryz.prog.godebug = none := by kernel_rfl
theorem laidOut : laidOutB Tryz.prog = true := by kernel_rfl
abbrev laid0 : List (String × DataW Unit) := Rows.fnProductsRow.laid
/-- the heap that the door's run leaves, the pinned table laid in it -/
noncomputable def start (os : Os) : World :=
  { World.doorLaid Tryz.prog 400 os with heap := (World.doorLaid Tryz.prog 400 os).heap.modify 7 fun
      | .cells _ t frozen => .cells (Go.Pinned.utf8FirstZ.map fun (z : Nat) => Value.int .u8 (z : Int)).toArray t frozen
      | o => o }
theorem door_met (os : Os) (args : Array Value) : laidMet Tryz.prog laid0 ((start os).forCall (fun _ _ => 0) ⟨#[], args, []⟩).memory :=
  laidMet_of_run' 8 (by kernel_rfl) (by kernel_rfl)
theorem gPow : Tryz.prog.globalNamed "internal/strconv.uint64pow10" = some 1 := by kernel_rfl
theorem tPow : (Tryz.prog.globals[1]?).map (·.type) = some 137 := by kernel_rfl
theorem hT_of {W : World} (h : laidMet Tryz.prog laid0 W) : Go.Proofs.YtkbfhooiloaokaaGreatDoor.Num.Tab W.heap.size W :=
  Lib.tabBelow_of_tabIs (Lib.tabIs_of_head gPow tPow Tryz.underlying137 Tryz.underlying85 (by kernel_rfl) (by kernel_rfl) h.tail.tail)
theorem gDeb : Tryz.prog.globalNamed "math/bits.deBruijn64tab" = some 6 := by kernel_rfl
theorem tDeb : (Tryz.prog.globals[6]?).map (·.type) = some 157 := by kernel_rfl
theorem hD_of {W : World} (h : laidMet Tryz.prog laid0 W) : Go.Proofs.YtkbfhooiloaokaaGreatDoor.Num.Deb W.heap.size W :=
  Go.Proofs.YtkbfhooiloaokaaGreatDoor.Num.Deb.of ((Lib.tabIs_of_head (zs := [0, 1, 56, 2, 57, 49, 28, 3, 61, 58, 42, 50, 38, 29, 17, 4, 62, 47, 59, 36, 45, 43, 51, 22, 53, 39, 33, 30, 24, 18, 12, 5, 63, 55, 48, 27, 60, 41, 37, 16, 46, 35, 44, 21, 52, 32, 23, 11, 54, 26, 40, 15, 34, 20, 31, 10, 25, 14, 19, 9, 13, 8, 7, 6]) gDeb tDeb Tryz.underlying157 Tryz.underlying5 (by kernel_rfl) (by kernel_rfl) h.tail).cell gDeb 15 (by decide))
theorem gErrSyntax : Tryz.prog.globalNamed "strconv.ErrSyntax" = some 2 := by kernel_rfl
theorem tErrSyntax : (Tryz.prog.globals[2]?).map (·.type) = some 94 := by kernel_rfl
theorem gErrRange : Tryz.prog.globalNamed "strconv.ErrRange" = some 3 := by kernel_rfl
theorem tErrRange : (Tryz.prog.globals[3]?).map (·.type) = some 94 := by kernel_rfl
theorem star : "*" ++ "errors.errorString" = "*errors.errorString" := by decide
theorem rowES (u : TypeId) (h : Tryz.prog.typeName? 3 u = some "*errors.errorString") : u = 153 :=
  typeName_ptr_named (nm := "errors.errorString") (by rw [star]; kernel_rfl) (by kernel_rfl) (by decide) u (by rw [star]; exact h)
theorem hErrSyntax_of {W : World} (h : laidMet Tryz.prog laid0 W) : ∃ a : Addr, W.var? Tryz.prog "strconv.ErrSyntax" = some #[.iface 153 (.pointer (some a))] :=
  let ⟨a, _, hv, _⟩ := laid_sentinel (h.tail.tail.tail.tail.tail) gErrSyntax tErrSyntax Tryz.underlying94 rowES Tryz.underlying153 Tryz.underlying155 rfl rfl Tryz.underlying9 (by kernel_rfl) (by kernel_rfl)
  ⟨a, hv⟩
theorem hErrRange_of {W : World} (h : laidMet Tryz.prog laid0 W) : ∃ a : Addr, W.var? Tryz.prog "strconv.ErrRange" = some #[.iface 153 (.pointer (some a))] :=
  let ⟨a, _, hv, _⟩ := laid_sentinel (h.tail.tail.tail.tail) gErrRange tErrRange Tryz.underlying94 rowES Tryz.underlying153 Tryz.underlying155 rfl rfl Tryz.underlying9 (by kernel_rfl) (by kernel_rfl)
  ⟨a, hv⟩
theorem hE_of {W : World} (h : laidMet Tryz.prog laid0 W) : Go.Proofs.YtkbfhooiloaokaaGreatDoor.Num.Errs W.heap.size W := Go.Proofs.YtkbfhooiloaokaaGreatDoor.Num.Errs.of (hErrSyntax_of h) (hErrRange_of h)
theorem hM_of {W : World} (h : W.ShapedOpen Tryz.prog) : Go.Proofs.YtkbfhooiloaokaaGreatDoor.Num.MaxL W.heap.size W :=
  Go.Proofs.YtkbfhooiloaokaaGreatDoor.Num.MaxL.of (Go.Proofs.cell_of_shapedOpen_int (zero := #[.int .i64 0]) (t := 3) h (of_decide_eq_true (by kernel_rfl)) (by kernel_rfl) rfl (by kernel_rfl) (by kernel_rfl) Tryz.underlying3)
set_option maxRecDepth 100000 in
theorem lifted (os : Os) (started : os.Started) (H : Type) (enc : TypeId × Value → H) :
    ReturnsInHanded {} Tryz.checked os 3 .any (fun w args => (Rows.fnProductsSpec.pre enc Tryz.prog Tryz.f3 Rows.fnProductsRow.domain false w args ∧ laidMet Tryz.prog laid0 w) ∧ sizedMet enc Tryz.prog Tryz.f3 (OpenSpec.ofChange Rows.fnProductsSpec) false w args) (Rows.fnProductsSpec.post enc Tryz.prog Tryz.f3 false true false false) := by
  refine Go.Proofs.Fl.returns_and_shaped (C := Tryz.checked) (X := fun w _ => laidMet Tryz.prog laid0 w) (fun _ _ _ hh h => h.of_heap hh) own started (by kernel_rfl) Tryz.func3
    (ChangeSpec.witness_shaped (enc := enc) (C := Tryz.checked) (os := os) (X := fun w _ => laidMet Tryz.prog laid0 w) false (start os) #[.slice none 0 0, .slice none 0 0] 8 rfl (World.shaped_of_RefB (by kernel_rfl) (by kernel_rfl)) (by kernel_rfl) (by kernel_rfl) (by kernel_rfl) (door_met os _)) ?_
  intro W base args ds gs before hval0 hW hcnd hL hS
  have hval : ∀ (j : Nat) t v, Tryz.f3.params[j]? = some t → args[j]? = some v → Value.okWide Tryz.prog W .any base t v := hval0
  have hW' := hW
  obtain ⟨p, q, hA0, hV, rfl, hfz, hnd⟩ := hW
  have hA : DataW.TrodAll enc Tryz.prog W 0 (fun _ => true) true Tryz.f3.params.toList args.toList ds p := hA0
  rw [Tryz.params3] at hA hval
  obtain ⟨v0, vs0, d0, ds0, p0, q0, hargs, rfl, rfl, h0, r0⟩ := trodAll_cons hA
  obtain ⟨v1, vs1, d1, ds1, p1, q1, rfl, rfl, rfl, h1, r1⟩ := trodAll_cons r0
  obtain ⟨rfl, rfl, rfl⟩ := trodAll_nil r1
  obtain rfl : args = #[v0, v1] := by cases args; simp_all
  obtain ⟨rfl, rfl⟩ := trodVars_none hV
  have k0 := h0
  have lt0 : ∀ x ∈ p0, x.block < W.heap.size := by obtain ⟨m, hm⟩ := k0; exact DataW.trod_lt m _ _ _ hm
  obtain ⟨A0, n0, c0, z0, rfl, hl0, hc0, hm0, rd0, wf0⟩ := Go.Proofs.Fl.open_bytes Tryz.underlying22 Tryz.underlying5 (by kernel_rfl) (hval 0 22 v0 rfl rfl) h0
  have k1 := h1
  have lt1 : ∀ x ∈ p1, x.block < W.heap.size := by obtain ⟨m, hm⟩ := k1; exact DataW.trod_lt m _ _ _ hm
  obtain ⟨A1, n1, c1, z1, rfl, hl1, hc1, hm1, rd1, wf1⟩ := Go.Proofs.Fl.open_bytes Tryz.underlying22 Tryz.underlying5 (by kernel_rfl) (hval 1 22 v1 rfl rfl) h1
  clear hA0 hval0
  simp only [List.append_nil] at hW'
  refine (walk A0 n0 c0 z0 hl0 hc0 hm0 rd0 wf0 A1 n1 c1 z1 hl1 hc1 hm1 rd1 wf1 ⟨hD_of hL, hE_of hL, hM_of hS⟩).mono fun e W' ⟨he, bel⟩ => ?_
  subst he
  exact ⟨_, rfl, _, _, _, [], _, [], hW', trodAll_mk1 (shut_bool Tryz.underlying4 _), (trodAll_cons_mk (Below.trod laidOut (by kernel_rfl) (of_decide_eq_true (by kernel_rfl)) k0 bel lt0) (trodAll_cons_mk (Below.trod laidOut (by kernel_rfl) (of_decide_eq_true (by kernel_rfl)) k1 bel lt1) trodAll_mk0)), rfl, bel.frame _, fun h => by cases h⟩
theorem over : Rows.fnProductsRow.holds Tryz.pinned (OpenSpec.ofChange Rows.fnProductsSpec) :=
  OpenClaim.holds_of_wide 3 Tryz.f3 rfl rfl rfl rfl rfl rfl rfl ⟨rfl, rfl, rfl, rfl, rfl⟩ rfl rfl rfl rfl rfl (by kernel_rfl) Tryz.func3 (by kernel_rfl)
    (of_decide_eq_true (by kernel_rfl)) (by unfold Func.isWrapper; first | (rw [if_pos (by decide +kernel)]; kernel_rfl) | (rw [if_neg (by decide +kernel)]; exact ⟨rfl, rfl⟩))
    (fun os started H enc _ => lifted os started H enc)
theorem said : Rows.FnProductsSaid := over
theorem proved : Rows.FnProductsCardSaid :=
  Claim7.holds_tied_plain_at .later [] [.data, .data, .data, .data, .sentinel, .sentinel, .pinned] true (true, "1e7c4f0fc6c30b9b6001aa5842116efbae87ba86d4a048d72d46484593a9106f") true
    said (fun _ h => by cases h) (by kernel_rfl) (fun _ h => by cases h) fnProducts_row_tie rfl ⟨rfl, rfl⟩ (by kernel_rfl) rfl
    (fun f fn hf hfn => by
      obtain rfl : f = 3 := Option.some.inj ((show Tryz.prog.funcNamed "loop.example/g01357/laws.FnProducts" = some 3 by kernel_rfl).symm.trans hf) |>.symm
      obtain rfl : fn = Tryz.f3 := (Option.some.inj (Tryz.func3.symm.trans hfn)).symm
      exact ⟨by kernel_rfl, fun j t ht => by
        rw [Tryz.params3] at ht
        have hm : t ∈ [22, 22] := by simpa using Array.mem_of_getElem? ht
        have hall : ([22, 22].all fun u => !Tryz.prog.wantsStandIn u) = true := by kernel_rfl
        exact (show Tryz.prog.wantsStandIn t = false by simpa using List.all_eq_true.1 hall t hm)⟩)
    (by kernel_rfl)
#print axioms proved
end Go.Proofs.YtkbfhooiloaokaaGreatDoor.fnProducts
