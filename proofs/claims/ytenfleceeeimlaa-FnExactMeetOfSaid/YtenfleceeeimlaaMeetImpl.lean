/-
  The machine that reads what both read, by the program.
-/
import Derived.Test.YtenfleceeeimlaaMeetNo
import Derived.Deep.RegionHeld3
namespace Go.Proofs.Ytenfleceeeimlaa.fnExactMeetOf
open Go.RowKit Go.Proofs.Fl Go.Proofs.Ytenfleceeeimlaa.Num
open Go.Proofs.Ytenfleceeeimlaa.fnExactBackOf (own_any own_some own_succ own_empty i64s_one OwnL.set2 OwnL.setc rowN_is RetBM ownM_nil within_nil ownM_of within_of new4 ints4 own_set valid_marks)
open Go.Proofs.Ytenfleceeeimlaa.fnExactEndCosts (ArcsIn valid_ends)
set_option linter.unusedVariables false
set_option linter.unusedSimpArgs false
section
variable (S L : Int) (A : Option Addr) (n c : Nat) (B : Option Addr) (m d : Nat) (C : Option Addr) (q f : Nat) (zs xs ys : List Int) (hF : Fits n m q zs xs ys)
  (S' L' : Int) (A' : Option Addr) (n' c' : Nat) (B' : Option Addr) (m' d' : Nat) (C' : Option Addr) (q' f' : Nat) (zs' xs' ys' : List Int) (hF' : Fits n' m' q' zs' xs' ys')
include hF hF'
set_option maxHeartbeats 12800000 in
theorem impl_met (v1 : validM S L n zs m xs q ys = true) (v2 : validM S' L' n' zs' m' xs' q' ys' = true) (hL : L = L') (e1 : noE zs n = true) (e2 : noE zs' n' = true) (h16 : S * S' ≤ 16) (w : World) (hl : Lists w A B C zs xs ys) (hl' : Lists w A' B' C' zs' xs' ys')
    (Q : Bool) (hQ : meetOk S L n zs m xs q ys S' L' n' zs' m' xs' q' ys' = Q) :
    Calls Try.prog 25 #[.agg #[.int .i64 S, .int .i64 L, .slice A n c, .slice B m d, .slice C q f], .agg #[.int .i64 S', .int .i64 L', .slice A' n' c', .slice B' m' d', .slice C' q' f']] w
      (if Q then RetBM (S * S') L (cM zs zs' S' n' n 0) (pairsOf xs xs').length (pairsOf ys ys').length (accM zs zs' S' n' n 0) (pairsOf xs xs') (pairsOf ys ys') true w else RetBM 0 0 0 0 0 [] [] [] false w) := by
  have HL := hid hl
  have HL' := hid hl'
  have HF := hid hF
  have HF' := hid hF'
  have HV1 := hid (v1 ▸ fun w hl => implValid_calls S L A n c B m d C q f zs xs ys hF w hl)
  have HV2 := hid (v2 ▸ fun w hl => implValid_calls S' L' A' n' c' B' m' d' C' q' f' zs' xs' ys' hF' w hl)
  have HE1 := hid (e1 ▸ fun w ha => hasEmpty_calls S L A n c B m d C q f zs hF.z hF.n w ha)
  have HE2 := hid (e2 ▸ fun w ha => hasEmpty_calls S' L' A' n' c' B' m' d' C' q' f' zs' hF'.z hF'.n w ha)
  obtain ⟨va, vy, vn, vq, vq1, hS⟩ := valid_ends hF.y v1
  obtain ⟨va', vy', vn', vq', vq1', hS'⟩ := valid_ends hF'.y v2
  have hm := (valid_marks v1).2.2.2.1
  have hm' := (valid_marks v2).2.2.2.1
  have hmq : m = q := by omega
  have hmq' : m' = q' := by omega
  subst hmq hmq'
  subst hS hS'
  have HA := hid va
  have HA' := hid va'
  have HQ := hid hQ
  subst hL
  clear hF hF' hl hl' v1 v2 va va' vy vy' e1 e2 hm hm' hQ
  have hmm0 : (0 : Int) ≤ (m : Int) * (m' : Int) := Int.mul_nonneg (by omega) (by omega)
  have hL1 : (L != L) = false := bne_self_eq_false _
  have hM1 : decide (16 < (m : Int) * (m' : Int)) = false := decide_eq_false (by omega)
  go_enter Try.func25, Try.ntmps25
  go_wp2_with fail
  refine (HV1.out _ (((HL.out.alloc _).alloc _).alloc _)).mono ?_
  rintro e w1 ⟨rfl, bel1⟩
  have hc := (old_cell bel1).1
  have hf := (old_cell bel1).2
  have s1 : w.heap.size + 3 ≤ w1.heap.size := by have := bel1.size; simp at this; omega
  have BEL := hid ((((Below.refl w.heap.size w).alloc (Nat.le_refl _) _).alloc (by simp) _).alloc (by simp; omega) _ |>.trans (bel1.mono (by simp; omega)))
  have PA := hid (show MachAt w1 (w.heap.size) m L A n c B m d C m f from ⟨by rw [hc _ _ (by simp; omega)]; go_simp, by rw [hc _ _ (by simp; omega)]; go_simp, by rw [hc _ _ (by simp; omega)]; go_simp, by rw [hc _ _ (by simp; omega)]; go_simp, by rw [hc _ _ (by simp; omega)]; go_simp⟩)
  have PB := hid (show MachAt w1 (w.heap.size + 1) m' L A' n' c' B' m' d' C' m' f' from ⟨by rw [hc _ _ (by simp)]; go_simp, by rw [hc _ _ (by simp)]; go_simp, by rw [hc _ _ (by simp)]; go_simp, by rw [hc _ _ (by simp)]; go_simp, by rw [hc _ _ (by simp)]; go_simp⟩)
  have PZ := hid (show MachAt w1 (w.heap.size + 2) 0 0 none 0 0 none 0 0 none 0 0 from ⟨by rw [hc _ _ (by simp)]; go_simp, by rw [hc _ _ (by simp)]; go_simp, by rw [hc _ _ (by simp)]; go_simp, by rw [hc _ _ (by simp)]; go_simp, by rw [hc _ _ (by simp)]; go_simp⟩)
  have FZ := hid (show ∀ o, w1.frozen? ⟨w.heap.size + 2, o, none⟩ = false from fun o => by rw [hf _ _ (by simp)]; go_simp)
  clear hc hf bel1 HV1
  obtain ⟨a0, a1, a2, a3, a4⟩ := PA.out
  obtain ⟨b0, b1, b2, b3, b4⟩ := PB.out
  go_wp2_with fail
  refine (HV2.out _ (HL'.out.step BEL.out)).mono ?_
  rintro e w2 ⟨rfl, bel2⟩
  have tw2 := bel2.size
  replace BEL := hid (BEL.out.trans (bel2.mono (by omega)))
  replace PA := hid (PA.out.step bel2 (by omega))
  replace PB := hid (PB.out.step bel2 (by omega))
  replace PZ := hid (PZ.out.step bel2 (by omega))
  replace FZ := hid fun o => ((old_cell bel2).2 (w.heap.size + 2) o (by omega)).trans (FZ.out o)
  clear bel2 HV2 a0 a1 a2 a3 a4 b0 b1 b2 b3 b4
  obtain ⟨a0, a1, a2, a3, a4⟩ := PA.out
  obtain ⟨b0, b1, b2, b3, b4⟩ := PB.out
  go_wp2_with fail
  refine (HE1.out _ (HL.out.step BEL.out).a).mono ?_
  rintro e wq ⟨rfl, bel2⟩
  have twq := bel2.size
  replace BEL := hid (BEL.out.trans (bel2.mono (by omega)))
  replace PA := hid (PA.out.step bel2 (by omega))
  replace PB := hid (PB.out.step bel2 (by omega))
  replace PZ := hid (PZ.out.step bel2 (by omega))
  replace FZ := hid fun o => ((old_cell bel2).2 (w.heap.size + 2) o (by omega)).trans (FZ.out o)
  clear bel2 HE1 a0 a1 a2 a3 a4 b0 b1 b2 b3 b4
  obtain ⟨a0, a1, a2, a3, a4⟩ := PA.out
  obtain ⟨b0, b1, b2, b3, b4⟩ := PB.out
  go_wp2_with fail
  refine (HE2.out _ (HL'.out.step BEL.out).a).mono ?_
  rintro e w3 ⟨rfl, bel2⟩
  have tw3 := bel2.size
  replace BEL := hid (BEL.out.trans (bel2.mono (by omega)))
  replace PA := hid (PA.out.step bel2 (by omega))
  replace PB := hid (PB.out.step bel2 (by omega))
  replace PZ := hid (PZ.out.step bel2 (by omega))
  replace FZ := hid fun o => ((old_cell bel2).2 (w.heap.size + 2) o (by omega)).trans (FZ.out o)
  clear bel2 HE2 a0 a1 a2 a3 a4 b0 b1 b2 b3 b4
  obtain ⟨a0, a1, a2, a3, a4⟩ := PA.out
  obtain ⟨b0, b1, b2, b3, b4⟩ := PB.out
  have OW0 := hid (show (w3.alloc (Obj.cells #[] 50)).ownsRow w3.heap.size 50 4 (.slice (some ⟨w3.heap.size, 0, none⟩) (cM zs zs' m' n' 0 0) 0) (cM zs zs' m' n' 0 0) (i64s (accM zs zs' m' n' 0 0)) by rw [cM_zero, accM_zero]; exact own_empty w3 _ _)
  have BE0 := hid ((Below.refl w3.heap.size w3).alloc (Nat.le_refl _) (Obj.cells #[] 50))
  have lt3 : w.heap.size < w3.heap.size := by omega
  have ne3 : ¬ w.heap.size = w3.heap.size := by omega
  go_wp2_with fail
  have HLE := hid (HL.out.step BEL.out)
  have HLE' := hid (HL'.out.step BEL.out)
  obtain ⟨i0, hi0, hz0, hz1, hz2⟩ := info_parts arcs_info
  clear a0 a1 a2 a3 a4 b0 b1 b2 b3 b4 hL1 hM1
  go_loopw [6, 47] (fun v i wr => ∃ a g cap : Nat, a ≤ n ∧ i = .int .i64 a ∧ v = .slice (some ⟨g, 0, none⟩) (cM zs zs' m' n' a 0) cap ∧ Hid (wr.ownsRow w3.heap.size 50 4 (.slice (some ⟨g, 0, none⟩) (cM zs zs' m' n' a 0) cap) (cM zs zs' m' n' a 0) (i64s (accM zs zs' m' n' a 0))) ∧ Hid (Below w3.heap.size w3 wr)) (fun _ i _ => n - (intOf i).toNat)
  case atStart => exact ⟨0, w3.heap.size, 0, Nat.zero_le _, rfl, by rw [cM_zero], OW0, BE0⟩
  case round =>
    clear OW0 BE0
    obtain ⟨a, g, cap, ha, rfl, rfl, OW, hbel⟩ := hrel
    by_cases hla : a < n
    · obtain ⟨b1, o1, rfl, hb1, p0, p1, p2, p3⟩ := arcs_at (HLE.out.step hbel.out).a HF.out.z hla
      obtain ⟨y0, y1, y2, y3, y4, y5⟩ := HA.out a hla
      have hp0 : 0 ≤ ga zs (a * 4) * (m' : Int) := Int.mul_nonneg y0 (by omega)
      have hp1 : ga zs (a * 4) * (m' : Int) ≤ 256 := by have := Int.mul_le_mul (show ga zs (a * 4) ≤ 16 by omega) (show (m' : Int) ≤ 16 by omega) (by omega) (by omega); omega
      have hp2 : 0 ≤ ga zs (a * 4 + 1) * (m' : Int) := Int.mul_nonneg y2 (by omega)
      have hp3 : ga zs (a * 4 + 1) * (m' : Int) ≤ 256 := by have := Int.mul_le_mul (show ga zs (a * 4 + 1) ≤ 16 by omega) (show (m' : Int) ≤ 16 by omega) (by omega) (by omega); omega
      have HYES := hid fun k h => acc_yes (zs := zs) (zs' := zs') (S' := m') (n' := n') (a := a) (k := k) h
      have HNO := hid fun k h => acc_no (zs := zs) (zs' := zs') (S' := m') (n' := n') (a := a) (k := k) h
      have HCY := hid fun k h => cM_yes (zs := zs) (zs' := zs') (S' := m') (n' := n') (a := a) (k := k) h
      have HCN := hid fun k h => cM_no (zs := zs) (zs' := zs') (S' := m') (n' := n') (a := a) (k := k) h
      have hgl := own_lt OW.out
      have hsz := hbel.out.size
      have PB1 := hid (PB.out.step hbel.out (by omega))
      generalize ga zs (a * 4) = x0 at *
      generalize ga zs (a * 4 + 1) = x1 at *
      generalize ga zs (a * 4 + 2) = x2 at *
      generalize ga zs (a * 4 + 3) = x3 at *
      go_upto_region 7 with (fail)
      have be1 : Below wr.heap.size wr (wr.alloc (.cells #[.int .i64 x0, .int .i64 x1, .int .i64 x2, .int .i64 x3] 50)) := (Below.refl _ _).alloc (Nat.le_refl _) _
      have e0 : (wr.alloc (.cells #[.int .i64 x0, .int .i64 x1, .int .i64 x2, .int .i64 x3] 50)).cell? ⟨wr.heap.size, 0, none⟩ = some (.int .i64 x0) := by go_simp
      have e1 : (wr.alloc (.cells #[.int .i64 x0, .int .i64 x1, .int .i64 x2, .int .i64 x3] 50)).cell? ⟨wr.heap.size, 1, none⟩ = some (.int .i64 x1) := by go_simp
      have e2 : (wr.alloc (.cells #[.int .i64 x0, .int .i64 x1, .int .i64 x2, .int .i64 x3] 50)).cell? ⟨wr.heap.size, 2, none⟩ = some (.int .i64 x2) := by go_simp
      have e3 : (wr.alloc (.cells #[.int .i64 x0, .int .i64 x1, .int .i64 x2, .int .i64 x3] 50)).cell? ⟨wr.heap.size, 3, none⟩ = some (.int .i64 x3) := by go_simp
      have ss1 : (wr.alloc (.cells #[.int .i64 x0, .int .i64 x1, .int .i64 x2, .int .i64 x3] 50)).heap.size = wr.heap.size + 1 := by simp
      replace PB1 := hid (PB1.out.step be1 (by omega))
      replace OW := hid (OW.out.alloc (.cells #[.int .i64 x0, .int .i64 x1, .int .i64 x2, .int .i64 x3] 50))
      replace hbel := hid (hbel.out.alloc hbel.out.size (.cells #[.int .i64 x0, .int .i64 x1, .int .i64 x2, .int .i64 x3] 50))
      have EX := hid (show (wr.alloc (.cells #[.int .i64 x0, .int .i64 x1, .int .i64 x2, .int .i64 x3] 50)).cell? ⟨wr.heap.size, 0, none⟩ = some (.int .i64 x0) ∧ (wr.alloc (.cells #[.int .i64 x0, .int .i64 x1, .int .i64 x2, .int .i64 x3] 50)).cell? ⟨wr.heap.size, 1, none⟩ = some (.int .i64 x1) ∧ (wr.alloc (.cells #[.int .i64 x0, .int .i64 x1, .int .i64 x2, .int .i64 x3] 50)).cell? ⟨wr.heap.size, 2, none⟩ = some (.int .i64 x2) ∧ (wr.alloc (.cells #[.int .i64 x0, .int .i64 x1, .int .i64 x2, .int .i64 x3] 50)).cell? ⟨wr.heap.size, 3, none⟩ = some (.int .i64 x3) from ⟨e0, e1, e2, e3⟩)
      have hgx : g ≠ wr.heap.size := Nat.ne_of_lt hgl
      have b2 := PB1.out.c2
      clear be1 p0 p1 p2 p3 e0 e1 e2 e3
      have hbxv : wr.heap.size < (wr.alloc (.cells #[.int .i64 x0, .int .i64 x1, .int .i64 x2, .int .i64 x3] 50)).heap.size := by omega
      generalize wr.alloc (.cells #[.int .i64 x0, .int .i64 x1, .int .i64 x2, .int .i64 x3] 50) = v1 at *
      generalize wr.heap.size = bx at *
      clear ss1
      go_wp2_with fail
      clear b2 PB1
      go_loopw [6, 54] (fun v i wr => ∃ k g cap : Nat, k ≤ n' ∧ i = .int .i64 k ∧ v = .slice (some ⟨g, 0, none⟩) (cM zs zs' m' n' a k) cap ∧ g ≠ bx ∧ bx < wr.heap.size ∧ Hid (wr.ownsRow w3.heap.size 50 4 (.slice (some ⟨g, 0, none⟩) (cM zs zs' m' n' a k) cap) (cM zs zs' m' n' a k) (i64s (accM zs zs' m' n' a k))) ∧ Hid (wr.cell? ⟨bx, 0, none⟩ = some (.int .i64 x0) ∧ wr.cell? ⟨bx, 1, none⟩ = some (.int .i64 x1) ∧ wr.cell? ⟨bx, 2, none⟩ = some (.int .i64 x2) ∧ wr.cell? ⟨bx, 3, none⟩ = some (.int .i64 x3)) ∧ Hid (Below w3.heap.size w3 wr)) (fun _ i _ => n' - (intOf i).toNat)
      case atStart => exact ⟨0, g, cap, Nat.zero_le _, rfl, rfl, hgx, hbxv, OW, EX, hbel⟩
      case round =>
        clear OW EX hbel hgx hbxv hgl
        obtain ⟨k, g, cap, hk, rfl, rfl, hgx, hbxv, OW, EX, hbel⟩ := hrel
        by_cases hlk : k < n'
        · obtain ⟨b5, o5, rfl, hb5, q0, q1, q2, q3⟩ := arcs_at (HLE'.out.step hbel.out).a HF'.out.z hlk
          obtain ⟨u0, u1, u2, u3, u4, u5⟩ := HA'.out k hlk
          have hcm : cM zs zs' m' n' a k ≤ 17000 := by
            have h1 := accM_le zs zs' m' n' a k
            have h2 := Nat.mul_le_mul (show a ≤ 128 by omega) (show n' ≤ 128 by omega)
            omega
          have HY1 := hid (HYES.out k)
          have HC1 := hid (HCY.out k)
          have HN1 := hid (HNO.out k)
          have HC2 := hid (HCN.out k)
          clear HYES HCY HNO HCN
          generalize ga zs' (k * 4) = z0 at *
          generalize ga zs' (k * 4 + 1) = z1 at *
          generalize ga zs' (k * 4 + 2) = z2 at *
          generalize ga zs' (k * 4 + 3) = z3 at *
          go_upto_region 10 with (fail)
          have hbase := base_le OW.out
          have PB1 := hid (PB.out.step hbel.out (by omega))
          have be2 : Below wr.heap.size wr (wr.alloc (.cells #[.int .i64 z0, .int .i64 z1, .int .i64 z2, .int .i64 z3] 50)) := (Below.refl _ _).alloc (Nat.le_refl _) _
          have f0 : (wr.alloc (.cells #[.int .i64 z0, .int .i64 z1, .int .i64 z2, .int .i64 z3] 50)).cell? ⟨wr.heap.size, 0, none⟩ = some (.int .i64 z0) := by go_simp
          have f1 : (wr.alloc (.cells #[.int .i64 z0, .int .i64 z1, .int .i64 z2, .int .i64 z3] 50)).cell? ⟨wr.heap.size, 1, none⟩ = some (.int .i64 z1) := by go_simp
          have f2 : (wr.alloc (.cells #[.int .i64 z0, .int .i64 z1, .int .i64 z2, .int .i64 z3] 50)).cell? ⟨wr.heap.size, 2, none⟩ = some (.int .i64 z2) := by go_simp
          have f3 : (wr.alloc (.cells #[.int .i64 z0, .int .i64 z1, .int .i64 z2, .int .i64 z3] 50)).cell? ⟨wr.heap.size, 3, none⟩ = some (.int .i64 z3) := by go_simp
          have ss2 : (wr.alloc (.cells #[.int .i64 z0, .int .i64 z1, .int .i64 z2, .int .i64 z3] 50)).heap.size = wr.heap.size + 1 := by simp
          have e0 := ((old_cell be2).1 _ 0 hbxv).trans EX.out.1
          have e1 := ((old_cell be2).1 _ 1 hbxv).trans EX.out.2.1
          have e2 := ((old_cell be2).1 _ 2 hbxv).trans EX.out.2.2.1
          have e3 := ((old_cell be2).1 _ 3 hbxv).trans EX.out.2.2.2
          replace PB1 := hid (PB1.out.step be2 (by omega))
          replace OW := hid (OW.out.alloc (.cells #[.int .i64 z0, .int .i64 z1, .int .i64 z2, .int .i64 z3] 50))
          have hwr := hbel.out.size
          replace hbel := hid (hbel.out.alloc hbel.out.size (.cells #[.int .i64 z0, .int .i64 z1, .int .i64 z2, .int .i64 z3] 50))
          have EX2 := hid (show (wr.alloc (.cells #[.int .i64 z0, .int .i64 z1, .int .i64 z2, .int .i64 z3] 50)).cell? ⟨bx, 0, none⟩ = some (.int .i64 x0) ∧ (wr.alloc (.cells #[.int .i64 z0, .int .i64 z1, .int .i64 z2, .int .i64 z3] 50)).cell? ⟨bx, 1, none⟩ = some (.int .i64 x1) ∧ (wr.alloc (.cells #[.int .i64 z0, .int .i64 z1, .int .i64 z2, .int .i64 z3] 50)).cell? ⟨bx, 2, none⟩ = some (.int .i64 x2) ∧ (wr.alloc (.cells #[.int .i64 z0, .int .i64 z1, .int .i64 z2, .int .i64 z3] 50)).cell? ⟨bx, 3, none⟩ = some (.int .i64 x3) from ⟨e0, e1, e2, e3⟩)
          clear be2 q0 q1 q2 q3 EX
          have b0 := PB1.out.c0
          have hby : wr.heap.size < (wr.alloc (.cells #[.int .i64 z0, .int .i64 z1, .int .i64 z2, .int .i64 z3] 50)).heap.size := by omega
          have hbx2 : bx < (wr.alloc (.cells #[.int .i64 z0, .int .i64 z1, .int .i64 z2, .int .i64 z3] 50)).heap.size := by omega
          generalize wr.alloc (.cells #[.int .i64 z0, .int .i64 z1, .int .i64 z2, .int .i64 z3] 50) = v2 at *
          generalize wr.heap.size = bY at *
          clear ss2
          by_cases hx : x2 = z2
          · have HY := hid (HY1.out hx)
            have HC := hid (HC1.out hx)
            subst hx
            clear HY1 HC1 HN1 HC2
            have hll : i64s (accM zs zs' m' n' a k) ++ [Value.int .i64 (x0 * m' + z0), .int .i64 (x1 * m' + z1), .int .i64 x2, .int .i64 (x3 + z3)] = i64s (accM zs zs' m' n' a (k + 1)) := by rw [HY.out]; unfold i64s; rw [List.map_append]; rfl
            have HLL := hid hll
            clear hll HY
            generalize cM zs zs' m' n' a k = cn at *
            go_wp2_with (at_builtin; (refine wpList_append_own_at _ rfl _ _ 28 rfl w3.heap.size 50 i0 (Value.agg #[.int .i64 0, .int .i64 0, .int .i64 0, .int .i64 0]) 4 32 Try.underlying28 hi0 hz0 hz1 hz2 rfl (by decide) (.slice (some ⟨g, 0, none⟩) cn cap) cn (i64s (accM zs zs' m' n' a k)) rfl (OW.out.alloc _) ⟨v2.heap.size, 0, none⟩ 1 1 [.int .i64 (x0 * m' + z0), .int .i64 (x1 * m' + z1), .int .i64 x2, .int .i64 (x3 + z3)] rfl rfl (new4 _ _ _ _ _ _ _ rfl) (ints4 _ _ _ _) (by unfold maxLen; omega) (by omega) (by simp; omega) ?_); intro v' w5 hown' hgrow hnil hat; obtain ⟨g5, cap5, rfl⟩ := own_succ hown'; obtain ⟨fc, ff, hg5, hs5, hb5⟩ := app1 hbx2 hgx hgrow hat; have EX5 := hid (show w5.cell? ⟨bx, 0, none⟩ = some (.int .i64 x0) ∧ w5.cell? ⟨bx, 1, none⟩ = some (.int .i64 x1) ∧ w5.cell? ⟨bx, 2, none⟩ = some (.int .i64 x2) ∧ w5.cell? ⟨bx, 3, none⟩ = some (.int .i64 x3) from ⟨(fc 0).trans EX2.out.1, (fc 1).trans EX2.out.2.1, (fc 2).trans EX2.out.2.2.1, (fc 3).trans EX2.out.2.2.2⟩); have OW5 := hid hown'; have BB5 := hid hb5; clear hgrow hat hnil fc ff hown' hb5)
            go_roundw
            case rel => exact ⟨k + 1, g5, cap5, hlk, by go_num, by rw [HC.out], hg5, by omega, by rw [HC.out]; exact HLL.out ▸ OW5.out, EX5, hbel.out.trans (BB5.out _ hbase (by omega))⟩
            case measure => simp [intOf]; omega
          · have HY := hid (HN1.out hx)
            have HC := hid (HC2.out hx)
            have hx1 : (x2 == z2) = false := by simpa using hx
            clear HY1 HC1 HN1 HC2
            go_wp2_with fail
            go_roundw
            case rel => exact ⟨k + 1, g, cap, hlk, by go_num, by rw [HC.out], hgx, hbx2, by rw [HC.out, HY.out]; exact OW, EX2, hbel⟩
            case measure => simp [intOf]; omega
        · obtain rfl : k = n' := by omega
          go_wp2_with fail
          go_roundw
          case rel => exact ⟨a + 1, g, cap, hla, by go_num, by rw [← cM_next], by rw [← cM_next, ← accM_next]; exact OW, hbel⟩
          case measure => simp [intOf]; omega
    · have hcn : cM zs zs' m' n' n 0 ≤ 17000 := by
        have h1 := accM_le zs zs' m' n' n 0
        have h2 := Nat.mul_le_mul (show n ≤ 128 by omega) (show n' ≤ 128 by omega)
        omega
      obtain rfl : n = a := by omega
      have HP1 := hid (fun w ha hb => pairSums_calls B m d B' m' d' xs xs' HF.out.x HF'.out.x (by omega) (by omega) w ha hb)
      have HP2 := hid (fun w ha hb => pairSums_calls C m f C' m' f' ys ys' HF.out.y HF'.out.y (by omega) (by omega) w ha hb)
      have hl1 : (pairsOf xs xs').length ≤ 256 := by
        rw [pairsOf_len, HF.out.x, HF'.out.x]
        have := Nat.mul_le_mul (show m ≤ 16 by omega) (show m' ≤ 16 by omega)
        omega
      have hl2 : (pairsOf ys ys').length ≤ 256 := by
        rw [pairsOf_len, HF.out.y, HF'.out.y]
        have := Nat.mul_le_mul (show m ≤ 16 by omega) (show m' ≤ 16 by omega)
        omega
      have HFIT := hid (show Num.Fits (cM zs zs' m' n' n 0) (pairsOf xs xs').length (pairsOf ys ys').length (accM zs zs' m' n' n 0) (pairsOf xs xs') (pairsOf ys ys') from ⟨accM_four _ _ _ _ _ _, rfl, rfl, by omega, by omega, by omega⟩)
      have HV := hid (show validM ((m : Int) * (m' : Int)) L (cM zs zs' m' n' n 0) (accM zs zs' m' n' n 0) (pairsOf xs xs').length (pairsOf xs xs') (pairsOf ys ys').length (pairsOf ys ys') = Q from HQ.out)
      have hgl := own_lt OW.out
      have hbase := base_le OW.out
      have hwr := hbel.out.size
      have PAR := hid (PA.out.step hbel.out (by omega)).drew
      have PBR := hid (PB.out.step hbel.out (by omega)).drew
      have PZR := hid (PZ.out.step hbel.out (by omega)).drew
      have FZR := hid fun o => ((old_cell hbel.out).2 (w.heap.size + 2) o (by omega)).trans (FZ.out o)
      have HBA := hid (HLE.out.step hbel.out).drew
      have HBB := hid (HLE'.out.step hbel.out).drew
      have OA := hid (show OwnL wr.drew 50 4 (some ⟨g, 0, none⟩) (cM zs zs' m' n' n 0) cap (accM zs zs' m' n' n 0) from ⟨HFIT.out.z, .inr ⟨g, rfl, own_rebase OW.out⟩⟩)
      have BE1 := hid (BEL.out.trans (hbel.out.mono (by omega))).drew
      clear HQ HA HA' HL HL' OW hbel PA PB PZ FZ HLE HLE' BEL
      have hlk : ¬ (n : Int) < (n : Int) := by omega
      generalize hps : pairsOf xs xs' = ps at *
      generalize hqs : pairsOf ys ys' = qs at *
      generalize hcc : cM zs zs' m' n' n 0 = cn at *
      generalize hac : accM zs zs' m' n' n 0 = acc at *
      have EPS := hid hps
      have EQS := hid hqs
      have ECN := hid hcc
      have EAC := hid hac
      clear hps hqs hcc hac
      go_wp2_with fail
      obtain ⟨a0, a1, a2, a3, a4⟩ := PAR.out
      obtain ⟨b0, b1, b2, b3, b4⟩ := PBR.out
      have hz0' : w.heap.size < wr.drew.heap.size := (show w.heap.size < wr.heap.size by omega)
      have hz1' : w.heap.size + 1 < wr.drew.heap.size := (show w.heap.size + 1 < wr.heap.size by omega)
      have hz2' : w.heap.size + 2 < wr.drew.heap.size := (show w.heap.size + 2 < wr.heap.size by omega)
      have hgl' : g < wr.drew.heap.size := hgl
      have FZD := hid (show ∀ o, wr.drew.frozen? ⟨w.heap.size + 2, o, none⟩ = false from FZR.out)
      have hwd : w3.heap.size ≤ wr.drew.heap.size := hwr
      clear hgl hwr FZR
      have HP1W := hid (HP1.out wr.drew HBA.out.b HBB.out.b)
      have HG := hid (fun A5 c5 A6 c6 w hl => checked_calls ((m : Int) * (m' : Int)) L (some ⟨g, 0, none⟩) cn cap A5 ps.length c5 A6 qs.length c6 acc ps qs HFIT.out w hl)
      rw [HV.out] at HG
      have W : IntKind.i64.wrap ((m : Int) * (m' : Int)) = (m : Int) * (m' : Int) := by rw [IntKind.wrap_i64]; omega
      cases Q
      · go_region_held3 (fun w' => w'.cell? ⟨w.heap.size, 0, none⟩ = some (.int .i64 (m : Int)) ∧ w'.cell? ⟨w.heap.size, 1, none⟩ = some (.int .i64 L) ∧ w'.cell? ⟨w.heap.size, 3, none⟩ = some (.slice B m d) ∧ w'.cell? ⟨w.heap.size, 4, none⟩ = some (.slice C m f) ∧ w'.cell? ⟨w.heap.size + 1, 0, none⟩ = some (.int .i64 (m' : Int)) ∧ w'.cell? ⟨w.heap.size + 1, 3, none⟩ = some (.slice B' m' d') ∧ w'.cell? ⟨w.heap.size + 1, 4, none⟩ = some (.slice C' m' f')) (first | with_reducible exact ⟨a0, a1, a3, a4, b0, b3, b4⟩ | with_reducible exact ⟨a50, a51, a53, a54, b50, b53, b54⟩ | with_reducible exact ⟨a60, a61, a63, a64, b60, b63, b64⟩ | with_reducible exact ⟨a70, a71, a73, a74, b70, b73, b74⟩ | (refine ⟨?_, ?_, ?_, ?_, ?_, ?_, ?_⟩ <;> go_simp)) (first | (go_at_call_of 50 d; refine (HP1W.out).mono ?_; rintro e w5 ⟨A5, c5, rfl, ol5, or5, bel5⟩; have t5 := bel5.size; have PA5 := hid (MachAt.step PAR.out bel5 hz0'); have PB5 := hid (MachAt.step PBR.out bel5 hz1'); have PZ5 := hid (MachAt.step PZR.out bel5 hz2'); obtain ⟨a50, a51, a52, a53, a54⟩ := PA5.out; obtain ⟨b50, b51, b52, b53, b54⟩ := PB5.out; have FZ5 := hid (fun o => ((old_cell bel5).2 (w.heap.size + 2) o hz2').trans (FZD.out o)); have OL5 := hid ol5; have OR5 := hid or5; have BEL5 := hid bel5; clear ol5 or5 bel5) | (go_at_call_of 50 f; refine (HP2.out _ (rd_step HBA.out.c BEL5.out) (rd_step HBB.out.c BEL5.out)).mono ?_; rintro e w6 ⟨A6, c6, rfl, ol6, or6, bel6⟩; have t6 := bel6.size; have y0 : w.heap.size < w5.heap.size := (by omega); have y1 : w.heap.size + 1 < w5.heap.size := (by omega); have y2 : w.heap.size + 2 < w5.heap.size := (by omega); have PA6 := hid (MachAt.step PA5.out bel6 y0); have PB6 := hid (MachAt.step PB5.out bel6 y1); have PZ6 := hid (MachAt.step PZ5.out bel6 y2); obtain ⟨a60, a61, a62, a63, a64⟩ := PA6.out; obtain ⟨b60, b61, b62, b63, b64⟩ := PB6.out; have FZ6 := hid (fun o => ((old_cell bel6).2 (w.heap.size + 2) o y2).trans (FZ5.out o)); have OL6 := hid ol6; have OR6 := hid or6; have BEL6 := hid bel6; clear ol6 or6 bel6) | (go_at_call 49; refine (HG.out A5 c5 A6 c6 _ ⟨rd_step (rd_step OA.out.rd BEL5.out) BEL6.out, rd_step OL5.out.rd BEL6.out, OL6.out.rd⟩).mono ?_; rintro e w7 ⟨rfl, bel7⟩; have t7 := bel7.size; have x0 : w.heap.size < w6.heap.size := (by omega); have x1 : w.heap.size + 1 < w6.heap.size := (by omega); have x2 : w.heap.size + 2 < w6.heap.size := (by omega); have PA7 := hid (MachAt.step PA6.out bel7 x0); have PB7 := hid (MachAt.step PB6.out bel7 x1); obtain ⟨a70, a71, a72, a73, a74⟩ := PA7.out; obtain ⟨b70, b71, b72, b73, b74⟩ := PB7.out; obtain ⟨k0, k1, k2, k3, k4⟩ := MachAt.step PZ6.out bel7 x2; have fz := (fun o => ((old_cell bel7).2 (w.heap.size + 2) o x2).trans (FZ6.out o)); have j0 := fz 0; have j1 := fz 1; have j2 := fz 2; have j3 := fz 3; have j4 := fz 4; have BEL7 := hid bel7; clear fz bel7))
        all_goals
          go_wp2_with fail
          have BF := hid (((BE1.out.trans (BEL5.out.mono (by omega))).trans (BEL6.out.mono (by omega))).trans (BEL7.out.mono (by omega)))
          exact bodyPost_ret (v := .tuple #[.agg #[.int .i64 0, .int .i64 0, .slice none 0 0, .slice none 0 0, .slice none 0 0], .bool false]) (by simp [results, Try.results25, go_sem, k0, k1, k2, k3, k4]) rfl
            (show RetBM 0 0 0 0 0 [] [] [] false w _ _ from ⟨none, 0, none, 0, none, 0, rfl, ownM_nil _, within_nil _ _, (((((BF.out.setCell (by simp; omega) _).setCell (by simp; omega) _).setCell (by simp; omega) _).setCell (by simp; omega) _).setCell (by simp; omega) _)⟩)
      · go_region_held3 (fun w' => w'.cell? ⟨w.heap.size, 0, none⟩ = some (.int .i64 (m : Int)) ∧ w'.cell? ⟨w.heap.size, 1, none⟩ = some (.int .i64 L) ∧ w'.cell? ⟨w.heap.size, 3, none⟩ = some (.slice B m d) ∧ w'.cell? ⟨w.heap.size, 4, none⟩ = some (.slice C m f) ∧ w'.cell? ⟨w.heap.size + 1, 0, none⟩ = some (.int .i64 (m' : Int)) ∧ w'.cell? ⟨w.heap.size + 1, 3, none⟩ = some (.slice B' m' d') ∧ w'.cell? ⟨w.heap.size + 1, 4, none⟩ = some (.slice C' m' f')) (first | with_reducible exact ⟨a0, a1, a3, a4, b0, b3, b4⟩ | with_reducible exact ⟨a50, a51, a53, a54, b50, b53, b54⟩ | with_reducible exact ⟨a60, a61, a63, a64, b60, b63, b64⟩ | with_reducible exact ⟨a70, a71, a73, a74, b70, b73, b74⟩ | (refine ⟨?_, ?_, ?_, ?_, ?_, ?_, ?_⟩ <;> go_simp)) (first | (go_at_call_of 50 d; refine (HP1W.out).mono ?_; rintro e w5 ⟨A5, c5, rfl, ol5, or5, bel5⟩; have t5 := bel5.size; have PA5 := hid (MachAt.step PAR.out bel5 hz0'); have PB5 := hid (MachAt.step PBR.out bel5 hz1'); have PZ5 := hid (MachAt.step PZR.out bel5 hz2'); obtain ⟨a50, a51, a52, a53, a54⟩ := PA5.out; obtain ⟨b50, b51, b52, b53, b54⟩ := PB5.out; have FZ5 := hid (fun o => ((old_cell bel5).2 (w.heap.size + 2) o hz2').trans (FZD.out o)); have OL5 := hid ol5; have OR5 := hid or5; have BEL5 := hid bel5; clear ol5 or5 bel5) | (go_at_call_of 50 f; refine (HP2.out _ (rd_step HBA.out.c BEL5.out) (rd_step HBB.out.c BEL5.out)).mono ?_; rintro e w6 ⟨A6, c6, rfl, ol6, or6, bel6⟩; have t6 := bel6.size; have y0 : w.heap.size < w5.heap.size := (by omega); have y1 : w.heap.size + 1 < w5.heap.size := (by omega); have y2 : w.heap.size + 2 < w5.heap.size := (by omega); have PA6 := hid (MachAt.step PA5.out bel6 y0); have PB6 := hid (MachAt.step PB5.out bel6 y1); have PZ6 := hid (MachAt.step PZ5.out bel6 y2); obtain ⟨a60, a61, a62, a63, a64⟩ := PA6.out; obtain ⟨b60, b61, b62, b63, b64⟩ := PB6.out; have FZ6 := hid (fun o => ((old_cell bel6).2 (w.heap.size + 2) o y2).trans (FZ5.out o)); have OL6 := hid ol6; have OR6 := hid or6; have BEL6 := hid bel6; clear ol6 or6 bel6) | (go_at_call 49; refine (HG.out A5 c5 A6 c6 _ ⟨rd_step (rd_step OA.out.rd BEL5.out) BEL6.out, rd_step OL5.out.rd BEL6.out, OL6.out.rd⟩).mono ?_; rintro e w7 ⟨rfl, bel7⟩; have t7 := bel7.size; have x0 : w.heap.size < w6.heap.size := (by omega); have x1 : w.heap.size + 1 < w6.heap.size := (by omega); have x2 : w.heap.size + 2 < w6.heap.size := (by omega); have PA7 := hid (MachAt.step PA6.out bel7 x0); have PB7 := hid (MachAt.step PB6.out bel7 x1); obtain ⟨a70, a71, a72, a73, a74⟩ := PA7.out; obtain ⟨b70, b71, b72, b73, b74⟩ := PB7.out; obtain ⟨k0, k1, k2, k3, k4⟩ := MachAt.step PZ6.out bel7 x2; have fz := (fun o => ((old_cell bel7).2 (w.heap.size + 2) o x2).trans (FZ6.out o)); have j0 := fz 0; have j1 := fz 1; have j2 := fz 2; have j3 := fz 3; have j4 := fz 4; have BEL7 := hid bel7; clear fz bel7))
        all_goals
          go_wp2_with fail
          have BF := hid (((BE1.out.trans (BEL5.out.mono (by omega))).trans (BEL6.out.mono (by omega))).trans (BEL7.out.mono (by omega)))
          have OMZ := hid (show OwnM w7 (some ⟨g, 0, none⟩) cn cap A5 ps.length c5 A6 qs.length c6 acc ps qs from ⟨((OA.out.step BEL5.out).step BEL6.out).step BEL7.out, (OL5.out.step BEL6.out).step BEL7.out, OL6.out.step BEL7.out, (fun x h e => by have h1 := rowN_is h; have h2 := OR5.out x e; omega), (fun x h e => by have h1 := rowN_is h; have h2 := OR6.out x e; omega), (fun x h e => by have h1 := OL5.out.row_lt h; have h2 := OR6.out x e; omega)⟩)
          have HWI := hid (show ∀ hi, w7.heap.size ≤ hi → Within w3.heap.size hi (rowsM cn (some ⟨g, 0, none⟩) ps.length A5 qs.length A6) from fun hi hh r hr x hx => by
            simp only [rowsM, List.mem_cons, List.not_mem_nil, or_false] at hr
            rcases hr with rfl | rfl | rfl
            · have h1 := rowN_is hx; omega
            · have h1 := OR5.out x hx; have h2 := OL5.out.row_lt hx; omega
            · have h1 := OR6.out x hx; have h2 := OL6.out.row_lt hx; omega)
          refine bodyPost_ret (v := .tuple #[.agg #[.int .i64 ((m : Int) * (m' : Int)), .int .i64 L, .slice (some ⟨g, 0, none⟩) cn cap, .slice A5 ps.length c5, .slice A6 qs.length c6], .bool true]) (by simp [results, Try.results25, go_sem, k0, k1, k2, k3, k4]) rfl ?_
          have h2 := EPS.out
          have h3 := EQS.out
          have h4 := ECN.out
          have h5 := EAC.out
          subst h2 h3 h4 h5
          exact (show RetBM _ _ _ _ _ _ _ _ true w _ _ from ⟨_, _, _, _, _, _, rfl, ownM_set (ownM_set (ownM_set (ownM_set (ownM_set OMZ.out (HWI.out _ (Nat.le_refl _)) (by simp; omega) _) (HWI.out _ (Nat.le_refl _)) (by simp; omega) _) (HWI.out _ (Nat.le_refl _)) (by simp; omega) _) (HWI.out _ (Nat.le_refl _)) (by simp; omega) _) (HWI.out _ (Nat.le_refl _)) (by simp; omega) _, (HWI.out _ (by simp)).mono (by omega) (Nat.le_refl _), (((((BF.out.setCell (by simp; omega) _).setCell (by simp; omega) _).setCell (by simp; omega) _).setCell (by simp; omega) _).setCell (by simp; omega) _)⟩)
end
end Go.Proofs.Ytenfleceeeimlaa.fnExactMeetOf
