/-
  The machine that reads what both read, by the reference.
-/
import Derived.Test.YtenfleceeeimlaaMeetL
import Derived.Test.YtenfleceeeimlaaEndPlain
namespace Go.Proofs.Ytenfleceeeimlaa.fnExactMeetOf
open Go.RowKit Go.Proofs.Fl Go.Proofs.Ytenfleceeeimlaa.Num
open Go.Proofs.Ytenfleceeeimlaa.fnExactBackOf (own_any own_some own_succ own_empty i64s_one OwnL.set2 rowN_is RetBM ownM_nil within_nil ownM_of within_of new4 ints4 own_set valid_marks)
open Go.Proofs.Ytenfleceeeimlaa.fnExactEndCosts (ArcsIn valid_ends)
set_option linter.unusedVariables false
set_option linter.unusedSimpArgs false
/-- behind an append to a row that the call owns -/
theorem app1 {wr w5 : World} {X : Obj} {bo g g5 k cap k5 cap5 : Nat} (hbo : bo < wr.heap.size) (hg : g ≠ bo) (hgrow : (wr.alloc X).grownBy w5 (Value.slice (some ⟨g, 0, none⟩) k cap).ownBlock)
    (hat : (Value.slice (some ⟨g5, 0, none⟩) k5 cap5).ownBlock = (Value.slice (some ⟨g, 0, none⟩) k cap).ownBlock ∨ (Value.slice (some ⟨g5, 0, none⟩) k5 cap5).ownBlock = some (wr.alloc X).heap.size) :
    (∀ o, w5.cell? ⟨bo, o, none⟩ = wr.cell? ⟨bo, o, none⟩) ∧ (∀ o, w5.frozen? ⟨bo, o, none⟩ = wr.frozen? ⟨bo, o, none⟩) ∧ g5 ≠ bo ∧ wr.heap.size ≤ w5.heap.size ∧ (∀ B, B ≤ g → B ≤ wr.heap.size → Below B wr w5) := by
  have K := fnExactBackOf.Kept.of_grown hgrow
  have hbel : Below wr.heap.size wr (wr.alloc X) := (Below.refl _ _).alloc (Nat.le_refl _) _
  have hs : (wr.alloc X).heap.size = wr.heap.size + 1 := by simp
  have hr : ∀ r ∈ [(Value.slice (some ⟨g, 0, none⟩) k cap).ownBlock], some bo ≠ r := fun r hr e => by simp [Value.ownBlock] at hr; subst hr; simp at e; exact hg e.symm
  refine ⟨fun o => (K.cell (by omega) hr o).trans (hbel.cell (p := ⟨bo, o, none⟩) hbo), fun o => (fnExactBackOf.Kept.frz K (by omega) hr o).trans (hbel.frozen (p := ⟨bo, o, none⟩) hbo), ?_, ?_, fun B h1 h2 => (hbel.mono h2).trans (K.below (by omega) fun r hr g' hg' => by simp [Value.ownBlock] at hr; subst hr; simp at hg'; omega)⟩
  · rcases hat with h | h
    · simp [Value.ownBlock] at h; omega
    · simp [Value.ownBlock] at h; omega
  · have := K.size; omega
theorem lettered_G (b : Nat) (S L : Int) (A : Option Addr) (n c : Nat) (B : Option Addr) (m d : Nat) (C : Option Addr) (q f : Nat) (zs : List Int) (hz : zs.length = n * 4) (hn : n ≤ 1048576) (w : World) (hp : MachAt w b S L A n c B m d C q f) (ha : Rd w w.heap.size A (i64s zs)) :
    Calls Try.prog 45 #[.pointer (some ⟨b, 0, none⟩)] w (RetG (.bool (noE zs n)) w) :=
  (l02Lettered_calls b S L A n c B m d C q f zs hz hn w hp ha).mono fun e w' h => by
    obtain ⟨he, k, hk⟩ := h
    exact ⟨he, by rw [hk]; exact below_drewN (Below.refl _ _) _⟩
/-- the base of a row -/
theorem base_le {w : World} {base e size g k cap : Nat} {xs : List Value} (h : w.ownsRow base e size (.slice (some ⟨g, 0, none⟩) k cap) k xs) : base ≤ g := by
  rcases h.2 with ⟨hv, _⟩ | ⟨g', cap', cur, hv, hb, _⟩
  · cases hv
  · simp only [Value.slice.injEq, Option.some.injEq, Addr.mk.injEq, and_true, true_and] at hv
    omega
/-- a machine's lists stay while cells of a block below them are written -/
theorem ownM_set {w : World} {lo hi : Nat} {A : Option Addr} {n c : Nat} {B : Option Addr} {m d : Nat} {C : Option Addr} {q f : Nat} {zs xs ys : List Int} (h : OwnM w A n c B m d C q f zs xs ys) (hw : Within lo hi (rowsM n A m B q C)) {p : Addr} (hp : p.block < lo) (u : Value) : OwnM (w.setCell p u) A n c B m d C q f zs xs ys :=
  h.apart ((Kept.refl w [some p.block]).set (by simp) u) hw (lo' := p.block) (hi' := p.block + 1) (fun r hr g hg => by simp at hr; subst hr; simp at hg; omega) (.inr (by omega))
section
variable (S L : Int) (A : Option Addr) (n c : Nat) (B : Option Addr) (m d : Nat) (C : Option Addr) (q f : Nat) (zs xs ys : List Int) (hF : Fits n m q zs xs ys)
  (S' L' : Int) (A' : Option Addr) (n' c' : Nat) (B' : Option Addr) (m' d' : Nat) (C' : Option Addr) (q' f' : Nat) (zs' xs' ys' : List Int) (hF' : Fits n' m' q' zs' xs' ys')
include hF hF'
set_option maxHeartbeats 12800000 in
theorem spec_met (v1 : validM S L n zs m xs q ys = true) (v2 : validM S' L' n' zs' m' xs' q' ys' = true) (hL : L = L') (e1 : noE zs n = true) (e2 : noE zs' n' = true) (w : World) (hl : Lists w A B C zs xs ys) (hl' : Lists w A' B' C' zs' xs' ys')
    (Q : Bool) (hQ : meetOk S L n zs m xs q ys S' L' n' zs' m' xs' q' ys' = Q) :
    Calls Try.prog 24 #[.agg #[.int .i64 S, .int .i64 L, .slice A n c, .slice B m d, .slice C q f], .agg #[.int .i64 S', .int .i64 L', .slice A' n' c', .slice B' m' d', .slice C' q' f']] w
      (if Q then RetBM (S * S') L (cM zs zs' S' n' n 0) (pairsOf xs xs').length (pairsOf ys ys').length (accM zs zs' S' n' n 0) (pairsOf xs xs') (pairsOf ys ys') true w else RetBM 0 0 0 0 0 [] [] [] false w) := by
  have HL := hid hl
  have HL' := hid hl'
  have HF := hid hF
  have HF' := hid hF'
  have HT := hid fun (b b' : Nat) (w : World) hp hp' hb hb' hl hl' => l02Two_calls S L A n c B m d C q f zs xs ys hF S' L' A' n' c' B' m' d' C' q' f' zs' xs' ys' hF' b b' w hp hp' hb hb' hl hl'
  rw [show twoOk S L n zs m xs q ys S' L' n' zs' m' xs' q' ys' = true by unfold twoOk; rw [v1, v2, hL]; simp] at HT
  have HE1 := hid fun b w hp ha => e1 ▸ lettered_G b S L A n c B m d C q f zs hF.z hF.n w hp ha
  have HE2 := hid fun b w hp ha => e2 ▸ lettered_G b S' L' A' n' c' B' m' d' C' q' f' zs' hF'.z hF'.n w hp ha
  obtain ⟨va, vy, vn, vq, vq1, hS⟩ := valid_ends hF.y v1
  obtain ⟨va', vy', vn', vq', vq1', hS'⟩ := valid_ends hF'.y v2
  have hm := (valid_marks v1).2.2.2.1
  have hm' := (valid_marks v2).2.2.2.1
  have hmq : m = q := by omega
  have hmq' : m' = q' := by omega
  subst hmq hmq'
  subst hS hS'
  have HA := hid va
  have HA' := hid va'
  have HQ := hid hQ
  subst hL
  clear hF hF' hl hl' v1 v2 va va' vy vy' e1 e2 hm hm' hQ
  have hmm0 : (0 : Int) ≤ (m : Int) * (m' : Int) := Int.mul_nonneg (by omega) (by omega)
  have hmm1 : (m : Int) * (m' : Int) ≤ 256 := by have := Int.mul_le_mul (show (m : Int) ≤ 16 by omega) (show (m' : Int) ≤ 16 by omega) (by omega) (by omega); omega
  go_enter Try.func24, Try.ntmps24
  go_wp2_with fail
  refine (HT.out w.heap.size (w.heap.size + 1) _ ⟨by go_simp, by go_simp, by go_simp, by go_simp, by go_simp⟩ ⟨by go_simp, by go_simp, by go_simp, by go_simp, by go_simp⟩ (by simp; omega) (by simp) (((HL.out.alloc _).alloc _).alloc _) (((HL'.out.alloc _).alloc _).alloc _)).mono ?_
  rintro e w1 ⟨rfl, bel1⟩
  have hc := (old_cell bel1).1
  have hf := (old_cell bel1).2
  have s1 : w.heap.size + 3 ≤ w1.heap.size := by have := bel1.size; simp at this; omega
  have BEL := hid ((((Below.refl w.heap.size w).alloc (Nat.le_refl _) _).alloc (by simp) _).alloc (by simp; omega) _ |>.trans (bel1.mono (by simp; omega)))
  have PA := hid (show MachAt w1 w.heap.size m L A n c B m d C m f from ⟨by rw [hc _ _ (by simp; omega)]; go_simp, by rw [hc _ _ (by simp; omega)]; go_simp, by rw [hc _ _ (by simp; omega)]; go_simp, by rw [hc _ _ (by simp; omega)]; go_simp, by rw [hc _ _ (by simp; omega)]; go_simp⟩)
  have PB := hid (show MachAt w1 (w.heap.size + 1) m' L A' n' c' B' m' d' C' m' f' from ⟨by rw [hc _ _ (by simp)]; go_simp, by rw [hc _ _ (by simp)]; go_simp, by rw [hc _ _ (by simp)]; go_simp, by rw [hc _ _ (by simp)]; go_simp, by rw [hc _ _ (by simp)]; go_simp⟩)
  have PZ := hid (show MachAt w1 (w.heap.size + 2) 0 0 none 0 0 none 0 0 none 0 0 from ⟨by rw [hc _ _ (by simp)]; go_simp, by rw [hc _ _ (by simp)]; go_simp, by rw [hc _ _ (by simp)]; go_simp, by rw [hc _ _ (by simp)]; go_simp, by rw [hc _ _ (by simp)]; go_simp⟩)
  have FZ := hid (show ∀ o, w1.frozen? ⟨w.heap.size + 2, o, none⟩ = false from fun o => by rw [hf _ _ (by simp)]; go_simp)
  clear hc hf bel1 HT
  go_wp2_with fail
  refine (HE1.out w.heap.size _ PA.out (HL.out.step BEL.out).a).mono ?_
  rintro e w2 ⟨rfl, bel2⟩
  have s2 := bel2.size
  replace BEL := hid (BEL.out.trans (bel2.mono (by omega)))
  replace PA := hid (PA.out.step bel2 (by omega))
  replace PB := hid (PB.out.step bel2 (by omega))
  replace PZ := hid (PZ.out.step bel2 (by omega))
  replace FZ := hid fun o => ((old_cell bel2).2 (w.heap.size + 2) o (by omega)).trans (FZ.out o)
  clear bel2 HE1
  go_wp2_with fail
  refine (HE2.out (w.heap.size + 1) _ PB.out (HL'.out.step BEL.out).a).mono ?_
  rintro e w3 ⟨rfl, bel2⟩
  have s3 := bel2.size
  replace BEL := hid (BEL.out.trans (bel2.mono (by omega)))
  replace PA := hid (PA.out.step bel2 (by omega))
  replace PB := hid (PB.out.step bel2 (by omega))
  replace PZ := hid (PZ.out.step bel2 (by omega))
  replace FZ := hid fun o => ((old_cell bel2).2 (w.heap.size + 2) o (by omega)).trans (FZ.out o)
  clear bel2 HE2
  obtain ⟨a0, a1, a2, a3, a4⟩ := PA.out
  obtain ⟨b0, b1, b2, b3, b4⟩ := PB.out
  go_wp2_with fail
  generalize HM : (m : Int) * (m' : Int) = mm at *
  have HMM := hid HM
  clear HM
  have h0 : (w3.alloc (Obj.cells #[] 50)).heap.size = w3.heap.size + 1 := by simp
  have hbe : Below w3.heap.size w3 (w3.alloc (Obj.cells #[] 50)) := (Below.refl _ _).alloc (Nat.le_refl _) _
  have hown : (w3.alloc (Obj.cells #[] 50)).ownsRow w3.heap.size 50 4 (.slice (some ⟨w3.heap.size, 0, none⟩) (cM zs zs' m' n' 0 0) 0) (cM zs zs' m' n' 0 0) (i64s (accM zs zs' m' n' 0 0)) := by rw [cM_zero, accM_zero]; exact own_empty w3 _ _
  have po : MachAt ((w3.alloc (Obj.cells #[] 50)).alloc (Obj.cells #[.int .i64 mm, .int .i64 L, .slice (some ⟨w3.heap.size, 0, none⟩) 0 0, .slice none 0 0, .slice none 0 0] 30)) (w3.heap.size + 1) mm L (some ⟨w3.heap.size, 0, none⟩) (cM zs zs' m' n' 0 0) 0 none 0 0 none 0 0 := ⟨by go_simp, by go_simp, by rw [cM_zero]; go_simp, by go_simp, by go_simp⟩
  have fo : ∀ o, ((w3.alloc (Obj.cells #[] 50)).alloc (Obj.cells #[.int .i64 mm, .int .i64 L, .slice (some ⟨w3.heap.size, 0, none⟩) 0 0, .slice none 0 0, .slice none 0 0] 30)).frozen? ⟨w3.heap.size + 1, o, none⟩ = false := fun o => by go_simp
  have OW0 := hid (hown.alloc (Obj.cells #[.int .i64 mm, .int .i64 L, .slice (some ⟨w3.heap.size, 0, none⟩) 0 0, .slice none 0 0, .slice none 0 0] 30))
  have BE0 := hid (hbe.alloc (by simp) (Obj.cells #[.int .i64 mm, .int .i64 L, .slice (some ⟨w3.heap.size, 0, none⟩) 0 0, .slice none 0 0, .slice none 0 0] 30))
  have PO0 := hid po
  have FO0 := hid fo
  have sz0 : w3.heap.size + 2 = ((w3.alloc (Obj.cells #[] 50)).alloc (Obj.cells #[.int .i64 mm, .int .i64 L, .slice (some ⟨w3.heap.size, 0, none⟩) 0 0, .slice none 0 0, .slice none 0 0] 30)).heap.size := by simp
  clear hown hbe po fo h0 a0 a1 a2 a3 a4 b0 b1 b2 b3 b4
  generalize (w3.alloc (Obj.cells #[] 50)).alloc (Obj.cells #[.int .i64 mm, .int .i64 L, .slice (some ⟨w3.heap.size, 0, none⟩) 0 0, .slice none 0 0, .slice none 0 0] 30) = v0 at *
  have HLE := hid (HL.out.step BEL.out)
  have HLE' := hid (HL'.out.step BEL.out)
  obtain ⟨i0, hi0, hz0, hz1, hz2⟩ := info_parts arcs_info
  generalize hbo : w3.heap.size + 1 = bo at *
  have HBO := hid hbo
  have hb3 : w3.heap.size < bo := by omega
  have hbov : bo < v0.heap.size := by omega
  clear hbo sz0
  go_loopw [7] (fun i wr => ∃ a g cap : Nat, a ≤ n ∧ i = .int .i64 a ∧ Hid (MachAt wr bo mm L (some ⟨g, 0, none⟩) (cM zs zs' m' n' a 0) cap none 0 0 none 0 0) ∧ Hid (∀ o, wr.frozen? ⟨bo, o, none⟩ = false) ∧ Hid (wr.ownsRow w3.heap.size 50 4 (.slice (some ⟨g, 0, none⟩) (cM zs zs' m' n' a 0) cap) (cM zs zs' m' n' a 0) (i64s (accM zs zs' m' n' a 0))) ∧ g ≠ bo ∧ bo < wr.heap.size ∧ Hid (Below w3.heap.size w3 wr)) (fun i _ => n - (intOf i).toNat)
  case atStart => exact ⟨0, w3.heap.size, 0, Nat.zero_le _, rfl, PO0, FO0, OW0, by omega, hbov, BE0⟩
  case round =>
    clear PO0 FO0 OW0 BE0 hbov
    obtain ⟨a, g, cap, ha, rfl, PO, FO, OW, hgb, hsz, hbel⟩ := hrel
    have PA1 := hid (PA.out.step hbel.out (by omega))
    have a2 := PA1.out.c2
    by_cases hla : a < n
    · go_wp2_with fail
      go_loopw [8] (fun i wr => ∃ k g cap : Nat, k ≤ n' ∧ i = .int .i64 k ∧ Hid (MachAt wr bo mm L (some ⟨g, 0, none⟩) (cM zs zs' m' n' a k) cap none 0 0 none 0 0) ∧ Hid (∀ o, wr.frozen? ⟨bo, o, none⟩ = false) ∧ Hid (wr.ownsRow w3.heap.size 50 4 (.slice (some ⟨g, 0, none⟩) (cM zs zs' m' n' a k) cap) (cM zs zs' m' n' a k) (i64s (accM zs zs' m' n' a k))) ∧ g ≠ bo ∧ bo < wr.heap.size ∧ Hid (Below w3.heap.size w3 wr)) (fun i _ => n' - (intOf i).toNat)
      case atStart => exact ⟨0, g, cap, Nat.zero_le _, rfl, PO, FO, OW, hgb, hsz, hbel⟩
      case round =>
        clear PO FO OW hgb hsz hbel PA1 a2
        obtain ⟨k, g, cap, hk, rfl, PO, FO, OW, hgb, hsz, hbel⟩ := hrel
        have PA1 := hid (PA.out.step hbel.out (by omega))
        have PB1 := hid (PB.out.step hbel.out (by omega))
        have a2 := PA1.out.c2
        have b2 := PB1.out.c2
        by_cases hlk : k < n'
        · obtain ⟨b1, o1, rfl, hb1, p0, p1, p2, p3⟩ := arcs_at (HLE.out.step hbel.out).a HF.out.z hla
          obtain ⟨b5, o5, rfl, hb5, r0, r1, r2, r3⟩ := arcs_at (HLE'.out.step hbel.out).a HF'.out.z hlk
          obtain ⟨y0, y1, y2, y3, y4, y5⟩ := HA.out a hla
          obtain ⟨u0, u1, u2, u3, u4, u5⟩ := HA'.out k hlk
          have hcm : cM zs zs' m' n' a k ≤ 17000 := by
            have h1 := accM_le zs zs' m' n' a k
            have h2 := Nat.mul_le_mul (show a ≤ 128 by omega) (show n' ≤ 128 by omega)
            omega
          have hp0 : 0 ≤ ga zs (a * 4) * (m' : Int) := Int.mul_nonneg y0 (by omega)
          have hp1 : ga zs (a * 4) * (m' : Int) ≤ 256 := by have := Int.mul_le_mul (show ga zs (a * 4) ≤ 16 by omega) (show (m' : Int) ≤ 16 by omega) (by omega) (by omega); omega
          have hp2 : 0 ≤ ga zs (a * 4 + 1) * (m' : Int) := Int.mul_nonneg y2 (by omega)
          have hp3 : ga zs (a * 4 + 1) * (m' : Int) ≤ 256 := by have := Int.mul_le_mul (show ga zs (a * 4 + 1) ≤ 16 by omega) (show (m' : Int) ≤ 16 by omega) (by omega) (by omega); omega
          have HYES := hid fun h => acc_yes (zs := zs) (zs' := zs') (S' := m') (n' := n') (a := a) (k := k) h
          have HNO := hid fun h => acc_no (zs := zs) (zs' := zs') (S' := m') (n' := n') (a := a) (k := k) h
          have HCY := hid fun h => cM_yes (zs := zs) (zs' := zs') (S' := m') (n' := n') (a := a) (k := k) h
          have HCN := hid fun h => cM_no (zs := zs) (zs' := zs') (S' := m') (n' := n') (a := a) (k := k) h
          generalize ga zs (a * 4) = x0 at *
          generalize ga zs (a * 4 + 1) = x1 at *
          generalize ga zs (a * 4 + 2) = x2 at *
          generalize ga zs (a * 4 + 3) = x3 at *
          generalize ga zs' (k * 4) = z0 at *
          generalize ga zs' (k * 4 + 1) = z1 at *
          generalize ga zs' (k * 4 + 2) = z2 at *
          generalize ga zs' (k * 4 + 3) = z3 at *
          go_upto_region 11 with (fail)
          have be1 : Below wr.heap.size wr (wr.alloc (.cells #[.int .i64 x0, .int .i64 x1, .int .i64 x2, .int .i64 x3] 50)) := (Below.refl _ _).alloc (Nat.le_refl _) _
          have e0 : (wr.alloc (.cells #[.int .i64 x0, .int .i64 x1, .int .i64 x2, .int .i64 x3] 50)).cell? ⟨wr.heap.size, 0, none⟩ = some (.int .i64 x0) := by go_simp
          have e1 : (wr.alloc (.cells #[.int .i64 x0, .int .i64 x1, .int .i64 x2, .int .i64 x3] 50)).cell? ⟨wr.heap.size, 1, none⟩ = some (.int .i64 x1) := by go_simp
          have e2 : (wr.alloc (.cells #[.int .i64 x0, .int .i64 x1, .int .i64 x2, .int .i64 x3] 50)).cell? ⟨wr.heap.size, 2, none⟩ = some (.int .i64 x2) := by go_simp
          have e3 : (wr.alloc (.cells #[.int .i64 x0, .int .i64 x1, .int .i64 x2, .int .i64 x3] 50)).cell? ⟨wr.heap.size, 3, none⟩ = some (.int .i64 x3) := by go_simp
          have ss1 : (wr.alloc (.cells #[.int .i64 x0, .int .i64 x1, .int .i64 x2, .int .i64 x3] 50)).heap.size = wr.heap.size + 1 := by simp
          have q0 := ((old_cell be1).1 _ _ hb5).trans r0
          have q1 := ((old_cell be1).1 _ _ hb5).trans r1
          have q2 := ((old_cell be1).1 _ _ hb5).trans r2
          have q3 := ((old_cell be1).1 _ _ hb5).trans r3
          replace PB1 := hid (PB1.out.step be1 (by have := hbel.out.size; omega))
          replace PO := hid (PO.out.step be1 (by omega))
          replace FO := hid fun o => ((old_cell be1).2 bo o (by omega)).trans (FO.out o)
          have hgl := own_lt OW.out
          have hbase := base_le OW.out
          replace OW := hid (OW.out.alloc (.cells #[.int .i64 x0, .int .i64 x1, .int .i64 x2, .int .i64 x3] 50))
          replace hbel := hid (hbel.out.alloc hbel.out.size (.cells #[.int .i64 x0, .int .i64 x1, .int .i64 x2, .int .i64 x3] 50))
          have EX := hid (show ∀ v, Below (wr.alloc (.cells #[.int .i64 x0, .int .i64 x1, .int .i64 x2, .int .i64 x3] 50)).heap.size (wr.alloc (.cells #[.int .i64 x0, .int .i64 x1, .int .i64 x2, .int .i64 x3] 50)) v → v.cell? ⟨wr.heap.size, 0, none⟩ = some (.int .i64 x0) ∧ v.cell? ⟨wr.heap.size, 1, none⟩ = some (.int .i64 x1) ∧ v.cell? ⟨wr.heap.size, 2, none⟩ = some (.int .i64 x2) ∧ v.cell? ⟨wr.heap.size, 3, none⟩ = some (.int .i64 x3) from fun v hv => ⟨((old_cell hv).1 _ _ (by omega)).trans e0, ((old_cell hv).1 _ _ (by omega)).trans e1, ((old_cell hv).1 _ _ (by omega)).trans e2, ((old_cell hv).1 _ _ (by omega)).trans e3⟩)
          clear be1 p0 p1 p2 p3 r0 r1 r2 r3 a2 b2 PA1 e0 e1 e2 e3
          have b2 := PB1.out.c2
          have ltb5 : b5 < wr.heap.size + 1 := by omega
          generalize wr.alloc (.cells #[.int .i64 x0, .int .i64 x1, .int .i64 x2, .int .i64 x3] 50) = v1 at *
          generalize wr.heap.size = bx at *
          go_upto_region 12 with (fail)
          have be2 : Below v1.heap.size v1 (v1.alloc (.cells #[.int .i64 z0, .int .i64 z1, .int .i64 z2, .int .i64 z3] 50)) := (Below.refl _ _).alloc (Nat.le_refl _) _
          have f0 : (v1.alloc (.cells #[.int .i64 z0, .int .i64 z1, .int .i64 z2, .int .i64 z3] 50)).cell? ⟨v1.heap.size, 0, none⟩ = some (.int .i64 z0) := by go_simp
          have f1 : (v1.alloc (.cells #[.int .i64 z0, .int .i64 z1, .int .i64 z2, .int .i64 z3] 50)).cell? ⟨v1.heap.size, 1, none⟩ = some (.int .i64 z1) := by go_simp
          have f2 : (v1.alloc (.cells #[.int .i64 z0, .int .i64 z1, .int .i64 z2, .int .i64 z3] 50)).cell? ⟨v1.heap.size, 2, none⟩ = some (.int .i64 z2) := by go_simp
          have f3 : (v1.alloc (.cells #[.int .i64 z0, .int .i64 z1, .int .i64 z2, .int .i64 z3] 50)).cell? ⟨v1.heap.size, 3, none⟩ = some (.int .i64 z3) := by go_simp
          have ss2 : (v1.alloc (.cells #[.int .i64 z0, .int .i64 z1, .int .i64 z2, .int .i64 z3] 50)).heap.size = v1.heap.size + 1 := by simp
          obtain ⟨e0, e1, e2, e3⟩ := EX.out _ be2
          replace PB1 := hid (PB1.out.step be2 (by omega))
          replace PO := hid (PO.out.step be2 (by omega))
          replace FO := hid fun o => ((old_cell be2).2 bo o (by omega)).trans (FO.out o)
          replace OW := hid (OW.out.alloc (.cells #[.int .i64 z0, .int .i64 z1, .int .i64 z2, .int .i64 z3] 50))
          replace hbel := hid (hbel.out.alloc hbel.out.size (.cells #[.int .i64 z0, .int .i64 z1, .int .i64 z2, .int .i64 z3] 50))
          clear be2 q0 q1 q2 q3 b2 EX
          have b0 := PB1.out.c0
          have hby : v1.heap.size < (v1.alloc (.cells #[.int .i64 z0, .int .i64 z1, .int .i64 z2, .int .i64 z3] 50)).heap.size := by omega
          generalize v1.alloc (.cells #[.int .i64 z0, .int .i64 z1, .int .i64 z2, .int .i64 z3] 50) = v2 at *
          generalize v1.heap.size = bY at *
          have g2 := PO.out.c2
          have hbx : bx < v2.heap.size := by omega
          have hbov : bo < v2.heap.size := by omega
          clear ss2
          subst ss1
          by_cases hx : x2 = z2
          · have HY := hid (HYES.out hx)
            have HC := hid (HCY.out hx)
            subst hx
            clear HNO HCY HCN HYES
            have hll : i64s (accM zs zs' m' n' a k) ++ [Value.int .i64 (x0 * m' + z0), .int .i64 (x1 * m' + z1), .int .i64 x2, .int .i64 (x3 + z3)] = i64s (accM zs zs' m' n' a (k + 1)) := by rw [HY.out]; unfold i64s; rw [List.map_append]; rfl
            have HLL := hid hll
            clear hll HY
            generalize cM zs zs' m' n' a k = cn at *
            go_wp2_with (at_builtin; (refine wpList_append_own_at _ rfl _ _ 28 rfl w3.heap.size 50 i0 (Value.agg #[.int .i64 0, .int .i64 0, .int .i64 0, .int .i64 0]) 4 32 Try.underlying28 hi0 hz0 hz1 hz2 rfl (by decide) (.slice (some ⟨g, 0, none⟩) cn cap) cn (i64s (accM zs zs' m' n' a k)) rfl (OW.out.alloc _) ⟨v2.heap.size, 0, none⟩ 1 1 [.int .i64 (x0 * m' + z0), .int .i64 (x1 * m' + z1), .int .i64 x2, .int .i64 (x3 + z3)] rfl rfl (new4 _ _ _ _ _ _ _ rfl) (ints4 _ _ _ _) (by unfold maxLen; omega) (by omega) (by simp; omega) ?_); intro v' w5 hown' hgrow hnil hat; obtain ⟨g5, cap5, rfl⟩ := own_succ hown'; obtain ⟨fc, ff, hg5, hs5, hb5⟩ := app1 hbov hgb hgrow hat; have q0 := (fc 0).trans PO.out.c0; have q1 := (fc 1).trans PO.out.c1; have q2 := (fc 2).trans PO.out.c2; have q3 := (fc 3).trans PO.out.c3; have q4 := (fc 4).trans PO.out.c4; have r2 := (ff 2).trans (FO.out 2); have FF := hid (fun o => (ff o).trans (FO.out o)); have OW5 := hid hown'; have BB5 := hid hb5; clear hgrow hat hnil fc ff hown' hb5)
            have OW6 := hid (own_keep (HLL.out ▸ OW5.out) (w' := w5.setCell ⟨bo, 2, none⟩ (.slice (some ⟨g5, 0, none⟩) (cn + 1) cap5)) (Below.heap_setCell _ _ _ _ hg5))
            have BEL6 := hid ((hbel.out.trans (BB5.out _ hbase (by omega))).setCell (p := ⟨bo, 2, none⟩) (by simp; omega) (.slice (some ⟨g5, 0, none⟩) (cn + 1) cap5))
            go_roundw
            case rel => exact ⟨k + 1, g5, cap5, hlk, by go_num, by rw [HC.out]; exact ⟨by go_simp, by go_simp, by go_simp, by go_simp, by go_simp⟩, fun o => by have := FF.out o; go_simp, by rw [HC.out]; exact OW6, hg5, by simp; omega, BEL6⟩
            case measure => simp [intOf]; omega
          · have HY := hid (HNO.out hx)
            have HC := hid (HCN.out hx)
            have hx1 : (x2 == z2) = false := by simpa using hx
            clear HNO HCY HCN HYES
            go_wp2_with fail
            go_roundw
            case rel => exact ⟨k + 1, g, cap, hlk, by go_num, by rw [HC.out]; exact PO, FO, by rw [HC.out, HY.out]; exact OW, hgb, hbov, hbel⟩
            case measure => simp [intOf]; omega
        · obtain rfl : k = n' := by omega
          go_wp2_with fail
          go_roundw
          case rel => exact ⟨a + 1, g, cap, hla, by go_num, by rw [← cM_next]; exact PO, FO, by rw [← cM_next, ← accM_next]; exact OW, hgb, hsz, hbel⟩
          case measure => simp [intOf]; omega
    · have hcn : cM zs zs' m' n' n 0 ≤ 17000 := by
        have h1 := accM_le zs zs' m' n' n 0
        have h2 := Nat.mul_le_mul (show n ≤ 128 by omega) (show n' ≤ 128 by omega)
        omega
      obtain rfl : n = a := by omega
      have HP1 := hid (fun w ha hb => l02Pairs_calls B m d B' m' d' xs xs' HF.out.x HF'.out.x (by omega) (by omega) w ha hb)
      have HP2 := hid (fun w ha hb => l02Pairs_calls C m f C' m' f' ys ys' HF.out.y HF'.out.y (by omega) (by omega) w ha hb)
      have hl1 : (pairsOf xs xs').length ≤ 256 := by
        rw [pairsOf_len, HF.out.x, HF'.out.x]
        have := Nat.mul_le_mul (show m ≤ 16 by omega) (show m' ≤ 16 by omega)
        omega
      have hl2 : (pairsOf ys ys').length ≤ 256 := by
        rw [pairsOf_len, HF.out.y, HF'.out.y]
        have := Nat.mul_le_mul (show m ≤ 16 by omega) (show m' ≤ 16 by omega)
        omega
      have HFIT := hid (show Num.Fits (cM zs zs' m' n' n 0) (pairsOf xs xs').length (pairsOf ys ys').length (accM zs zs' m' n' n 0) (pairsOf xs xs') (pairsOf ys ys') from ⟨accM_four _ _ _ _ _ _, rfl, rfl, by omega, by omega, by omega⟩)
      have HV := hid (show validM mm L (cM zs zs' m' n' n 0) (accM zs zs' m' n' n 0) (pairsOf xs xs').length (pairsOf xs xs') (pairsOf ys ys').length (pairsOf ys ys') = Q by rw [← HQ.out, ← HMM.out]; rfl)
      have hgl := own_lt OW.out
      have hbase := base_le OW.out
      have PB1 := hid (PB.out.step hbel.out (by omega))
      have PZ1 := hid (PZ.out.step hbel.out (by omega))
      have FZ1 := hid fun o => ((old_cell hbel.out).2 (w.heap.size + 2) o (by omega)).trans (FZ.out o)
      have HB1 := hid (HLE.out.step hbel.out)
      have HB2 := hid (HLE'.out.step hbel.out)
      have a3 := PA1.out.c3
      have b3 := PB1.out.c3
      clear HQ HA HA' HL HL'
      generalize hps : pairsOf xs xs' = ps at *
      generalize hqs : pairsOf ys ys' = qs at *
      generalize hcc : cM zs zs' m' n' n 0 = cn at *
      generalize hac : accM zs zs' m' n' n 0 = acc at *
      have EPS := hid hps
      have EQS := hid hqs
      have ECN := hid hcc
      have EAC := hid hac
      clear hps hqs hcc hac
      go_wp2_with fail
      refine (HP1.out _ HB1.out.b HB2.out.b).mono ?_
      rintro e w4 ⟨A5, c5, rfl, hol, hrow, bel4⟩
      have t4 := bel4.size
      have pq := PO.out.step bel4 (by omega)
      obtain ⟨q0, q1, q2, q3, q4⟩ := pq
      have r3 := ((old_cell bel4).2 bo 3 (by omega)).trans (FO.out 3)
      have FO4 := hid fun o => ((old_cell bel4).2 bo o (by omega)).trans (FO.out o)
      have OW4 := hid (own_keep OW.out (bel4.block g hgl))
      have PA4 := hid (PA1.out.step bel4 (by omega))
      have PB4 := hid (PB1.out.step bel4 (by omega))
      have PZ4 := hid (PZ1.out.step bel4 (by omega))
      have FZ4 := hid fun o => ((old_cell bel4).2 (w.heap.size + 2) o (by omega)).trans (FZ1.out o)
      have HB14 := hid (HB1.out.step bel4)
      have HB24 := hid (HB2.out.step bel4)
      have OP := hid hol
      have RP := hid hrow
      have BEL4 := hid (hbel.out.trans (bel4.mono (by omega)))
      clear hol hrow bel4 OW PA1 PB1 PZ1 FZ1 HB1 HB2 hbel a3 b3 PO FO HP1 a2
      go_upto_region 15 with (fail)
      have bset : Below bo w4 (w4.setCell ⟨bo, 3, none⟩ (.slice A5 ps.length c5)) := (Below.refl bo w4).setCell (p := ⟨bo, 3, none⟩) (Nat.le_refl _) _
      have PO5 := hid (show MachAt (w4.setCell ⟨bo, 3, none⟩ (.slice A5 ps.length c5)) bo mm L (some ⟨g, 0, none⟩) cn cap A5 ps.length c5 none 0 0 from ⟨by go_simp, by go_simp, by go_simp, by go_simp, by go_simp⟩)
      have FO5 := hid (show ∀ o, (w4.setCell ⟨bo, 3, none⟩ (.slice A5 ps.length c5)).frozen? ⟨bo, o, none⟩ = false from fun o => by have := FO4.out o; go_simp)
      have PA5 := hid (PA4.out.keep fun o => bset.cell (p := ⟨w.heap.size, o, none⟩) (by simp; omega))
      have PB5 := hid (PB4.out.keep fun o => bset.cell (p := ⟨w.heap.size + 1, o, none⟩) (by simp; omega))
      have PZ5 := hid (PZ4.out.keep fun o => bset.cell (p := ⟨w.heap.size + 2, o, none⟩) (by simp; omega))
      have FZ5 := hid fun o => (bset.frozen (p := ⟨w.heap.size + 2, o, none⟩) (by simp; omega)).trans (FZ4.out o)
      have BEL5 := hid (BEL4.out.trans (bset.mono (by omega)))
      have OW5 := hid (own_keep OW4.out (w' := w4.setCell ⟨bo, 3, none⟩ (.slice A5 ps.length c5)) (Below.heap_setCell _ _ _ _ hgb))
      have OP5 := hid (fnExactBackOf.OwnL.setc OP.out (p := ⟨bo, 3, none⟩) (fun x hx => by have := RP.out x hx; simp; omega) (.slice A5 ps.length c5))
      have HB15 := hid (HLE.out.step BEL5.out)
      have HB25 := hid (HLE'.out.step BEL5.out)
      have z5 : w4.heap.size = (w4.setCell ⟨bo, 3, none⟩ (.slice A5 ps.length c5)).heap.size := by simp
      clear bset PA4 PB4 PZ4 FZ4 BEL4 OW4 OP HB14 HB24 FO4 q0 q1 q2 q3 q4 r3
      generalize w4.setCell ⟨bo, 3, none⟩ (.slice A5 ps.length c5) = w5 at *
      have z5' : w4.heap.size ≤ w5.heap.size := by omega
      clear z5
      have a4 := PA5.out.c4
      have b4 := PB5.out.c4
      go_wp2_with fail
      refine (HP2.out _ HB15.out.c HB25.out.c).mono ?_
      rintro e w6 ⟨A6, c6, rfl, hol, hrow, bel6⟩
      have t6 := bel6.size
      have pq := PO5.out.step bel6 (by omega)
      obtain ⟨q0, q1, q2, q3, q4⟩ := pq
      have r4 := ((old_cell bel6).2 bo 4 (by omega)).trans (FO5.out 4)
      have OW6 := hid (own_keep OW5.out (bel6.block g (by omega)))
      have OP6 := hid (OP5.out.step bel6)
      have PZ6 := hid (PZ5.out.step bel6 (by omega))
      have FZ6 := hid fun o => ((old_cell bel6).2 (w.heap.size + 2) o (by omega)).trans (FZ5.out o)
      have OQ := hid hol
      have RQ := hid hrow
      have hpl := fun x hx => OP5.out.row_lt (g := x) hx
      have HPL := hid hpl
      have BEL6 := hid (BEL5.out.trans (bel6.mono (by omega)))
      clear hol hrow bel6 OW5 PA5 PB5 PZ5 FZ5 HB15 HB25 BEL5 a4 b4 PO5 FO5 HP2 OP5 hpl
      go_upto_region 16 with (fail)
      have bset : Below bo w6 (w6.setCell ⟨bo, 4, none⟩ (.slice A6 qs.length c6)) := (Below.refl bo w6).setCell (p := ⟨bo, 4, none⟩) (Nat.le_refl _) _
      have PO7 := hid (show MachAt (w6.setCell ⟨bo, 4, none⟩ (.slice A6 qs.length c6)) bo mm L (some ⟨g, 0, none⟩) cn cap A5 ps.length c5 A6 qs.length c6 from ⟨by go_simp, by go_simp, by go_simp, by go_simp, by go_simp⟩)
      have PZ7 := hid (PZ6.out.keep fun o => bset.cell (p := ⟨w.heap.size + 2, o, none⟩) (by simp; omega))
      have FZ7 := hid fun o => (bset.frozen (p := ⟨w.heap.size + 2, o, none⟩) (by simp; omega)).trans (FZ6.out o)
      have BEL7 := hid (BEL6.out.trans (bset.mono (by omega)))
      have OW7 := hid (own_keep OW6.out (w' := w6.setCell ⟨bo, 4, none⟩ (.slice A6 qs.length c6)) (Below.heap_setCell _ _ _ _ hgb))
      have OP7 := hid (fnExactBackOf.OwnL.setc OP6.out (p := ⟨bo, 4, none⟩) (fun x hx => by have := RP.out x hx; simp; omega) (.slice A6 qs.length c6))
      have OQ7 := hid (fnExactBackOf.OwnL.setc OQ.out (p := ⟨bo, 4, none⟩) (fun x hx => by have := RQ.out x hx; simp; omega) (.slice A6 qs.length c6))
      have HQL := hid fun x hx => OQ.out.row_lt (g := x) hx
      have z7 : w6.heap.size = (w6.setCell ⟨bo, 4, none⟩ (.slice A6 qs.length c6)).heap.size := by simp
      clear bset PZ6 FZ6 BEL6 OW6 OP6 OQ q0 q1 q2 q3 q4 r4
      generalize w6.setCell ⟨bo, 4, none⟩ (.slice A6 qs.length c6) = w7 at *
      have z7' : w6.heap.size ≤ w7.heap.size := by omega
      clear z7
      have OA7 := hid (show OwnL w7 50 4 (some ⟨g, 0, none⟩) cn cap acc from ⟨HFIT.out.z, .inr ⟨g, rfl, own_rebase OW7.out⟩⟩)
      have OM7 := hid (show OwnM w7 (some ⟨g, 0, none⟩) cn cap A5 ps.length c5 A6 qs.length c6 acc ps qs from ⟨OA7.out, OP7.out, OQ7.out, (fun x h e => by have h1 := rowN_is h; have h2 := RP.out x e; omega), (fun x h e => by have h1 := rowN_is h; have h2 := RQ.out x e; omega), (fun x h e => by have h1 := HPL.out x h; have h2 := RQ.out x e; omega)⟩)
      have HG := hid (fun w hl => l02Give_calls mm L (some ⟨g, 0, none⟩) cn cap A5 ps.length c5 A6 qs.length c6 acc ps qs HFIT.out w hl)
      rw [HV.out] at HG
      have HWI := hid (show ∀ hi, w7.heap.size ≤ hi → Within w3.heap.size hi (rowsM cn (some ⟨g, 0, none⟩) ps.length A5 qs.length A6) from fun hi hh r hr x hx => by
        simp only [rowsM, List.mem_cons, List.not_mem_nil, or_false] at hr
        rcases hr with rfl | rfl | rfl
        · have h1 := rowN_is hx; omega
        · have h1 := RP.out x hx; have h2 := HPL.out x hx; omega
        · have h1 := RQ.out x hx; have h2 := HQL.out x hx; omega)
      obtain ⟨c0, c1, c2, c3, c4⟩ := PO7.out
      clear OW7 OA7 OP7 OQ7 HPL HQL RP RQ
      go_wp2_with fail
      refine (HG.out _ OM7.out.lists).mono ?_
      rintro e w8 ⟨rfl, bel8⟩
      have t8 := bel8.size
      have OM8 := hid (OM7.out.step bel8)
      obtain ⟨k0, k1, k2, k3, k4⟩ := PZ7.out.step bel8 (by omega)
      have fz : ∀ o, w8.frozen? ⟨w.heap.size + 2, o, none⟩ = false := fun o => ((old_cell bel8).2 (w.heap.size + 2) o (by omega)).trans (FZ7.out o)
      have j0 := fz 0
      have j1 := fz 1
      have j2 := fz 2
      have j3 := fz 3
      have j4 := fz 4
      have BEL8 := hid (BEL.out.trans ((BEL7.out.trans (bel8.mono (by omega))).mono (by omega)))
      clear fz bel8 PZ7 FZ7 OM7 HG PO7 c0 c1 c2 c3 c4
      have hw3 : w.heap.size + 3 ≤ w3.heap.size := by omega
      cases Q
      · go_wp2_with fail
        exact bodyPost_ret (v := .tuple #[.agg #[.int .i64 0, .int .i64 0, .slice none 0 0, .slice none 0 0, .slice none 0 0], .bool false]) (by simp [results, Try.results24, go_sem, k0, k1, k2, k3, k4]) rfl
          (show RetBM 0 0 0 0 0 [] [] [] false w _ _ from ⟨none, 0, none, 0, none, 0, rfl, ownM_nil _, within_nil _ _, (((((BEL8.out.setCell (by simp; omega) _).setCell (by simp; omega) _).setCell (by simp; omega) _).setCell (by simp; omega) _).setCell (by simp; omega) _)⟩)
      · go_wp2_with fail
        refine bodyPost_ret (v := .tuple #[.agg #[.int .i64 mm, .int .i64 L, .slice (some ⟨g, 0, none⟩) cn cap, .slice A5 ps.length c5, .slice A6 qs.length c6], .bool true]) (by simp [results, Try.results24, go_sem, k0, k1, k2, k3, k4]) rfl ?_
        have h1 := HMM.out
        have h2 := EPS.out
        have h3 := EQS.out
        have h4 := ECN.out
        have h5 := EAC.out
        subst h1 h2 h3 h4 h5
        exact (show RetBM _ _ _ _ _ _ _ _ true w _ _ from ⟨_, _, _, _, _, _, rfl, ownM_set (ownM_set (ownM_set (ownM_set (ownM_set OM8.out (HWI.out _ t8) (by simp; omega) _) (HWI.out _ t8) (by simp; omega) _) (HWI.out _ t8) (by simp; omega) _) (HWI.out _ t8) (by simp; omega) _) (HWI.out _ t8) (by simp; omega) _, (HWI.out _ (by simp; omega)).mono (by omega) (Nat.le_refl _), (((((BEL8.out.setCell (by simp; omega) _).setCell (by simp; omega) _).setCell (by simp; omega) _).setCell (by simp; omega) _).setCell (by simp; omega) _)⟩)
end
end Go.Proofs.Ytenfleceeeimlaa.fnExactMeetOf
