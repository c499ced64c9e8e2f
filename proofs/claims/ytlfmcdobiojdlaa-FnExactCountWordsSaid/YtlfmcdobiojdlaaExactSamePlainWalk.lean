/-
  The law on SamePlain.
-/
import Derived.Test.YtlfmcdobiojdlaaSamePl
import Derived.Test.YtlfmcdobiojdlaaExactValidPlainWalk
import Derived.Deep.RegionWith
import Derived.Deep.CutRange
namespace Go.Proofs.Ytlfmcdobiojdlaa.fnExactSamePlain
open Go.RowKit Go.Proofs.Fl Go.Proofs.Ytlfmcdobiojdlaa.Num
set_option linter.unusedVariables false
set_option linter.unusedSimpArgs false
theorem left_range {n m : Nat} {l : Int} (hl : l ≤ 1048576) : leftP n m l ≤ 1048576 := by
  unfold leftP leftI
  split
  · omega
  · split
    · omega
    · omega
theorem left_small {n m : Nat} {l : Int} (hl : l ≤ 1048576) (h : ¬ leftP n m l < 0) : n ≤ 1048576 ∧ m ≤ 1048576 := by
  unfold leftP leftI at h
  split at h
  · omega
  · split at h
    · omega
    · omega
theorem plainAt_keep {w w' : World} {b : Nat} {S L : Int} {A : Option Addr} {n c : Nat} {B : Option Addr} {m d : Nat} (h : PlainAt w b S L A n c B m d) (hk : ∀ o, w'.cell? ⟨b, o, none⟩ = w.cell? ⟨b, o, none⟩) : PlainAt w' b S L A n c B m d :=
  ⟨(hk _).trans h.c0, (hk _).trans h.c1, (hk _).trans h.c2, (hk _).trans h.c3⟩
theorem plainAt_step {w w' : World} {b : Nat} {S L : Int} {A : Option Addr} {n c : Nat} {B : Option Addr} {m d : Nat} (h : PlainAt w b S L A n c B m d) (hb : Below w.heap.size w w') (hl : b < w.heap.size) : PlainAt w' b S L A n c B m d :=
  plainAt_keep h fun o => (old_cell hb).1 b o hl
set_option maxHeartbeats 4000000 in
theorem walk (S L : Int) (A : Option Addr) (n c : Nat) (B : Option Addr) (m d : Nat) (xs : List Int) (bs : List Bool) (hx : xs.length = n) (hb : bs.length = m) (hnc : n ≤ maxLen) (hmd : m ≤ maxLen) {w : World} (ha : Rd w w.heap.size A (i64s xs)) (hbs : Rd w w.heap.size B (bools bs))
    (S' L' : Int) (A' : Option Addr) (n' c' : Nat) (B' : Option Addr) (m' d' : Nat) (ys : List Int) (cs : List Bool) (hy : ys.length = n') (hc : cs.length = m') (hnc' : n' ≤ maxLen) (hmd' : m' ≤ maxLen) (ha' : Rd w w.heap.size A' (i64s ys)) (hbs' : Rd w w.heap.size B' (bools cs)) :
    Calls Try.prog 5 #[.agg #[.int .i64 S, .int .i64 L, .slice A n c, .slice B m d], .agg #[.int .i64 S', .int .i64 L', .slice A' n' c', .slice B' m' d']] w fun e w' => e = .returned (.bool true) ∧ Below w.heap.size w w' := by
  have HX := hid hx
  have HB := hid hb
  have HY := hid hy
  have HC := hid hc
  have HA := hid ha
  have HBS := hid hbs
  have HA' := hid ha'
  have HBS' := hid hbs'
  unfold maxLen at hnc hmd hnc' hmd'
  have HS := hid (szPlain_calls S L A n c B m d 1048576 (by omega) (by omega) (by omega))
  have HS' := fun (l : Int) (h : 0 ≤ l ∧ l ≤ 1048576) => szPlain_calls S' L' A' n' c' B' m' d' l (by omega) (by omega) h
  clear hx hb ha hbs hy hc ha' hbs'
  have bb1 : (sameP S L xs bs S' L' ys cs != sameP S L xs bs S' L' ys cs) = false := bne_self_eq_false _
  by_cases hl : leftP n m 1048576 < 0
  · generalize leftP n m 1048576 = l at *
    clear HS'
    go_enter Try.func5, Try.ntmps5
    go_wp2_with fail
    refine (HS.out _).mono ?_
    rintro e w1 ⟨rfl, bel1⟩
    have BEL := hid ((((Below.refl w.heap.size w).alloc (Nat.le_refl _) _).alloc (by simp) _).trans (bel1.mono (by simp; omega)))
    clear bel1
    go_wp2
    go_ret
    exact ⟨rfl, BEL.out⟩
  have hsm := left_small (by omega) hl
  have hr := left_range (n := n) (m := m) (l := 1048576) (by omega)
  have hn := hsm.1
  have hm := hsm.2
  clear hsm
  generalize leftP n m 1048576 = l at *
  have HS2 := hid (HS' l (by omega))
  clear HS'
  by_cases hl' : leftP n' m' l < 0
  · generalize leftP n' m' l = l' at *
    go_enter Try.func5, Try.ntmps5
    go_wp2_with fail
    refine (HS.out _).mono ?_
    rintro e w1 ⟨rfl, bel1⟩
    have BEL := hid ((((Below.refl w.heap.size w).alloc (Nat.le_refl _) _).alloc (by simp) _).trans (bel1.mono (by simp; omega)))
    have hc := (old_cell bel1).1
    have a0 : w1.cell? ⟨w.heap.size + 1, 0, none⟩ = some (.int .i64 S') := by rw [hc _ _ (by simp)]; go_simp
    have a1 : w1.cell? ⟨w.heap.size + 1, 1, none⟩ = some (.int .i64 L') := by rw [hc _ _ (by simp)]; go_simp
    have a2 : w1.cell? ⟨w.heap.size + 1, 2, none⟩ = some (.slice A' n' c') := by rw [hc _ _ (by simp)]; go_simp
    have a3 : w1.cell? ⟨w.heap.size + 1, 3, none⟩ = some (.slice B' m' d') := by rw [hc _ _ (by simp)]; go_simp
    clear bel1 hc
    go_wp2_with fail
    refine (HS2.out _).mono ?_
    rintro e w2 ⟨rfl, bel2⟩
    have BEL2 := hid (BEL.out.trans (bel2.mono BEL.out.size))
    clear bel2
    go_wp2
    go_ret
    exact ⟨rfl, BEL2.out⟩
  have hsm := left_small hr hl'
  have hn' := hsm.1
  have hm' := hsm.2
  clear hsm
  generalize leftP n' m' l = l' at *
  have TP := hid fun (w : World) => toPlain_calls S L A n c B m d xs bs HX.out HB.out hn hm w
  have TP' := hid fun (w : World) => toPlain_calls S' L' A' n' c' B' m' d' ys cs HY.out HC.out hn' hm' w
  go_enter Try.func5, Try.ntmps5
  go_wp2_with fail
  refine (HS.out _).mono ?_
  rintro e w1 ⟨rfl, bel1⟩
  have hz1 : w.heap.size + 2 ≤ w1.heap.size := by have := bel1.size; simp at this; omega
  have BEL1 := hid ((((Below.refl w.heap.size w).alloc (Nat.le_refl _) _).alloc (by simp) _).trans (bel1.mono (by simp; omega)))
  have hc := (old_cell bel1).1
  have a0 : w1.cell? ⟨w.heap.size, 0, none⟩ = some (.int .i64 S) := by rw [hc _ _ (by simp; omega)]; go_simp
  have a1 : w1.cell? ⟨w.heap.size, 1, none⟩ = some (.int .i64 L) := by rw [hc _ _ (by simp; omega)]; go_simp
  have a2 : w1.cell? ⟨w.heap.size, 2, none⟩ = some (.slice A n c) := by rw [hc _ _ (by simp; omega)]; go_simp
  have a3 : w1.cell? ⟨w.heap.size, 3, none⟩ = some (.slice B m d) := by rw [hc _ _ (by simp; omega)]; go_simp
  have b0 : w1.cell? ⟨w.heap.size + 1, 0, none⟩ = some (.int .i64 S') := by rw [hc _ _ (by simp)]; go_simp
  have b1 : w1.cell? ⟨w.heap.size + 1, 1, none⟩ = some (.int .i64 L') := by rw [hc _ _ (by simp)]; go_simp
  have b2 : w1.cell? ⟨w.heap.size + 1, 2, none⟩ = some (.slice A' n' c') := by rw [hc _ _ (by simp)]; go_simp
  have b3 : w1.cell? ⟨w.heap.size + 1, 3, none⟩ = some (.slice B' m' d') := by rw [hc _ _ (by simp)]; go_simp
  have PA1 := hid (show PlainAt w1 w.heap.size S L A n c B m d from ⟨a0, a1, a2, a3⟩)
  have PB1 := hid (show PlainAt w1 (w.heap.size + 1) S' L' A' n' c' B' m' d' from ⟨b0, b1, b2, b3⟩)
  clear hc bel1 HS a0 a1 a2 a3
  go_wp2_with fail
  refine (HS2.out _).mono ?_
  rintro e w2 ⟨rfl, bel2⟩
  have hz2 : w.heap.size + 2 ≤ w2.heap.size := by have := bel2.size; omega
  have BEL2 := hid (BEL1.out.trans (bel2.mono (by omega)))
  have PA2 := hid (plainAt_step PA1.out bel2 (by omega))
  have PB2 := hid (plainAt_step PB1.out bel2 (by omega))
  clear b0 b1 b2 b3 bel2 HS2 BEL1 PA1 PB1
  obtain ⟨a0, a1, a2, a3⟩ := show PlainAt w2.drew w.heap.size S L A n c B m d from PA2.out.drewN 1
  obtain ⟨b0, b1, b2, b3⟩ := show PlainAt w2.drew (w.heap.size + 1) S' L' A' n' c' B' m' d' from PB2.out.drewN 1
  have RA := hid (show Rd w2.drew w2.drew.heap.size A (i64s xs) from (rd_step HA.out BEL2.out).drewN 1)
  have RB := hid (show Rd w2.drew w2.drew.heap.size B (bools bs) from (rd_step HBS.out BEL2.out).drewN 1)
  have RA' := hid (show Rd w2.drew w2.drew.heap.size A' (i64s ys) from (rd_step HA'.out BEL2.out).drewN 1)
  have RB' := hid (show Rd w2.drew w2.drew.heap.size B' (bools cs) from (rd_step HBS'.out BEL2.out).drewN 1)
  have PAd := hid (show PlainAt w2.drew w.heap.size S L A n c B m d from PA2.out.drewN 1)
  have PBd := hid (show PlainAt w2.drew (w.heap.size + 1) S' L' A' n' c' B' m' d' from PB2.out.drewN 1)
  go_wp2_with fail
  go_cut [6] from 20 to 24 (fun v wx => v = .bool (sameP S L xs bs S' L' ys cs) ∧ Hid (Below w2.heap.size w2 wx))
  case first =>
    go_region_with (first | (go_at_call_of 19 S; refine (TP.out _ RA.out RB.out).mono ?_; rintro e w3 ⟨g1, g2, rfl, R1, R2, bel3⟩; have x0 := ((old_cell bel3).1 _ 0 (show w.heap.size + 1 < w2.drew.heap.size from hz2)).trans b0; have x1 := ((old_cell bel3).1 _ 1 (show w.heap.size + 1 < w2.drew.heap.size from hz2)).trans b1; have x2 := ((old_cell bel3).1 _ 2 (show w.heap.size + 1 < w2.drew.heap.size from hz2)).trans b2; have x3 := ((old_cell bel3).1 _ 3 (show w.heap.size + 1 < w2.drew.heap.size from hz2)).trans b3; have RR1 := hid R1; have RR2 := hid R2; have BEL3 := hid bel3; clear R1 R2 bel3) | (go_at_call_of 19 S'; refine (TP'.out _ (rd_step RA'.out BEL3.out) (rd_step RB'.out BEL3.out)).mono ?_; rintro e w4 ⟨g3, g4, rfl, R3, R4, bel4⟩; have RR3 := hid R3; have RR4 := hid R4; have BEL4 := hid bel4; clear R3 R4 bel4) | (go_at_call 22; refine (specSame_calls S L _ n _ _ m _ xs bs HX.out HB.out hn hm S' L' _ n' _ _ m' _ ys cs HY.out HC.out hn' hm' _ (rd_step RR1.out BEL4.out) (rd_step RR2.out BEL4.out) RR3.out RR4.out).mono ?_; rintro e w5 ⟨rfl, bel5⟩; have BEL5 := hid bel5; clear bel5))
    all_goals
      go_wp2_with fail
      go_meet
      case rel => exact ⟨rfl, (Below.refl w2.heap.size w2).drew.trans ((BEL3.out.trans (BEL4.out.mono BEL3.out.size)).trans (BEL5.out.mono (Nat.le_trans BEL3.out.size BEL4.out.size)))⟩
  case rest =>
    obtain ⟨rfl, bel5⟩ := hcut
    generalize wc = w5 at *
    have BELA := hid (BEL2.out.trans (bel5.out.mono (by omega)))
    have PA5 := hid (plainAt_step PA2.out bel5.out (by omega))
    have PB5 := hid (plainAt_step PB2.out bel5.out (by omega))
    have hz5 : w.heap.size + 2 ≤ w5.heap.size := by have := bel5.out.size; omega
    clear bel5 BEL2 PA2 PB2 a0 a1 a2 a3 b0 b1 b2 b3 RA RB RA' RB' PAd PBd
    obtain ⟨a0, a1, a2, a3⟩ := PA5.out
    go_wp2_with fail
    refine (TP.out _ (rd_step HA.out BELA.out) (rd_step HBS.out BELA.out)).mono ?_
    rintro e w6 ⟨g5, g6, rfl, R5, R6, bel6⟩
    have PA6 := hid (plainAt_step PA5.out bel6 (by omega))
    have PB6 := hid (plainAt_step PB5.out bel6 (by omega))
    have hz6 : w.heap.size + 2 ≤ w6.heap.size := by have := bel6.size; omega
    have BEL6 := hid (BELA.out.trans (bel6.mono BELA.out.size))
    have RR5 := hid R5
    have RR6 := hid R6
    clear a0 a1 a2 a3 bel6 BELA PA5 PB5 R5 R6
    obtain ⟨b0, b1, b2, b3⟩ := PB6.out
    have hz6' : w.heap.size + 1 < w6.heap.size := by omega
    have hz6n : ¬ w.heap.size + 1 = w6.heap.size := by omega
    go_wp2_with fail
    refine (TP'.out _ (rd_alloc (rd_step HA'.out BEL6.out) _) (rd_alloc (rd_step HBS'.out BEL6.out) _)).mono ?_
    rintro e w7 ⟨g7, g8, rfl, R7, R8, bel7⟩
    have hz7 : w6.heap.size + 1 ≤ w7.heap.size := by have := bel7.size; simp at this; omega
    have BEL7 := hid ((BEL6.out.alloc (by omega) _).trans (bel7.mono (by simp; omega)))
    have hc := (old_cell bel7).1
    have PX7 := hid (show PlainAt w7 w6.heap.size S L (some ⟨g5, 0, none⟩) n n (some ⟨g6, 0, none⟩) m m from ⟨by rw [hc _ _ (by simp)]; go_simp, by rw [hc _ _ (by simp)]; go_simp, by rw [hc _ _ (by simp)]; go_simp, by rw [hc _ _ (by simp)]; go_simp⟩)
    have PA7 := hid (show PlainAt w7 w.heap.size S L A n c B m d from plainAt_step (plainAt_step PA6.out ((Below.refl _ _).alloc (Nat.le_refl _) _) (by omega)) bel7 (by simp; omega))
    have PB7 := hid (show PlainAt w7 (w.heap.size + 1) S' L' A' n' c' B' m' d' from plainAt_step (plainAt_step PB6.out ((Below.refl _ _).alloc (Nat.le_refl _) _) (by omega)) bel7 (by simp; omega))
    have RX7 := hid (rd_step (rd_alloc RR5.out _) bel7)
    have RY7 := hid (rd_step (rd_alloc RR6.out _) bel7)
    have RR7 := hid R7
    have RR8 := hid R8
    clear b0 b1 b2 b3 bel7 BEL6 PA6 PB6 RR5 RR6 R7 R8 hc
    obtain ⟨x0, x1, x2, x3⟩ := PX7.out
    have hz7' : w6.heap.size < w7.heap.size := by omega
    have hz7n : ¬ w6.heap.size = w7.heap.size := by omega
    go_wp2_with fail
    refine (implSame_calls S L _ n _ _ m _ xs bs HX.out HB.out hn hm S' L' _ n' _ _ m' _ ys cs HY.out HC.out hn' hm' _ (rd_alloc RX7.out _) (rd_alloc RY7.out _) (rd_alloc RR7.out _) (rd_alloc RR8.out _)).mono ?_
    rintro e w8 ⟨rfl, bel8⟩
    have hz8 : w7.heap.size + 1 ≤ w8.heap.size := by have := bel8.size; simp at this; omega
    have BEL8 := hid ((BEL7.out.alloc (by omega) _).trans (bel8.mono (by simp; omega)))
    have hc := (old_cell bel8).1
    have PY8 := hid (show PlainAt w8 w7.heap.size S' L' (some ⟨g7, 0, none⟩) n' n' (some ⟨g8, 0, none⟩) m' m' from ⟨by rw [hc _ _ (by simp)]; go_simp, by rw [hc _ _ (by simp)]; go_simp, by rw [hc _ _ (by simp)]; go_simp, by rw [hc _ _ (by simp)]; go_simp⟩)
    have PX8 := hid (show PlainAt w8 w6.heap.size S L (some ⟨g5, 0, none⟩) n n (some ⟨g6, 0, none⟩) m m from plainAt_step (plainAt_step PX7.out ((Below.refl _ _).alloc (Nat.le_refl _) _) (by omega)) bel8 (by simp; omega))
    have PA8 := hid (show PlainAt w8 w.heap.size S L A n c B m d from plainAt_step (plainAt_step PA7.out ((Below.refl _ _).alloc (Nat.le_refl _) _) (by omega)) bel8 (by simp; omega))
    have PB8 := hid (show PlainAt w8 (w.heap.size + 1) S' L' A' n' c' B' m' d' from plainAt_step (plainAt_step PB7.out ((Below.refl _ _).alloc (Nat.le_refl _) _) (by omega)) bel8 (by simp; omega))
    have RX8 := hid (rd_step (rd_alloc RX7.out _) bel8)
    have RY8 := hid (rd_step (rd_alloc RY7.out _) bel8)
    have RU8 := hid (rd_step (rd_alloc RR7.out _) bel8)
    have RV8 := hid (rd_step (rd_alloc RR8.out _) bel8)
    clear x0 x1 x2 x3 bel8 hc BEL7 RX7 RY7 RR7 RR8 PX7 PA7 PB7
    go_wp2_with fail
    go_cut [39] from 35 to 39 (fun v wx => v = .bool false ∧ Hid (Below w8.heap.size w8 wx))
    case first =>
      have RXd := hid (show Rd w8.drew w8.drew.heap.size (some ⟨g5, 0, none⟩) (i64s xs) from RX8.out.drewN 1)
      have RYd := hid (show Rd w8.drew w8.drew.heap.size (some ⟨g6, 0, none⟩) (bools bs) from RY8.out.drewN 1)
      have RA8 := hid (show Rd w8.drew w8.drew.heap.size A (i64s xs) from (rd_step HA.out BEL8.out).drewN 1)
      have RB8 := hid (show Rd w8.drew w8.drew.heap.size B (bools bs) from (rd_step HBS.out BEL8.out).drewN 1)
      obtain ⟨a0, a1, a2, a3⟩ := show PlainAt w8.drew w.heap.size S L A n c B m d from PA8.out.drewN 1
      obtain ⟨x0, x1, x2, x3⟩ := show PlainAt w8.drew w6.heap.size S L (some ⟨g5, 0, none⟩) n n (some ⟨g6, 0, none⟩) m m from PX8.out.drewN 1
      have hzx : w6.heap.size < w8.drew.heap.size := by have : w8.drew.heap.size = w8.heap.size := rfl; omega
      go_region_with (first | (go_at_call 19; refine (TP.out _ RA8.out RB8.out).mono ?_; rintro e w9 ⟨g9, g10, rfl, R9, R10, bel9⟩; have y0 := ((old_cell bel9).1 _ 0 hzx).trans x0; have y1 := ((old_cell bel9).1 _ 1 hzx).trans x1; have y2 := ((old_cell bel9).1 _ 2 hzx).trans x2; have y3 := ((old_cell bel9).1 _ 3 hzx).trans x3; have RR9 := hid R9; have RR10 := hid R10; have BEL9 := hid bel9; clear R9 R10 bel9) | (go_at_call 21; refine (eqPlain_yes S L _ n _ _ m _ _ _ _ _ xs bs HX.out HB.out hn hm _ (rd_step RXd.out BEL9.out) (rd_step RYd.out BEL9.out) RR9.out RR10.out).mono ?_; rintro e w10 ⟨rfl, bel10⟩; have BEL10 := hid bel10; clear bel10))
      all_goals
        go_wp2_with fail
        go_meet
        case rel => exact ⟨rfl, (Below.refl w8.heap.size w8).drew.trans (BEL9.out.trans (BEL10.out.mono BEL9.out.size))⟩
    case rest =>
      obtain ⟨rfl, bel10⟩ := hcut
      generalize wc = w10 at *
      have PY10 := hid (plainAt_step PY8.out bel10.out (by omega))
      have PB10 := hid (plainAt_step PB8.out bel10.out (by omega))
      have hz10 : w7.heap.size + 1 ≤ w10.heap.size := by have := bel10.out.size; omega
      have BEL10 := hid (BEL8.out.trans (bel10.out.mono (by omega)))
      have RU10 := hid (rd_step RU8.out bel10.out)
      have RV10 := hid (rd_step RV8.out bel10.out)
      clear bel10 RX8 RY8 RU8 RV8 PX8 PA8 PB8 PY8 BEL8
      go_wp2_with fail
      go_cut [44] from 40 to 44 (fun v wx => v = .bool false ∧ Hid (Below w10.heap.size w10 wx))
      case first =>
        have RUd := hid (show Rd w10.drew w10.drew.heap.size (some ⟨g7, 0, none⟩) (i64s ys) from RU10.out.drewN 1)
        have RVd := hid (show Rd w10.drew w10.drew.heap.size (some ⟨g8, 0, none⟩) (bools cs) from RV10.out.drewN 1)
        have RA' := hid (show Rd w10.drew w10.drew.heap.size A' (i64s ys) from (rd_step HA'.out BEL10.out).drewN 1)
        have RB' := hid (show Rd w10.drew w10.drew.heap.size B' (bools cs) from (rd_step HBS'.out BEL10.out).drewN 1)
        obtain ⟨b0, b1, b2, b3⟩ := show PlainAt w10.drew (w.heap.size + 1) S' L' A' n' c' B' m' d' from PB10.out.drewN 1
        obtain ⟨z0, z1, z2, z3⟩ := show PlainAt w10.drew w7.heap.size S' L' (some ⟨g7, 0, none⟩) n' n' (some ⟨g8, 0, none⟩) m' m' from PY10.out.drewN 1
        have hzy : w7.heap.size < w10.drew.heap.size := hz10
        go_region_with (first | (go_at_call 19; refine (TP'.out _ RA'.out RB'.out).mono ?_; rintro e w11 ⟨g11, g12, rfl, R11, R12, bel11⟩; have y0 := ((old_cell bel11).1 _ 0 hzy).trans z0; have y1 := ((old_cell bel11).1 _ 1 hzy).trans z1; have y2 := ((old_cell bel11).1 _ 2 hzy).trans z2; have y3 := ((old_cell bel11).1 _ 3 hzy).trans z3; have RR11 := hid R11; have RR12 := hid R12; have BEL11 := hid bel11; clear R11 R12 bel11) | (go_at_call 21; refine (eqPlain_yes S' L' _ n' _ _ m' _ _ _ _ _ ys cs HY.out HC.out hn' hm' _ (rd_step RUd.out BEL11.out) (rd_step RVd.out BEL11.out) RR11.out RR12.out).mono ?_; rintro e w12 ⟨rfl, bel12⟩; have BEL12 := hid bel12; clear bel12))
        all_goals
          go_wp2_with fail
          go_meet
          case rel => exact ⟨rfl, (Below.refl w10.heap.size w10).drew.trans (BEL11.out.trans (BEL12.out.mono BEL11.out.size))⟩
      case rest =>
        obtain ⟨rfl, bel12⟩ := hcut
        generalize wc = w12 at *
        have BEL12 := hid (BEL10.out.trans (bel12.out.mono (by omega)))
        go_wp2_with fail
        go_ret
        exact ⟨rfl, BEL12.out⟩
end Go.Proofs.Ytlfmcdobiojdlaa.fnExactSamePlain
