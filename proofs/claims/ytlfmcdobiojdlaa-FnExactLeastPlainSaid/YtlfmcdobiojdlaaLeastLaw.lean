/-
  The law on LeastPlain, its walk over the contracts of both texts.
-/
import Derived.Test.YtlfmcdobiojdlaaNewP
import Derived.Deep.RegionWith
import Derived.Deep.CutRange
namespace Go.Proofs.Ytlfmcdobiojdlaa.fnExactLeastPlain
open Go.RowKit Go.Proofs.Fl Go.Proofs.Ytlfmcdobiojdlaa.Num
set_option linter.unusedVariables false
set_option linter.unusedSimpArgs false
/-- returned a plain machine with lists of its own, and whether there is one -/
def RetBP (S L : Int) (n m : Nat) (xs : List Int) (bs : List Bool) (ok : Bool) (w : World) (e : Ending) (w' : World) : Prop :=
  ∃ A c B d, e = .returned (.tuple #[.agg #[.int .i64 S, .int .i64 L, .slice A n c, .slice B m d], .bool ok]) ∧ OwnP w' A n c B m d xs bs ∧ Within w.heap.size w'.heap.size (rowsP n A m B) ∧ Below w.heap.size w w'
set_option maxHeartbeats 6400000 in
theorem walk (S L : Int) (A : Option Addr) (n c : Nat) (B : Option Addr) (m d : Nat) (xs : List Int) (bs : List Bool) (hF : FitsP n m xs bs) (hnl : ¬ leftP n m 1048576 < 0) {w : World} (hl : ListsP w A B xs bs)
    (S1 L1 : Int) (n1 m1 : Nat) (xs1 : List Int) (bs1 : List Bool) (ok : Bool) (hF1 : FitsP n1 m1 xs1 bs1)
    (SP : ∀ (A : Option Addr) (c : Nat) (B : Option Addr) (d : Nat) (w : World), ListsP w A B xs bs → Calls Try.prog 40 #[.agg #[.int .i64 S, .int .i64 L, .slice A n c, .slice B m d]] w (RetBP S1 L1 n1 m1 xs1 bs1 ok w))
    (IM : ∀ (A : Option Addr) (c : Nat) (B : Option Addr) (d : Nat) (w : World), ListsP w A B xs bs → Calls Try.prog 41 #[.agg #[.int .i64 S, .int .i64 L, .slice A n c, .slice B m d]] w (RetBP S1 L1 n1 m1 xs1 bs1 ok w)) :
    Calls Try.prog 12 #[.agg #[.int .i64 S, .int .i64 L, .slice A n c, .slice B m d]] w fun e w' => e = .returned (.bool true) ∧ Below w.heap.size w w' := by
  have HL := hid hl
  have HF := hid hF
  have HF1 := hid hF1
  have SPEC := hid SP
  have IMPL := hid IM
  have hb1 := hF.n
  have hb2 := hF.m
  have hc1 := hF1.n
  have hc2 := hF1.m
  have HS := hid (szPlain_calls S L A n c B m d 1048576 (by omega) (by omega) (by omega))
  have TP := hid (fun (w : World) (hl : ListsP w A B xs bs) => toP S L A n c B m d xs bs HF.out.x HF.out.b HF.out.n HF.out.m w hl.a hl.b)
  have EQX := hid fun (A' : Option Addr) (c' : Nat) (B' : Option Addr) (d' : Nat) (A : Option Addr) (c : Nat) (B : Option Addr) (d : Nat) => eqP S L A n c B m d A' c' B' d' xs bs hF
  have EQG := hid fun (A' : Option Addr) (c' : Nat) (B' : Option Addr) (d' : Nat) (A : Option Addr) (c : Nat) (B : Option Addr) (d : Nat) => eqP S1 L1 A n1 c B m1 d A' c' B' d' xs1 bs1 hF1
  have okk : (ok != ok) = false := bne_self_eq_false _
  clear hl hF hF1 SP IM
  generalize leftP n m 1048576 = l at *
  go_enter Try.func12, Try.ntmps12
  go_wp2_with fail
  refine (HS.out _).mono ?_
  rintro e w1 ⟨rfl, bel1⟩
  have hc := (old_cell bel1).1
  have s1 : w.heap.size < w1.heap.size := by have := bel1.size; simp at this; omega
  have BEL := hid (((Below.refl w.heap.size w).alloc (Nat.le_refl _) _).trans (bel1.mono (by simp)))
  have PA := hid (show PlainAt w1 w.heap.size S L A n c B m d from ⟨by rw [hc _ _ (by simp)]; go_simp, by rw [hc _ _ (by simp)]; go_simp, by rw [hc _ _ (by simp)]; go_simp, by rw [hc _ _ (by simp)]; go_simp⟩)
  clear hc bel1 HS
  obtain ⟨PA0, PA1, PA2, PA3⟩ := PA.out
  go_wp2_with fail
  refine (TP.out _ (HL.out.step BEL.out)).mono ?_
  rintro e w2 ⟨g1, g2, rfl, oi, ob, lo, l12, bel⟩
  have t2 := bel.size
  clear PA0 PA1 PA2 PA3
  replace PA := hid (PA.out.step bel (by omega))
  replace BEL := hid (BEL.out.trans (bel.mono (by omega)))
  have NN := hid (newP_own oi ob l12).lists
  clear oi ob lo l12 bel
  go_wp2_with fail
  refine (SPEC.out _ _ _ _ _ NN.out).mono ?_
  rintro e w3 ⟨A1, c1, B1, d1, rfl, OW, RW, bel⟩
  have t3 := bel.size
  replace OW := hid OW
  replace RW := hid (RW.mono (show w.heap.size + 1 ≤ w2.heap.size by omega) (Nat.le_refl _))
  replace PA := hid (PA.out.step bel (by omega))
  replace BEL := hid (BEL.out.trans (bel.mono (by omega)))
  clear bel NN
  obtain ⟨PA0, PA1, PA2, PA3⟩ := PA.out
  have ne3 : ¬ w.heap.size = w3.heap.size := by omega
  have lt_ne3 : w.heap.size < w3.heap.size := by omega
  go_wp2_with fail
  clear PA0 PA1 PA2 PA3
  have PW := hid (show PlainAt (w3.alloc (.cells #[.int .i64 S1, .int .i64 L1, .slice A1 n1 c1, .slice B1 m1 d1] 31)) w3.heap.size S1 L1 A1 n1 c1 B1 m1 d1 from ⟨by go_simp, by go_simp, by go_simp, by go_simp⟩)
  replace PA := hid (show PlainAt (w3.alloc (.cells #[.int .i64 S1, .int .i64 L1, .slice A1 n1 c1, .slice B1 m1 d1] 31)) _ _ _ _ _ _ _ _ _ from PA.out.step ((Below.refl _ _).alloc (Nat.le_refl _) _) (by omega))
  replace OW := hid (OW.out.step ((Below.refl w3.heap.size w3).alloc (Nat.le_refl _) (.cells #[.int .i64 S1, .int .i64 L1, .slice A1 n1 c1, .slice B1 m1 d1] 31)))
  replace BEL := hid (BEL.out.alloc (by omega) (.cells #[.int .i64 S1, .int .i64 L1, .slice A1 n1 c1, .slice B1 m1 d1] 31))
  have sv0 : (w3.alloc (.cells #[.int .i64 S1, .int .i64 L1, .slice A1 n1 c1, .slice B1 m1 d1] 31)).heap.size = w3.heap.size + 1 := by simp
  generalize w3.alloc (.cells #[.int .i64 S1, .int .i64 L1, .slice A1 n1 c1, .slice B1 m1 d1] 31) = v0 at *
  generalize hgenbw : w3.heap.size = bw at *
  refine (TP.out _ (HL.out.step BEL.out)).mono ?_
  rintro e w4 ⟨h1, h2, rfl, oi, ob, lo, l12, bel⟩
  have t4 := bel.size
  have RX := hid (newP_rows oi ob l12 lo)
  replace PA := hid (PA.out.step bel (by omega))
  replace OW := hid (OW.out.step bel)
  replace PW := hid (PW.out.step bel (by omega))
  replace BEL := hid (BEL.out.trans (bel.mono (by omega)))
  have OX := hid (newP_own oi ob l12)
  clear oi ob lo l12 bel
  have ne4 : ¬ bw = w4.heap.size := by omega
  have lt_ne4 : bw < w4.heap.size := by omega
  go_wp2_with fail
  have PX := hid (show PlainAt (w4.alloc (.cells #[.int .i64 S, .int .i64 L, .slice (some ⟨h1, 0, none⟩) n n, .slice (some ⟨h2, 0, none⟩) m m] 31)) w4.heap.size S L (some ⟨h1, 0, none⟩) n n (some ⟨h2, 0, none⟩) m m from ⟨by go_simp, by go_simp, by go_simp, by go_simp⟩)
  replace PA := hid (show PlainAt (w4.alloc (.cells #[.int .i64 S, .int .i64 L, .slice (some ⟨h1, 0, none⟩) n n, .slice (some ⟨h2, 0, none⟩) m m] 31)) _ _ _ _ _ _ _ _ _ from PA.out.step ((Below.refl _ _).alloc (Nat.le_refl _) _) (by omega))
  replace OW := hid (OW.out.step ((Below.refl w4.heap.size w4).alloc (Nat.le_refl _) (.cells #[.int .i64 S, .int .i64 L, .slice (some ⟨h1, 0, none⟩) n n, .slice (some ⟨h2, 0, none⟩) m m] 31)))
  replace PW := hid (show PlainAt (w4.alloc (.cells #[.int .i64 S, .int .i64 L, .slice (some ⟨h1, 0, none⟩) n n, .slice (some ⟨h2, 0, none⟩) m m] 31)) _ _ _ _ _ _ _ _ _ from PW.out.step ((Below.refl _ _).alloc (Nat.le_refl _) _) (by omega))
  replace OX := hid (OX.out.step ((Below.refl w4.heap.size w4).alloc (Nat.le_refl _) (.cells #[.int .i64 S, .int .i64 L, .slice (some ⟨h1, 0, none⟩) n n, .slice (some ⟨h2, 0, none⟩) m m] 31)))
  replace BEL := hid (BEL.out.alloc (by omega) (.cells #[.int .i64 S, .int .i64 L, .slice (some ⟨h1, 0, none⟩) n n, .slice (some ⟨h2, 0, none⟩) m m] 31))
  have sv1 : (w4.alloc (.cells #[.int .i64 S, .int .i64 L, .slice (some ⟨h1, 0, none⟩) n n, .slice (some ⟨h2, 0, none⟩) m m] 31)).heap.size = w4.heap.size + 1 := by simp
  generalize w4.alloc (.cells #[.int .i64 S, .int .i64 L, .slice (some ⟨h1, 0, none⟩) n n, .slice (some ⟨h2, 0, none⟩) m m] 31) = v1 at *
  generalize hgenbx : w4.heap.size = bx at *
  refine (IMPL.out _ _ _ _ _ OX.out.lists).mono ?_
  rintro e w5 ⟨A2, c2, B2, d2, rfl, OG, RG, bel⟩
  have t5 := bel.size
  replace OG := hid OG
  replace RG := hid RG
  replace PA := hid (PA.out.step bel (by omega))
  replace OW := hid (OW.out.step bel)
  replace PW := hid (PW.out.step bel (by omega))
  replace OX := hid (OX.out.step bel)
  replace PX := hid (PX.out.step bel (by omega))
  replace BEL := hid (BEL.out.trans (bel.mono (by omega)))
  clear bel
  obtain ⟨PW0, PW1, PW2, PW3⟩ := PW.out
  have ne5 : ¬ bw = w5.heap.size := by omega
  have lt_ne5 : bw < w5.heap.size := by omega
  have ne5x : ¬ bx = w5.heap.size := by omega
  have lt_ne5x : bx < w5.heap.size := by omega
  go_wp2_with fail
  clear PW0 PW1 PW2 PW3
  have PG := hid (show PlainAt (w5.alloc (.cells #[.int .i64 S1, .int .i64 L1, .slice A2 n1 c2, .slice B2 m1 d2] 31)) w5.heap.size S1 L1 A2 n1 c2 B2 m1 d2 from ⟨by go_simp, by go_simp, by go_simp, by go_simp⟩)
  replace PA := hid (show PlainAt (w5.alloc (.cells #[.int .i64 S1, .int .i64 L1, .slice A2 n1 c2, .slice B2 m1 d2] 31)) _ _ _ _ _ _ _ _ _ from PA.out.step ((Below.refl _ _).alloc (Nat.le_refl _) _) (by omega))
  replace OW := hid (OW.out.step ((Below.refl w5.heap.size w5).alloc (Nat.le_refl _) (.cells #[.int .i64 S1, .int .i64 L1, .slice A2 n1 c2, .slice B2 m1 d2] 31)))
  replace PW := hid (show PlainAt (w5.alloc (.cells #[.int .i64 S1, .int .i64 L1, .slice A2 n1 c2, .slice B2 m1 d2] 31)) _ _ _ _ _ _ _ _ _ from PW.out.step ((Below.refl _ _).alloc (Nat.le_refl _) _) (by omega))
  replace OX := hid (OX.out.step ((Below.refl w5.heap.size w5).alloc (Nat.le_refl _) (.cells #[.int .i64 S1, .int .i64 L1, .slice A2 n1 c2, .slice B2 m1 d2] 31)))
  replace PX := hid (show PlainAt (w5.alloc (.cells #[.int .i64 S1, .int .i64 L1, .slice A2 n1 c2, .slice B2 m1 d2] 31)) _ _ _ _ _ _ _ _ _ from PX.out.step ((Below.refl _ _).alloc (Nat.le_refl _) _) (by omega))
  replace OG := hid (OG.out.step ((Below.refl w5.heap.size w5).alloc (Nat.le_refl _) (.cells #[.int .i64 S1, .int .i64 L1, .slice A2 n1 c2, .slice B2 m1 d2] 31)))
  replace BEL := hid (BEL.out.alloc (by omega) (.cells #[.int .i64 S1, .int .i64 L1, .slice A2 n1 c2, .slice B2 m1 d2] 31))
  have sv2 : (w5.alloc (.cells #[.int .i64 S1, .int .i64 L1, .slice A2 n1 c2, .slice B2 m1 d2] 31)).heap.size = w5.heap.size + 1 := by simp
  generalize w5.alloc (.cells #[.int .i64 S1, .int .i64 L1, .slice A2 n1 c2, .slice B2 m1 d2] 31) = v2 at *
  generalize hgenbg : w5.heap.size = bg at *
  refine (EQG.out _ _ _ _ _ _ _ _ _ OG.out.lists OW.out.lists).mono ?_
  rintro e w6 ⟨rfl, bel⟩
  have t6 := bel.size
  replace PA := hid (PA.out.step bel (by omega))
  replace OW := hid (OW.out.step bel)
  replace PW := hid (PW.out.step bel (by omega))
  replace OX := hid (OX.out.step bel)
  replace PX := hid (PX.out.step bel (by omega))
  replace OG := hid (OG.out.step bel)
  replace PG := hid (PG.out.step bel (by omega))
  replace BEL := hid (BEL.out.trans (bel.mono (by omega)))
  clear bel
  go_wp2_with fail
  go_cut [45] from 41 to 45 (fun v wx => v = .bool false ∧ Hid (Below w6.heap.size w6 wx))
  case first =>
    have RXd := hid OX.out.lists.drew
    have RA := hid (HL.out.step BEL.out).drew
    obtain ⟨a0, a1, a2, a3⟩ := PA.out.drew
    obtain ⟨x0, x1, x2, x3⟩ := PX.out.drew
    have hzx : bx < w6.drew.heap.size := (show bx < w6.heap.size by omega)
    go_region_with (first | (go_at_call 19; refine (TP.out _ RA.out).mono ?_; rintro e w9 ⟨k1, k2, rfl, oi9, ob9, lo9, l9, bel9⟩; have y0 := ((old_cell bel9).1 _ 0 hzx).trans x0; have y1 := ((old_cell bel9).1 _ 1 hzx).trans x1; have y2 := ((old_cell bel9).1 _ 2 hzx).trans x2; have y3 := ((old_cell bel9).1 _ 3 hzx).trans x3; have NN9 := hid (newP_own oi9 ob9 l9).lists; have BEL9 := hid bel9; clear oi9 ob9 lo9 l9 bel9) | (go_at_call 21; refine (EQX.out _ _ _ _ _ _ _ _ _ (RXd.out.step BEL9.out) NN9.out).mono ?_; rintro e w10 ⟨rfl, bel10⟩; have BEL10 := hid bel10; clear bel10))
    all_goals
      go_wp2_with fail
      go_meet
      case rel => exact ⟨rfl, (Below.refl w6.heap.size w6).drew.trans (BEL9.out.trans (BEL10.out.mono BEL9.out.size))⟩
  case rest =>
    obtain ⟨rfl, bel⟩ := hcut
    replace bel := bel.out
    generalize wc = w7 at *
    have t7 := bel.size
    replace PA := hid (PA.out.step bel (by omega))
    replace OW := hid (OW.out.step bel)
    replace PW := hid (PW.out.step bel (by omega))
    replace OX := hid (OX.out.step bel)
    replace PX := hid (PX.out.step bel (by omega))
    replace OG := hid (OG.out.step bel)
    replace PG := hid (PG.out.step bel (by omega))
    replace BEL := hid (BEL.out.trans (bel.mono (by omega)))
    clear bel
    obtain ⟨PX0, PX1, PX2, PX3⟩ := PX.out
    go_wp2_with fail
    have MX := markPlain_calls S L (some ⟨h1, 0, none⟩) n n (some ⟨h2, 0, none⟩) m m xs bs 1 hb1 hb2 (by omega) w7 OX.out
    refine MX.mono ?_
    rintro e w8 ⟨rfl, _, kept⟩
    have t8 := kept.size
    clear PX0 PX1 PX2 PX3
    clear MX
    replace PA := hid (PA.out.keep fun o => kept.cell (by omega) (fun r hr e => by have := RX.out r hr _ e.symm; omega) o)
    replace PW := hid (PW.out.keep fun o => kept.cell (by omega) (fun r hr e => by have := RX.out r hr _ e.symm; omega) o)
    replace PG := hid (PG.out.keep fun o => kept.cell (by omega) (fun r hr e => by have := RX.out r hr _ e.symm; omega) o)
    replace OW := hid (OW.out.apart kept RW.out RX.out (.inl (by omega)))
    replace OG := hid (OG.out.apart kept RG.out RX.out (.inr (by omega)))
    replace BEL := hid (BEL.out.trans (kept.below (by omega) fun r hr g hg => by have := RX.out r hr g hg; omega))
    clear kept OX PX RX
    have nk : ¬ ((1 + n + m : Nat) : Int) < 0 := by omega
    generalize 1 + n + m = kx at *
    obtain ⟨PG0, PG1, PG2, PG3⟩ := PG.out
    obtain ⟨PW0, PW1, PW2, PW3⟩ := PW.out
    go_wp2_with fail
    clear PG0 PG1 PG2 PG3 PW0 PW1 PW2 PW3
    refine (EQG.out _ _ _ _ _ _ _ _ _ OG.out.lists OW.out.lists).mono ?_
    rintro e w9 ⟨rfl, bel⟩
    have t9 := bel.size
    replace PA := hid (PA.out.step bel (by omega))
    replace OW := hid (OW.out.step bel)
    replace PW := hid (PW.out.step bel (by omega))
    replace OG := hid (OG.out.step bel)
    replace PG := hid (PG.out.step bel (by omega))
    replace BEL := hid (BEL.out.trans (bel.mono (by omega)))
    clear bel
    obtain ⟨PG0, PG1, PG2, PG3⟩ := PG.out
    go_wp2_with fail
    clear PG0 PG1 PG2 PG3
    have MG := markPlain_calls S1 L1 A2 n1 c2 B2 m1 d2 xs1 bs1 1 hc1 hc2 (by omega) w9 OG.out
    refine MG.mono ?_
    rintro e w10 ⟨rfl, OG2, kept⟩
    have t10 := kept.size
    clear MG
    replace PA := hid (PA.out.keep fun o => kept.cell (by omega) (fun r hr e => by have := RG.out r hr _ e.symm; omega) o)
    replace PW := hid (PW.out.keep fun o => kept.cell (by omega) (fun r hr e => by have := RG.out r hr _ e.symm; omega) o)
    replace PG := hid (PG.out.keep fun o => kept.cell (by omega) (fun r hr e => by have := RG.out r hr _ e.symm; omega) o)
    replace OW := hid (OW.out.apart kept RW.out RG.out (.inl (by omega)))
    replace OG := hid OG2
    replace BEL := hid (BEL.out.trans (kept.below (by omega) fun r hr g hg => by have := RG.out r hr g hg; omega))
    clear kept OG2
    have nm : ¬ ((1 + n1 + m1 : Nat) : Int) < 0 := by omega
    have HELD := hid fun (w : World) (h : ListsP w A2 B2 (seqI 1 n1) (seqB (1 + n1) m1)) => heldPlain_calls S1 L1 A2 n1 c2 B2 m1 d2 1 hc1 hc2 (by omega) w h
    generalize seqI 1 n1 = ms1 at *
    generalize seqB (1 + n1) m1 = ms2 at *
    generalize 1 + n1 + m1 = kg at *
    have kgg : ((kg : Int) != (kg : Int)) = false := bne_self_eq_false _
    obtain ⟨PG0, PG1, PG2, PG3⟩ := PG.out
    go_wp2_with fail
    clear PG0 PG1 PG2 PG3
    refine (HELD.out _ OG.out.lists).mono ?_
    rintro e w11 ⟨rfl, bel⟩
    have t11 := bel.size
    replace PA := hid (PA.out.step bel (by omega))
    replace OW := hid (OW.out.step bel)
    replace PW := hid (PW.out.step bel (by omega))
    replace OG := hid (OG.out.step bel)
    replace PG := hid (PG.out.step bel (by omega))
    replace BEL := hid (BEL.out.trans (bel.mono (by omega)))
    clear bel
    obtain ⟨PA0, PA1, PA2, PA3⟩ := PA.out
    go_wp2_with fail
    clear PA0 PA1 PA2 PA3
    refine (TP.out _ (HL.out.step BEL.out)).mono ?_
    rintro e w12 ⟨k1, k2, rfl, oi, ob, lo, l12, bel⟩
    have t12 := bel.size
    replace PA := hid (PA.out.step bel (by omega))
    replace OW := hid (OW.out.step bel)
    replace PW := hid (PW.out.step bel (by omega))
    replace OG := hid (OG.out.step bel)
    replace PG := hid (PG.out.step bel (by omega))
    replace BEL := hid (BEL.out.trans (bel.mono (by omega)))
    have NN := hid (newP_own oi ob l12).lists
    clear oi ob lo l12 bel
    go_wp2_with fail
    refine (IMPL.out _ _ _ _ _ NN.out).mono ?_
    rintro e w13 ⟨A3, c3, B3, d3, rfl, OH, RH, bel⟩
    have t13 := bel.size
    replace OH := hid OH
    replace PA := hid (PA.out.step bel (by omega))
    replace OW := hid (OW.out.step bel)
    replace PW := hid (PW.out.step bel (by omega))
    replace OG := hid (OG.out.step bel)
    replace PG := hid (PG.out.step bel (by omega))
    replace BEL := hid (BEL.out.trans (bel.mono (by omega)))
    clear bel NN RH
    obtain ⟨PW0, PW1, PW2, PW3⟩ := PW.out
    have ne13 : ¬ bw = w13.heap.size := by omega
    have lt_ne13 : bw < w13.heap.size := by omega
    go_wp2_with fail
    clear PW0 PW1 PW2 PW3
    have PH := hid (show PlainAt (w13.alloc (.cells #[.int .i64 S1, .int .i64 L1, .slice A3 n1 c3, .slice B3 m1 d3] 31)) w13.heap.size S1 L1 A3 n1 c3 B3 m1 d3 from ⟨by go_simp, by go_simp, by go_simp, by go_simp⟩)
    replace PA := hid (show PlainAt (w13.alloc (.cells #[.int .i64 S1, .int .i64 L1, .slice A3 n1 c3, .slice B3 m1 d3] 31)) _ _ _ _ _ _ _ _ _ from PA.out.step ((Below.refl _ _).alloc (Nat.le_refl _) _) (by omega))
    replace OW := hid (OW.out.step ((Below.refl w13.heap.size w13).alloc (Nat.le_refl _) (.cells #[.int .i64 S1, .int .i64 L1, .slice A3 n1 c3, .slice B3 m1 d3] 31)))
    replace PW := hid (show PlainAt (w13.alloc (.cells #[.int .i64 S1, .int .i64 L1, .slice A3 n1 c3, .slice B3 m1 d3] 31)) _ _ _ _ _ _ _ _ _ from PW.out.step ((Below.refl _ _).alloc (Nat.le_refl _) _) (by omega))
    replace OG := hid (OG.out.step ((Below.refl w13.heap.size w13).alloc (Nat.le_refl _) (.cells #[.int .i64 S1, .int .i64 L1, .slice A3 n1 c3, .slice B3 m1 d3] 31)))
    replace PG := hid (show PlainAt (w13.alloc (.cells #[.int .i64 S1, .int .i64 L1, .slice A3 n1 c3, .slice B3 m1 d3] 31)) _ _ _ _ _ _ _ _ _ from PG.out.step ((Below.refl _ _).alloc (Nat.le_refl _) _) (by omega))
    replace OH := hid (OH.out.step ((Below.refl w13.heap.size w13).alloc (Nat.le_refl _) (.cells #[.int .i64 S1, .int .i64 L1, .slice A3 n1 c3, .slice B3 m1 d3] 31)))
    replace BEL := hid (BEL.out.alloc (by omega) (.cells #[.int .i64 S1, .int .i64 L1, .slice A3 n1 c3, .slice B3 m1 d3] 31))
    have sv3 : (w13.alloc (.cells #[.int .i64 S1, .int .i64 L1, .slice A3 n1 c3, .slice B3 m1 d3] 31)).heap.size = w13.heap.size + 1 := by simp
    generalize w13.alloc (.cells #[.int .i64 S1, .int .i64 L1, .slice A3 n1 c3, .slice B3 m1 d3] 31) = v3 at *
    generalize hgenbh : w13.heap.size = bh at *
    refine (EQG.out _ _ _ _ _ _ _ _ _ OH.out.lists OW.out.lists).mono ?_
    rintro e w14 ⟨rfl, bel⟩
    have t14 := bel.size
    replace PA := hid (PA.out.step bel (by omega))
    replace OW := hid (OW.out.step bel)
    replace PW := hid (PW.out.step bel (by omega))
    replace OG := hid (OG.out.step bel)
    replace PG := hid (PG.out.step bel (by omega))
    replace OH := hid (OH.out.step bel)
    replace PH := hid (PH.out.step bel (by omega))
    replace BEL := hid (BEL.out.trans (bel.mono (by omega)))
    clear bel
    obtain ⟨PG0, PG1, PG2, PG3⟩ := PG.out
    go_wp2_with fail
    clear PG0 PG1 PG2 PG3
    refine (HELD.out _ OG.out.lists).mono ?_
    rintro e w15 ⟨rfl, bel⟩
    have t15 := bel.size
    replace BEL := hid (BEL.out.trans (bel.mono (by omega)))
    clear bel
    go_wp2_with fail
    go_ret
    exact ⟨rfl, BEL.out⟩
end Go.Proofs.Ytlfmcdobiojdlaa.fnExactLeastPlain
