/-
  The law on FirstWord, its walk over the contracts of both texts.
-/
import Derived.Test.YtlfmcdobiojdlaaMark2P
import Derived.Deep.RegionWith
import Derived.Deep.CutRange
namespace Go.Proofs.Ytlfmcdobiojdlaa.fnExactFirstWord
open Go.RowKit Go.Proofs.Fl Go.Proofs.Ytlfmcdobiojdlaa.Num
set_option linter.unusedVariables false
set_option linter.unusedSimpArgs false
/-- returned a list of its own, and whether there is one -/
def RetBL (n : Nat) (zs : List Int) (ok : Bool) (w : World) (e : Ending) (w' : World) : Prop :=
  ∃ A c, e = .returned (.tuple #[.slice A n c, .bool ok]) ∧ OwnL w' 2 1 A n c zs ∧ Within w.heap.size w'.heap.size [rowN n A] ∧ Below w.heap.size w w'
theorem ownL_apart {w w' : World} {e size : Nat} {A : Option Addr} {n c : Nat} {zs : List Int} {R : List (Option Nat)} {lo hi lo' hi' : Nat} (h : OwnL w e size A n c zs) (hk : Kept w w' R) (h1 : Within lo hi [rowN n A]) (h2 : Within lo' hi' R) (hd : hi ≤ lo' ∨ hi' ≤ lo) : OwnL w' e size A n c zs :=
  h.apart hk fun g hg r hr e => by
    have a1 := h1 _ (by simp) g hg
    have a2 := h2 r hr g e.symm
    omega
theorem eq_list (A B : Option Addr) (n c d : Nat) (xs : List Int) (hx : xs.length = n) (hn : n ≤ 1048576) (w : World) (ha : Rd w w.heap.size A (i64s xs)) (hb : Rd w w.heap.size B (i64s xs)) :
    Calls Try.prog 16 #[.slice A n c, .slice B n d] w (RetG (.bool true) w) :=
  (eqInt64S_yes A B n c d xs hx hn w ha hb).mono fun e w' h => by
    obtain ⟨he, k, hk⟩ := h
    exact ⟨he, by rw [hk]; exact below_drewN (Below.refl _ _) _⟩
theorem held_list (A : Option Addr) (n c : Nat) (k : Nat) (hn : n ≤ 1048576) (hk : k ≤ 1073741824) (w : World) (h : Rd w w.heap.size A (i64s (seqI k n))) :
    Calls Try.prog 35 #[.slice A n c, .int .i64 (k : Int)] w (RetG (.int .i64 ((k + n : Nat) : Int)) w) :=
  (heldInt64S_calls A n c k hn hk w h).mono fun e w' h => by
    obtain ⟨he, k, hk⟩ := h
    exact ⟨he, by rw [hk]; exact below_drewN (Below.refl _ _) _⟩
set_option maxHeartbeats 6400000 in
theorem walk (S L : Int) (A : Option Addr) (n c : Nat) (B : Option Addr) (m d : Nat) (xs : List Int) (bs : List Bool) (hF : FitsP n m xs bs) (hnl : ¬ leftP n m 1048576 < 0) {w : World} (hl : ListsP w A B xs bs)
    (n1 : Nat) (zs1 : List Int) (ok : Bool) (hz1 : zs1.length = n1) (hn1 : n1 ≤ 1048576)
    (SP : ∀ (A : Option Addr) (c : Nat) (B : Option Addr) (d : Nat) (w : World), ListsP w A B xs bs → Calls Try.prog 36 #[.agg #[.int .i64 S, .int .i64 L, .slice A n c, .slice B m d]] w (RetBL n1 zs1 ok w))
    (IM : ∀ (A : Option Addr) (c : Nat) (B : Option Addr) (d : Nat) (w : World), ListsP w A B xs bs → Calls Try.prog 37 #[.agg #[.int .i64 S, .int .i64 L, .slice A n c, .slice B m d]] w (RetBL n1 zs1 ok w)) :
    Calls Try.prog 10 #[.agg #[.int .i64 S, .int .i64 L, .slice A n c, .slice B m d]] w fun e w' => e = .returned (.bool true) ∧ Below w.heap.size w w' := by
  have HL := hid hl
  have HF := hid hF
  have HZ1 := hid hz1
  have SPEC := hid SP
  have IMPL := hid IM
  have hb1 := hF.n
  have hb2 := hF.m
  have HS := hid (szPlain_calls S L A n c B m d 1048576 (by omega) (by omega) (by omega))
  have TP := hid (fun (w : World) (hl : ListsP w A B xs bs) => toP S L A n c B m d xs bs HF.out.x HF.out.b HF.out.n HF.out.m w hl.a hl.b)
  have EQX := hid (fun (A' : Option Addr) (c' : Nat) (B' : Option Addr) (d' : Nat) (A : Option Addr) (c : Nat) (B : Option Addr) (d : Nat) => eqP S L A n c B m d A' c' B' d' xs bs hF)
  have EQG := hid fun (A B : Option Addr) (c d : Nat) => eq_list A B n1 c d zs1 hz1 hn1
  have okk : (ok != ok) = false := bne_self_eq_false _
  clear hl hF hz1 SP IM
  generalize leftP n m 1048576 = l at *
  go_enter Try.func10, Try.ntmps10
  go_wp2_with fail
  refine (HS.out _).mono ?_
  rintro e w1 ⟨rfl, bel1⟩
  have hc := (old_cell bel1).1
  have s1 : w.heap.size < w1.heap.size := by have := bel1.size; simp at this; omega
  have BEL := hid (((Below.refl w.heap.size w).alloc (Nat.le_refl _) _).trans (bel1.mono (by simp)))
  have PA := hid (show PlainAt w1 w.heap.size S L A n c B m d from ⟨by rw [hc _ _ (by simp)]; go_simp, by rw [hc _ _ (by simp)]; go_simp, by rw [hc _ _ (by simp)]; go_simp, by rw [hc _ _ (by simp)]; go_simp⟩)
  clear hc bel1 HS
  obtain ⟨PA0, PA1, PA2, PA3⟩ := PA.out
  go_wp2_with fail
  refine (TP.out _ (HL.out.step BEL.out)).mono ?_
  rintro e w2 ⟨g1, g2, rfl, N1i, N1b, N1l, N1k, bel⟩
  have t2 := bel.size
  clear PA0 PA1 PA2 PA3
  replace PA := hid (PA.out.step bel (by omega))
  replace BEL := hid (BEL.out.trans (bel.mono (by omega)))
  have NN := hid ((newP_own N1i N1b N1k).lists)
  clear N1i N1b N1l N1k bel
  go_wp2_with fail
  refine (SPEC.out _ _ _ _ _ NN.out).mono ?_
  rintro e w3 ⟨A1, c1, rfl, OW, RW, bel⟩
  have t3 := bel.size
  replace OW := hid OW
  replace RW := hid (RW.mono (show w.heap.size + 1 ≤ w2.heap.size by omega) (Nat.le_refl _))
  replace PA := hid (PA.out.step bel (by omega))
  replace BEL := hid (BEL.out.trans (bel.mono (by omega)))
  clear bel NN
  obtain ⟨PA0, PA1, PA2, PA3⟩ := PA.out
  go_wp2_with fail
  clear PA0 PA1 PA2 PA3
  refine (TP.out _ (HL.out.step BEL.out)).mono ?_
  rintro e w4 ⟨h1, h2, rfl, N2i, N2b, N2l, N2k, bel⟩
  have t4 := bel.size
  have RX := hid (newP_rows N2i N2b N2k N2l)
  replace PA := hid (PA.out.step bel (by omega))
  replace OW := hid (OW.out.step bel)
  replace BEL := hid (BEL.out.trans (bel.mono (by omega)))
  have OX := hid (newP_own N2i N2b N2k)
  clear N2i N2b N2l N2k bel
  go_wp2_with fail
  have PX := hid (show PlainAt (w4.alloc (.cells #[.int .i64 S, .int .i64 L, .slice (some ⟨h1, 0, none⟩) n n, .slice (some ⟨h2, 0, none⟩) m m] 31)) w4.heap.size S L (some ⟨h1, 0, none⟩) n n (some ⟨h2, 0, none⟩) m m from ⟨by go_simp, by go_simp, by go_simp, by go_simp⟩)
  replace PA := hid (show PlainAt (w4.alloc (.cells #[.int .i64 S, .int .i64 L, .slice (some ⟨h1, 0, none⟩) n n, .slice (some ⟨h2, 0, none⟩) m m] 31)) _ _ _ _ _ _ _ _ _ from PA.out.step ((Below.refl _ _).alloc (Nat.le_refl _) _) (by omega))
  replace OW := hid (OW.out.step ((Below.refl w4.heap.size w4).alloc (Nat.le_refl _) (.cells #[.int .i64 S, .int .i64 L, .slice (some ⟨h1, 0, none⟩) n n, .slice (some ⟨h2, 0, none⟩) m m] 31)))
  replace OX := hid (OX.out.step ((Below.refl w4.heap.size w4).alloc (Nat.le_refl _) (.cells #[.int .i64 S, .int .i64 L, .slice (some ⟨h1, 0, none⟩) n n, .slice (some ⟨h2, 0, none⟩) m m] 31)))
  replace BEL := hid (BEL.out.alloc (by omega) (.cells #[.int .i64 S, .int .i64 L, .slice (some ⟨h1, 0, none⟩) n n, .slice (some ⟨h2, 0, none⟩) m m] 31))
  have sv1 : (w4.alloc (.cells #[.int .i64 S, .int .i64 L, .slice (some ⟨h1, 0, none⟩) n n, .slice (some ⟨h2, 0, none⟩) m m] 31)).heap.size = w4.heap.size + 1 := by simp
  generalize w4.alloc (.cells #[.int .i64 S, .int .i64 L, .slice (some ⟨h1, 0, none⟩) n n, .slice (some ⟨h2, 0, none⟩) m m] 31) = v1 at *
  generalize hgenbx : w4.heap.size = bx at *
  refine (IMPL.out _ _ _ _ _ OX.out.lists).mono ?_
  rintro e w5 ⟨A2, c2, rfl, OG, RG, bel⟩
  have t5 := bel.size
  replace OG := hid OG
  replace RG := hid RG
  replace PA := hid (PA.out.step bel (by omega))
  replace OW := hid (OW.out.step bel)
  replace OX := hid (OX.out.step bel)
  replace PX := hid (PX.out.step bel (by omega))
  replace BEL := hid (BEL.out.trans (bel.mono (by omega)))
  clear bel
  go_wp2_with fail
  refine (EQG.out _ _ _ _ _ OG.out.rd OW.out.rd).mono ?_
  rintro e w6 ⟨rfl, bel⟩
  have t6 := bel.size
  replace PA := hid (PA.out.step bel (by omega))
  replace OW := hid (OW.out.step bel)
  replace OX := hid (OX.out.step bel)
  replace PX := hid (PX.out.step bel (by omega))
  replace OG := hid (OG.out.step bel)
  replace BEL := hid (BEL.out.trans (bel.mono (by omega)))
  clear bel
  go_wp2_with fail
  go_cut [45] from 41 to 45 (fun v wx => v = .bool false ∧ Hid (Below w6.heap.size w6 wx))
  case first =>
    have RXd := hid OX.out.lists.drew
    have RA := hid (HL.out.step BEL.out).drew
    obtain ⟨a0, a1, a2, a3⟩ := PA.out.drew
    obtain ⟨x0, x1, x2, x3⟩ := PX.out.drew
    have hzx : bx < w6.drew.heap.size := (show bx < w6.heap.size by omega)
    go_region_with (first | (go_at_call 19; refine (TP.out _ RA.out).mono ?_; rintro e w9 ⟨k1, k2, rfl, N9i, N9b, N9l, N9k, bel⟩; have y0 := ((old_cell bel).1 _ 0 hzx).trans x0; have y1 := ((old_cell bel).1 _ 1 hzx).trans x1; have y2 := ((old_cell bel).1 _ 2 hzx).trans x2; have y3 := ((old_cell bel).1 _ 3 hzx).trans x3; have NN9 := hid ((newP_own N9i N9b N9k).lists); have BEL9 := hid bel; clear N9i N9b N9l N9k bel) | (go_at_call 21; refine (EQX.out _ _ _ _ _ _ _ _ _ (RXd.out.step BEL9.out) NN9.out).mono ?_; rintro e w10 ⟨rfl, bel10⟩; have BEL10 := hid bel10; clear bel10))
    all_goals
      go_wp2_with fail
      go_meet
      case rel => exact ⟨rfl, (Below.refl w6.heap.size w6).drew.trans (BEL9.out.trans (BEL10.out.mono BEL9.out.size))⟩
  case rest =>
    obtain ⟨rfl, bel⟩ := hcut
    replace bel := bel.out
    generalize wc = w7 at *
    have t7 := bel.size
    replace PA := hid (PA.out.step bel (by omega))
    replace OW := hid (OW.out.step bel)
    replace OX := hid (OX.out.step bel)
    replace PX := hid (PX.out.step bel (by omega))
    replace OG := hid (OG.out.step bel)
    replace BEL := hid (BEL.out.trans (bel.mono (by omega)))
    clear bel
    obtain ⟨PX0, PX1, PX2, PX3⟩ := PX.out
    go_wp2_with fail
    have MX := markPlain_calls S L (some ⟨h1, 0, none⟩) n n (some ⟨h2, 0, none⟩) m m xs bs 1 hb1 hb2 (by omega) w7 OX.out
    refine MX.mono ?_
    rintro e w8 ⟨rfl, _, kept⟩
    have t8 := kept.size
    clear PX0 PX1 PX2 PX3
    clear MX
    replace PA := hid (PA.out.keep fun o => kept.cell (by omega) (fun r hr e => by have := RX.out r hr _ e.symm; omega) o)
    replace OW := hid (ownL_apart OW.out kept RW.out RX.out (.inl (by omega)))
    replace OG := hid (ownL_apart OG.out kept RG.out RX.out (.inr (by omega)))
    replace BEL := hid (BEL.out.trans (kept.below (by omega) fun r hr g hg => by have := RX.out r hr g hg; omega))
    clear kept OX PX RX
    have nk : ¬ ((1 + n + m : Nat) : Int) < 0 := by omega
    generalize 1 + n + m = kx at *
    go_wp2_with fail
    refine (EQG.out _ _ _ _ _ OG.out.rd OW.out.rd).mono ?_
    rintro e w9 ⟨rfl, bel⟩
    have t9 := bel.size
    replace PA := hid (PA.out.step bel (by omega))
    replace OW := hid (OW.out.step bel)
    replace OG := hid (OG.out.step bel)
    replace BEL := hid (BEL.out.trans (bel.mono (by omega)))
    clear bel
    go_wp2_with fail
    have MG := markInt64S_calls A2 n1 c2 zs1 1 hn1 (by omega) w9 OG.out
    refine MG.mono ?_
    rintro e w10 ⟨rfl, OG2, kept, zk⟩
    have t10 := kept.size
    clear MG zk
    replace PA := hid (PA.out.keep fun o => kept.cell (by omega) (fun r hr e => by have := RG.out r hr _ e.symm; omega) o)
    replace OW := hid (ownL_apart OW.out kept RW.out RG.out (.inl (by omega)))
    replace OG := hid OG2
    replace BEL := hid (BEL.out.trans (kept.below (by omega) fun r hr g hg => by have := RG.out r hr g hg; omega))
    clear kept OG2
    have nm : ¬ ((1 + n1 : Nat) : Int) < 0 := by omega
    have HELD := hid fun (w : World) (h : Rd w w.heap.size A2 (i64s (seqI 1 n1))) => held_list A2 n1 c2 1 hn1 (by omega) w h
    generalize seqI 1 n1 = ms1 at *
    generalize 1 + n1 = kg at *
    have kgg : ((kg : Int) != (kg : Int)) = false := bne_self_eq_false _
    go_wp2_with fail
    refine (HELD.out _ OG.out.rd).mono ?_
    rintro e w11 ⟨rfl, bel⟩
    have t11 := bel.size
    replace PA := hid (PA.out.step bel (by omega))
    replace OW := hid (OW.out.step bel)
    replace OG := hid (OG.out.step bel)
    replace BEL := hid (BEL.out.trans (bel.mono (by omega)))
    clear bel
    obtain ⟨PA0, PA1, PA2, PA3⟩ := PA.out
    go_wp2_with fail
    clear PA0 PA1 PA2 PA3
    refine (TP.out _ (HL.out.step BEL.out)).mono ?_
    rintro e w12 ⟨k1, k2, rfl, N3i, N3b, N3l, N3k, bel⟩
    have t12 := bel.size
    replace PA := hid (PA.out.step bel (by omega))
    replace OW := hid (OW.out.step bel)
    replace OG := hid (OG.out.step bel)
    replace BEL := hid (BEL.out.trans (bel.mono (by omega)))
    have NN := hid ((newP_own N3i N3b N3k).lists)
    clear N3i N3b N3l N3k bel
    go_wp2_with fail
    refine (IMPL.out _ _ _ _ _ NN.out).mono ?_
    rintro e w13 ⟨A3, c3, rfl, OH, RH, bel⟩
    have t13 := bel.size
    replace OH := hid OH
    replace PA := hid (PA.out.step bel (by omega))
    replace OW := hid (OW.out.step bel)
    replace OG := hid (OG.out.step bel)
    replace BEL := hid (BEL.out.trans (bel.mono (by omega)))
    clear bel NN RH
    go_wp2_with fail
    refine (EQG.out _ _ _ _ _ OH.out.rd OW.out.rd).mono ?_
    rintro e w14 ⟨rfl, bel⟩
    have t14 := bel.size
    replace PA := hid (PA.out.step bel (by omega))
    replace OW := hid (OW.out.step bel)
    replace OG := hid (OG.out.step bel)
    replace OH := hid (OH.out.step bel)
    replace BEL := hid (BEL.out.trans (bel.mono (by omega)))
    clear bel
    go_wp2_with fail
    refine (HELD.out _ OG.out.rd).mono ?_
    rintro e w15 ⟨rfl, bel⟩
    have t15 := bel.size
    replace BEL := hid (BEL.out.trans (bel.mono (by omega)))
    clear bel
    go_wp2_with fail
    go_ret
    exact ⟨rfl, BEL.out⟩
end Go.Proofs.Ytlfmcdobiojdlaa.fnExactFirstWord
