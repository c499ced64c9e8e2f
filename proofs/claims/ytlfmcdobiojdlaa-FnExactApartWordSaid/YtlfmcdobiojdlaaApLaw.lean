/-
  The law on ApartWord, its walk over the contracts of both texts.
-/
import Derived.Test.YtlfmcdobiojdlaaApSpec2
import Derived.Test.YtlfmcdobiojdlaaMark2P
import Derived.Deep.RegionWith
import Derived.Deep.RegionHeld3
import Derived.Deep.CutRange
namespace Go.Proofs.Ytlfmcdobiojdlaa.fnExactApartWord
open Go.RowKit Go.Proofs.Fl Go.Proofs.Ytlfmcdobiojdlaa.Num
set_option linter.unusedVariables false
set_option linter.unusedSimpArgs false
/-- returned a list of its own, and whether there is one -/
def RetBL (n : Nat) (zs : List Int) (ok : Bool) (w : World) (e : Ending) (w' : World) : Prop :=
  ∃ A c, e = .returned (.tuple #[.slice A n c, .bool ok]) ∧ OwnL w' 2 1 A n c zs ∧ Within w.heap.size w'.heap.size [rowN n A] ∧ Below w.heap.size w w'
theorem ownL_apart {w w' : World} {e size : Nat} {A : Option Addr} {n c : Nat} {zs : List Int} {R : List (Option Nat)} {lo hi lo' hi' : Nat} (h : OwnL w e size A n c zs) (hk : Kept w w' R) (h1 : Within lo hi [rowN n A]) (h2 : Within lo' hi' R) (hd : hi ≤ lo' ∨ hi' ≤ lo) : OwnL w' e size A n c zs :=
  h.apart hk fun g hg r hr e => by
    have a1 := h1 _ (by simp) g hg
    have a2 := h2 r hr g e.symm
    omega
theorem eq_list (A B : Option Addr) (n c d : Nat) (xs : List Int) (hx : xs.length = n) (hn : n ≤ 1048576) (w : World) (ha : Rd w w.heap.size A (i64s xs)) (hb : Rd w w.heap.size B (i64s xs)) :
    Calls Try.prog 16 #[.slice A n c, .slice B n d] w (RetG (.bool true) w) :=
  (eqInt64S_yes A B n c d xs hx hn w ha hb).mono fun e w' h => by
    obtain ⟨he, k, hk⟩ := h
    exact ⟨he, by rw [hk]; exact below_drewN (Below.refl _ _) _⟩
theorem held_list (A : Option Addr) (n c : Nat) (k : Nat) (hn : n ≤ 1048576) (hk : k ≤ 1073741824) (w : World) (h : Rd w w.heap.size A (i64s (seqI k n))) :
    Calls Try.prog 35 #[.slice A n c, .int .i64 (k : Int)] w (RetG (.int .i64 ((k + n : Nat) : Int)) w) :=
  (heldInt64S_calls A n c k hn hk w h).mono fun e w' h => by
    obtain ⟨he, k, hk⟩ := h
    exact ⟨he, by rw [hk]; exact below_drewN (Below.refl _ _) _⟩
set_option maxHeartbeats 25600000 in
theorem walk (S L : Int) (A : Option Addr) (n c : Nat) (B : Option Addr) (m d : Nat) (xs : List Int) (bs : List Bool) (hF : FitsP n m xs bs) (S' L' : Int) (A' : Option Addr) (n' c' : Nat) (B' : Option Addr) (m' d' : Nat) (xs' : List Int) (bs' : List Bool) (hF' : FitsP n' m' xs' bs') (hnl : ¬ leftP n m 1048576 < 0) (hnl' : ¬ leftP n' m' (leftP n m 1048576) < 0) (hlr : 0 ≤ leftP n m 1048576 ∧ leftP n m 1048576 ≤ 1048576) {w : World} (hl : ListsP w A B xs bs) (hl' : ListsP w A' B' xs' bs')
    (n1 : Nat) (zs1 : List Int) (ok : Bool) (hz1 : zs1.length = n1) (hn1 : n1 ≤ 1048576)
    (SP : ∀ (A : Option Addr) (c : Nat) (B : Option Addr) (d : Nat) (A' : Option Addr) (c' : Nat) (B' : Option Addr) (d' : Nat) (w : World), ListsP w A B xs bs → ListsP w A' B' xs' bs' → Calls Try.prog 32 #[.agg #[.int .i64 S, .int .i64 L, .slice A n c, .slice B m d], .agg #[.int .i64 S', .int .i64 L', .slice A' n' c', .slice B' m' d']] w (RetBL n1 zs1 ok w))
    (IM : ∀ (A : Option Addr) (c : Nat) (B : Option Addr) (d : Nat) (A' : Option Addr) (c' : Nat) (B' : Option Addr) (d' : Nat) (w : World), ListsP w A B xs bs → ListsP w A' B' xs' bs' → Calls Try.prog 33 #[.agg #[.int .i64 S, .int .i64 L, .slice A n c, .slice B m d], .agg #[.int .i64 S', .int .i64 L', .slice A' n' c', .slice B' m' d']] w (RetBL n1 zs1 ok w)) :
    Calls Try.prog 9 #[.agg #[.int .i64 S, .int .i64 L, .slice A n c, .slice B m d], .agg #[.int .i64 S', .int .i64 L', .slice A' n' c', .slice B' m' d']] w fun e w' => e = .returned (.bool true) ∧ Below w.heap.size w w' := by
  have HL := hid hl
  have HL' := hid hl'
  have HF := hid hF
  have HF' := hid hF'
  have SPEC := hid SP
  have IMPL := hid IM
  have hb1 := hF.n
  have hb2 := hF.m
  have hb1' := hF'.n
  have hb2' := hF'.m
  have HS := hid (szPlain_calls S L A n c B m d 1048576 (by omega) (by omega) (by omega))
  generalize leftP n m 1048576 = l at *
  have HS2 := hid (szPlain_calls S' L' A' n' c' B' m' d' l (by omega) (by omega) (by omega))
  generalize leftP n' m' l = l2 at *
  have TP := hid (fun (w : World) (hl : ListsP w A B xs bs) => toP S L A n c B m d xs bs HF.out.x HF.out.b HF.out.n HF.out.m w hl.a hl.b)
  have TP' := hid (fun (w : World) (hl : ListsP w A' B' xs' bs') => toP S' L' A' n' c' B' m' d' xs' bs' HF'.out.x HF'.out.b HF'.out.n HF'.out.m w hl.a hl.b)
  have EQX := hid (fun (A9 : Option Addr) (c9 : Nat) (B9 : Option Addr) (d9 : Nat) (A : Option Addr) (c : Nat) (B : Option Addr) (d : Nat) => eqP S L A n c B m d A9 c9 B9 d9 xs bs hF)
  have EQX' := hid (fun (A9 : Option Addr) (c9 : Nat) (B9 : Option Addr) (d9 : Nat) (A : Option Addr) (c : Nat) (B : Option Addr) (d : Nat) => eqP S' L' A n' c B m' d A9 c9 B9 d9 xs' bs' hF')
  have EQG := hid (fun (A B : Option Addr) (c d : Nat) => eq_list A B n1 c d zs1 hz1 hn1)
  have okk : (ok != ok) = false := bne_self_eq_false _
  clear hl hl' hF hF' SP IM hlr
  go_enter Try.func9, Try.ntmps9
  go_wp2_with fail
  refine (HS.out _).mono ?_
  rintro e w1 ⟨rfl, bel1⟩
  have hc := (old_cell bel1).1
  have s1 : w.heap.size + 2 ≤ w1.heap.size := by have := bel1.size; simp at this; omega
  have BEL := hid ((((Below.refl w.heap.size w).alloc (Nat.le_refl _) _).alloc (by simp) _).trans (bel1.mono (by simp; omega)))
  have PA := hid (show PlainAt w1 w.heap.size S L A n c B m d from ⟨by rw [hc _ _ (by simp; omega)]; go_simp, by rw [hc _ _ (by simp; omega)]; go_simp, by rw [hc _ _ (by simp; omega)]; go_simp, by rw [hc _ _ (by simp; omega)]; go_simp⟩)
  have PB := hid (show PlainAt w1 (w.heap.size + 1) S' L' A' n' c' B' m' d' from ⟨by rw [hc _ _ (by simp)]; go_simp, by rw [hc _ _ (by simp)]; go_simp, by rw [hc _ _ (by simp)]; go_simp, by rw [hc _ _ (by simp)]; go_simp⟩)
  clear hc bel1 HS
  obtain ⟨PB0, PB1, PB2, PB3⟩ := PB.out
  go_wp2_with fail
  refine (HS2.out _).mono ?_
  rintro e w2 ⟨rfl, bel⟩
  have t2 := bel.size
  clear PB0 PB1 PB2 PB3
  replace PA := hid (PA.out.step bel (by omega))
  replace PB := hid (PB.out.step bel (by omega))
  replace BEL := hid (BEL.out.trans (bel.mono (by omega)))
  clear bel HS2
  go_wp2_with fail
  go_cut [6, 7] from 27 to 34 (fun v v' wx => ∃ (A1 : Option Addr) (c1 : Nat), v = .slice A1 n1 c1 ∧ v' = .bool ok ∧ Hid (OwnL wx 2 1 A1 n1 c1 zs1) ∧ Hid (Within w2.heap.size wx.heap.size [rowN n1 A1]) ∧ Hid (Below w2.heap.size w2 wx))
  case first =>
    have RA := hid (HL.out.step BEL.out).drew
    have RB := hid (HL'.out.step BEL.out).drew
    have PAD := hid PA.out.drew
    have PBD := hid PB.out.drew
    obtain ⟨pa0, pa1, pa2, pa3⟩ := PAD.out; obtain ⟨pa4, pa5, pa6, pa7⟩ := PBD.out
    have hz0 : w.heap.size < w2.drew.heap.size := (show w.heap.size < w2.heap.size by omega)
    have hz1 : w.heap.size + 1 < w2.drew.heap.size := (show w.heap.size + 1 < w2.heap.size by omega)
    have KA := hid (show ∀ v', Below w2.drew.heap.size w2.drew v' → (v'.cell? ⟨w.heap.size, 0, none⟩ = some (.int .i64 S) ∧ v'.cell? ⟨w.heap.size, 1, none⟩ = some (.int .i64 L) ∧ v'.cell? ⟨w.heap.size, 2, none⟩ = some (.slice A n c) ∧ v'.cell? ⟨w.heap.size, 3, none⟩ = some (.slice B m d) ∧ v'.cell? ⟨w.heap.size + 1, 0, none⟩ = some (.int .i64 S') ∧ v'.cell? ⟨w.heap.size + 1, 1, none⟩ = some (.int .i64 L') ∧ v'.cell? ⟨w.heap.size + 1, 2, none⟩ = some (.slice A' n' c') ∧ v'.cell? ⟨w.heap.size + 1, 3, none⟩ = some (.slice B' m' d')) from fun v' hv => ⟨((old_cell hv).1 _ 0 hz0).trans pa0, ((old_cell hv).1 _ 1 hz0).trans pa1, ((old_cell hv).1 _ 2 hz0).trans pa2, ((old_cell hv).1 _ 3 hz0).trans pa3, ((old_cell hv).1 _ 0 hz1).trans pa4, ((old_cell hv).1 _ 1 hz1).trans pa5, ((old_cell hv).1 _ 2 hz1).trans pa6, ((old_cell hv).1 _ 3 hz1).trans pa7⟩)
    have HDZ := hid (show w2.drew.heap.size ≤ w2.heap.size from Nat.le_refl _)
    go_region_held3 (fun w' => w'.cell? ⟨w.heap.size, 0, none⟩ = some (.int .i64 S) ∧ w'.cell? ⟨w.heap.size, 1, none⟩ = some (.int .i64 L) ∧ w'.cell? ⟨w.heap.size, 2, none⟩ = some (.slice A n c) ∧ w'.cell? ⟨w.heap.size, 3, none⟩ = some (.slice B m d) ∧ w'.cell? ⟨w.heap.size + 1, 0, none⟩ = some (.int .i64 S') ∧ w'.cell? ⟨w.heap.size + 1, 1, none⟩ = some (.int .i64 L') ∧ w'.cell? ⟨w.heap.size + 1, 2, none⟩ = some (.slice A' n' c') ∧ w'.cell? ⟨w.heap.size + 1, 3, none⟩ = some (.slice B' m' d')) (first | with_reducible exact ⟨pa0, pa1, pa2, pa3, pa4, pa5, pa6, pa7⟩ | with_reducible exact ⟨pb0, pb1, pb2, pb3, pb4, pb5, pb6, pb7⟩ | with_reducible exact ⟨pc0, pc1, pc2, pc3, pc4, pc5, pc6, pc7⟩ | with_reducible exact ⟨pd0, pd1, pd2, pd3, pd4, pd5, pd6, pd7⟩ | fail) (first | (go_at_call_of 19 c; refine (TP.out _ RA.out).mono ?_; rintro e v3 ⟨g1, g2, rfl, N1i, N1b, N1l, N1k, bel3⟩; skip; (try have zl3 := ZZ3.out.2.2); skip; have u3 := bel3.size; have PA3 := hid (PAD.out.step bel3 hz0); have PB3 := hid (PBD.out.step bel3 hz1); obtain ⟨pb0, pb1, pb2, pb3⟩ := PA3.out; obtain ⟨pb4, pb5, pb6, pb7⟩ := PB3.out; have BD3 := hid bel3; have NN3 := hid (newP_own N1i N1b N1k); have BEL3 := hid bel3; clear N1i N1b N1l N1k bel3) | (go_at_call_of 19 c'; refine (TP'.out _ (RB.out.step BEL3.out)).mono ?_; rintro e v4 ⟨h1, h2, rfl, N2i, N2b, N2l, N2k, bel4⟩; skip; (try have zl4 := ZZ4.out.2.2); skip; have u4 := bel4.size; have x0 : w.heap.size < v3.heap.size := (by omega); have x1 : w.heap.size + 1 < v3.heap.size := (by omega); have PA4 := hid (PA3.out.step bel4 x0); have PB4 := hid (PB3.out.step bel4 x1); obtain ⟨pc0, pc1, pc2, pc3⟩ := PA4.out; obtain ⟨pc4, pc5, pc6, pc7⟩ := PB4.out; have BD4 := hid (BD3.out.trans (bel4.mono u3)); have lz4 := Nat.le_trans u3 u4; have NN4 := hid (newP_own N2i N2b N2k); have BEL4 := hid bel4; clear N2i N2b N2l N2k bel4) | (go_at_call 32; refine (SPEC.out _ _ _ _ _ _ _ _ _ (NN3.out.step BEL4.out).lists NN4.out.lists).mono ?_; rintro e v5 ⟨A1, c1, rfl, ow5, rw5, bel5⟩; skip; skip; skip; have u5 := bel5.size; have BD5 := hid (BD4.out.trans (bel5.mono lz4)); have lz5 := Nat.le_trans lz4 u5; have x2 : w.heap.size < v4.heap.size := (by omega); have x3 : w.heap.size + 1 < v4.heap.size := (by omega); have PA5 := hid (PA4.out.step bel5 x2); have PB5 := hid (PB4.out.step bel5 x3); obtain ⟨pd0, pd1, pd2, pd3⟩ := PA5.out; obtain ⟨pd4, pd5, pd6, pd7⟩ := PB5.out; have OW5 := hid ow5; have RW5 := hid rw5; have BEL5 := hid bel5; clear ow5 rw5 bel5))
    all_goals
      go_wp2_with fail
      have hdd : w2.heap.size ≤ w2.drew.heap.size := Nat.le_refl _
      have BF := hid (((Below.refl w2.heap.size w2).drew.trans (BEL3.out.mono hdd)).trans ((BEL4.out.mono (by omega)).trans (BEL5.out.mono (by omega))))
      go_meet
      case rel => exact ⟨A1, c1, rfl, rfl, OW5, RW5.out.mono (by omega) (Nat.le_refl _), BF⟩
  case rest =>
    obtain ⟨A1, c1, rfl, rfl, OW, RW, bel⟩ := hcut
    replace bel := bel.out
    generalize wc = w3 at *
    have t3 := bel.size
    replace PA := hid (PA.out.step bel (by omega))
    replace PB := hid (PB.out.step bel (by omega))
    replace BEL := hid (BEL.out.trans (bel.mono (by omega)))
    clear bel
    obtain ⟨PA0, PA1, PA2, PA3⟩ := PA.out
    go_wp2_with fail
    clear PA0 PA1 PA2 PA3
    refine (TP.out _ (HL.out.step BEL.out)).mono ?_
    rintro e w4 ⟨h1, h2, rfl, N2i, N2b, N2l, N2k, bel⟩
    have tw4 := bel.size
    have RX := hid (newP_rows N2i N2b N2k N2l)
    replace PA := hid (PA.out.step bel (by omega))
    replace PB := hid (PB.out.step bel (by omega))
    replace OW := hid (OW.out.step bel)
    replace BEL := hid (BEL.out.trans (bel.mono (by omega)))
    have OX := hid (newP_own N2i N2b N2k)
    clear N2i N2b N2l N2k bel
    have new40 : ¬ w.heap.size = w4.heap.size := by omega
    have ltw40 : w.heap.size < w4.heap.size := by omega
    have new41 : ¬ w.heap.size + 1 = w4.heap.size := by omega
    have ltw41 : w.heap.size + 1 < w4.heap.size := by omega
    obtain ⟨PB0, PB1, PB2, PB3⟩ := PB.out
    go_upto_region 10 with (fail)
    clear PB0 PB1 PB2 PB3
    have PX := hid (show PlainAt (w4.alloc (.cells #[.int .i64 S, .int .i64 L, .slice (some ⟨h1, 0, none⟩) n n, .slice (some ⟨h2, 0, none⟩) m m] 31)) w4.heap.size S L (some ⟨h1, 0, none⟩) n n (some ⟨h2, 0, none⟩) m m from ⟨by go_simp, by go_simp, by go_simp, by go_simp⟩)
    replace PA := hid (show PlainAt (w4.alloc (.cells #[.int .i64 S, .int .i64 L, .slice (some ⟨h1, 0, none⟩) n n, .slice (some ⟨h2, 0, none⟩) m m] 31)) _ _ _ _ _ _ _ _ _ from PA.out.step ((Below.refl _ _).alloc (Nat.le_refl _) _) (by omega))
    replace PB := hid (show PlainAt (w4.alloc (.cells #[.int .i64 S, .int .i64 L, .slice (some ⟨h1, 0, none⟩) n n, .slice (some ⟨h2, 0, none⟩) m m] 31)) _ _ _ _ _ _ _ _ _ from PB.out.step ((Below.refl _ _).alloc (Nat.le_refl _) _) (by omega))
    replace OW := hid (OW.out.step ((Below.refl w4.heap.size w4).alloc (Nat.le_refl _) (.cells #[.int .i64 S, .int .i64 L, .slice (some ⟨h1, 0, none⟩) n n, .slice (some ⟨h2, 0, none⟩) m m] 31)))
    replace OX := hid (OX.out.step ((Below.refl w4.heap.size w4).alloc (Nat.le_refl _) (.cells #[.int .i64 S, .int .i64 L, .slice (some ⟨h1, 0, none⟩) n n, .slice (some ⟨h2, 0, none⟩) m m] 31)))
    replace BEL := hid (BEL.out.alloc (by omega) (.cells #[.int .i64 S, .int .i64 L, .slice (some ⟨h1, 0, none⟩) n n, .slice (some ⟨h2, 0, none⟩) m m] 31))
    have sv1 : (w4.alloc (.cells #[.int .i64 S, .int .i64 L, .slice (some ⟨h1, 0, none⟩) n n, .slice (some ⟨h2, 0, none⟩) m m] 31)).heap.size = w4.heap.size + 1 := by simp
    generalize w4.alloc (.cells #[.int .i64 S, .int .i64 L, .slice (some ⟨h1, 0, none⟩) n n, .slice (some ⟨h2, 0, none⟩) m m] 31) = v1 at *
    generalize hgenbx : w4.heap.size = bx at *
    obtain ⟨PB0, PB1, PB2, PB3⟩ := PB.out
    go_wp2_with fail
    clear PB0 PB1 PB2 PB3
    refine (TP'.out _ (HL'.out.step BEL.out)).mono ?_
    rintro e w5 ⟨i1, i2, rfl, N2i, N2b, N2l, N2k, bel⟩
    have tw5 := bel.size
    have RY := hid (newP_rows N2i N2b N2k N2l)
    replace PA := hid (PA.out.step bel (by omega))
    replace PB := hid (PB.out.step bel (by omega))
    replace OW := hid (OW.out.step bel)
    replace OX := hid (OX.out.step bel)
    replace PX := hid (PX.out.step bel (by omega))
    replace BEL := hid (BEL.out.trans (bel.mono (by omega)))
    have OY := hid (newP_own N2i N2b N2k)
    clear N2i N2b N2l N2k bel
    have new50 : ¬ w.heap.size = w5.heap.size := by omega
    have ltw50 : w.heap.size < w5.heap.size := by omega
    have new51 : ¬ w.heap.size + 1 = w5.heap.size := by omega
    have ltw51 : w.heap.size + 1 < w5.heap.size := by omega
    have new52 : ¬ bx = w5.heap.size := by omega
    have ltw52 : bx < w5.heap.size := by omega
    obtain ⟨PX0, PX1, PX2, PX3⟩ := PX.out
    go_upto_region 11 with (fail)
    clear PX0 PX1 PX2 PX3
    have PY := hid (show PlainAt (w5.alloc (.cells #[.int .i64 S', .int .i64 L', .slice (some ⟨i1, 0, none⟩) n' n', .slice (some ⟨i2, 0, none⟩) m' m'] 31)) w5.heap.size S' L' (some ⟨i1, 0, none⟩) n' n' (some ⟨i2, 0, none⟩) m' m' from ⟨by go_simp, by go_simp, by go_simp, by go_simp⟩)
    replace PA := hid (show PlainAt (w5.alloc (.cells #[.int .i64 S', .int .i64 L', .slice (some ⟨i1, 0, none⟩) n' n', .slice (some ⟨i2, 0, none⟩) m' m'] 31)) _ _ _ _ _ _ _ _ _ from PA.out.step ((Below.refl _ _).alloc (Nat.le_refl _) _) (by omega))
    replace PB := hid (show PlainAt (w5.alloc (.cells #[.int .i64 S', .int .i64 L', .slice (some ⟨i1, 0, none⟩) n' n', .slice (some ⟨i2, 0, none⟩) m' m'] 31)) _ _ _ _ _ _ _ _ _ from PB.out.step ((Below.refl _ _).alloc (Nat.le_refl _) _) (by omega))
    replace OW := hid (OW.out.step ((Below.refl w5.heap.size w5).alloc (Nat.le_refl _) (.cells #[.int .i64 S', .int .i64 L', .slice (some ⟨i1, 0, none⟩) n' n', .slice (some ⟨i2, 0, none⟩) m' m'] 31)))
    replace OX := hid (OX.out.step ((Below.refl w5.heap.size w5).alloc (Nat.le_refl _) (.cells #[.int .i64 S', .int .i64 L', .slice (some ⟨i1, 0, none⟩) n' n', .slice (some ⟨i2, 0, none⟩) m' m'] 31)))
    replace PX := hid (show PlainAt (w5.alloc (.cells #[.int .i64 S', .int .i64 L', .slice (some ⟨i1, 0, none⟩) n' n', .slice (some ⟨i2, 0, none⟩) m' m'] 31)) _ _ _ _ _ _ _ _ _ from PX.out.step ((Below.refl _ _).alloc (Nat.le_refl _) _) (by omega))
    replace OY := hid (OY.out.step ((Below.refl w5.heap.size w5).alloc (Nat.le_refl _) (.cells #[.int .i64 S', .int .i64 L', .slice (some ⟨i1, 0, none⟩) n' n', .slice (some ⟨i2, 0, none⟩) m' m'] 31)))
    replace BEL := hid (BEL.out.alloc (by omega) (.cells #[.int .i64 S', .int .i64 L', .slice (some ⟨i1, 0, none⟩) n' n', .slice (some ⟨i2, 0, none⟩) m' m'] 31))
    have sv2 : (w5.alloc (.cells #[.int .i64 S', .int .i64 L', .slice (some ⟨i1, 0, none⟩) n' n', .slice (some ⟨i2, 0, none⟩) m' m'] 31)).heap.size = w5.heap.size + 1 := by simp
    generalize w5.alloc (.cells #[.int .i64 S', .int .i64 L', .slice (some ⟨i1, 0, none⟩) n' n', .slice (some ⟨i2, 0, none⟩) m' m'] 31) = v2 at *
    generalize hgenbY : w5.heap.size = bY at *
    obtain ⟨PX0, PX1, PX2, PX3⟩ := PX.out
    obtain ⟨PY0, PY1, PY2, PY3⟩ := PY.out
    go_wp2_with fail
    clear PX0 PX1 PX2 PX3 PY0 PY1 PY2 PY3
    refine (IMPL.out _ _ _ _ _ _ _ _ _ OX.out.lists OY.out.lists).mono ?_
    rintro e w6 ⟨A2, c2, rfl, OG, RG, bel⟩
    have t6 := bel.size
    replace OG := hid OG
    replace RG := hid RG
    replace PA := hid (PA.out.step bel (by omega))
    replace PB := hid (PB.out.step bel (by omega))
    replace OW := hid (OW.out.step bel)
    replace OX := hid (OX.out.step bel)
    replace PX := hid (PX.out.step bel (by omega))
    replace OY := hid (OY.out.step bel)
    replace PY := hid (PY.out.step bel (by omega))
    replace BEL := hid (BEL.out.trans (bel.mono (by omega)))
    clear bel
    go_wp2_with fail
    refine (EQG.out _ _ _ _ _ OG.out.rd OW.out.rd).mono ?_
    rintro e w7 ⟨rfl, bel⟩
    have t7 := bel.size
    replace PA := hid (PA.out.step bel (by omega))
    replace PB := hid (PB.out.step bel (by omega))
    replace OW := hid (OW.out.step bel)
    replace OX := hid (OX.out.step bel)
    replace PX := hid (PX.out.step bel (by omega))
    replace OY := hid (OY.out.step bel)
    replace PY := hid (PY.out.step bel (by omega))
    replace OG := hid (OG.out.step bel)
    replace BEL := hid (BEL.out.trans (bel.mono (by omega)))
    clear bel
    go_wp2_with fail
    go_cut [58] from 54 to 58 (fun v wx => v = .bool false ∧ Hid (Below w7.heap.size w7 wx))
    case first =>
      have RXd := hid OX.out.lists.drew
      have RA := hid (HL.out.step BEL.out).drew
      obtain ⟨a0, a1, a2, a3⟩ := PA.out.drew
      obtain ⟨x0, x1, x2, x3⟩ := PX.out.drew
      have hzx : bx < w7.drew.heap.size := (show bx < w7.heap.size by omega)
      go_region_with (first | (go_at_call 19; refine (TP.out _ RA.out).mono ?_; rintro e w9 ⟨k1, k2, rfl, N9i, N9b, N9l, N9k, bel⟩; have y0 := ((old_cell bel).1 _ 0 hzx).trans x0; have y1 := ((old_cell bel).1 _ 1 hzx).trans x1; have y2 := ((old_cell bel).1 _ 2 hzx).trans x2; have y3 := ((old_cell bel).1 _ 3 hzx).trans x3; have NN9 := hid (newP_own N9i N9b N9k).lists; have BEL9 := hid bel; clear N9i N9b N9l N9k bel) | (go_at_call 21; refine (EQX.out _ _ _ _ _ _ _ _ _ (RXd.out.step BEL9.out) NN9.out).mono ?_; rintro e w10 ⟨rfl, bel10⟩; have BEL10 := hid bel10; clear bel10))
      all_goals
        go_wp2_with fail
        go_meet
        case rel => exact ⟨rfl, (Below.refl w7.heap.size w7).drew.trans (BEL9.out.trans (BEL10.out.mono BEL9.out.size))⟩
    case rest =>
      obtain ⟨rfl, bel⟩ := hcut
      replace bel := bel.out
      generalize wc = w8 at *
      have tw8 := bel.size
      replace PA := hid (PA.out.step bel (by omega))
      replace PB := hid (PB.out.step bel (by omega))
      replace OW := hid (OW.out.step bel)
      replace OX := hid (OX.out.step bel)
      replace PX := hid (PX.out.step bel (by omega))
      replace OY := hid (OY.out.step bel)
      replace PY := hid (PY.out.step bel (by omega))
      replace OG := hid (OG.out.step bel)
      replace BEL := hid (BEL.out.trans (bel.mono (by omega)))
      clear bel
      go_wp2_with fail
      go_cut [63] from 59 to 63 (fun v wx => v = .bool false ∧ Hid (Below w8.heap.size w8 wx))
      case first =>
        have RXd := hid OY.out.lists.drew
        have RA := hid (HL'.out.step BEL.out).drew
        obtain ⟨a0, a1, a2, a3⟩ := PB.out.drew
        obtain ⟨x0, x1, x2, x3⟩ := PY.out.drew
        have hzx : bY < w8.drew.heap.size := (show bY < w8.heap.size by omega)
        go_region_with (first | (go_at_call 19; refine (TP'.out _ RA.out).mono ?_; rintro e w9 ⟨k1, k2, rfl, N9i, N9b, N9l, N9k, bel⟩; have y0 := ((old_cell bel).1 _ 0 hzx).trans x0; have y1 := ((old_cell bel).1 _ 1 hzx).trans x1; have y2 := ((old_cell bel).1 _ 2 hzx).trans x2; have y3 := ((old_cell bel).1 _ 3 hzx).trans x3; have NN9 := hid (newP_own N9i N9b N9k).lists; have BEL9 := hid bel; clear N9i N9b N9l N9k bel) | (go_at_call 21; refine (EQX'.out _ _ _ _ _ _ _ _ _ (RXd.out.step BEL9.out) NN9.out).mono ?_; rintro e w10 ⟨rfl, bel10⟩; have BEL10 := hid bel10; clear bel10))
        all_goals
          go_wp2_with fail
          go_meet
          case rel => exact ⟨rfl, (Below.refl w8.heap.size w8).drew.trans (BEL9.out.trans (BEL10.out.mono BEL9.out.size))⟩
      case rest =>
        obtain ⟨rfl, bel⟩ := hcut
        replace bel := bel.out
        generalize wc = w9 at *
        have tw9 := bel.size
        replace PA := hid (PA.out.step bel (by omega))
        replace PB := hid (PB.out.step bel (by omega))
        replace OW := hid (OW.out.step bel)
        replace OX := hid (OX.out.step bel)
        replace PX := hid (PX.out.step bel (by omega))
        replace OY := hid (OY.out.step bel)
        replace PY := hid (PY.out.step bel (by omega))
        replace OG := hid (OG.out.step bel)
        replace BEL := hid (BEL.out.trans (bel.mono (by omega)))
        clear bel
        obtain ⟨PX0, PX1, PX2, PX3⟩ := PX.out
        go_wp2_with fail
        clear PX0 PX1 PX2 PX3
        have MX := markPlain2_calls S L (some ⟨h1, 0, none⟩) n n (some ⟨h2, 0, none⟩) m m xs bs 1 HF.out.n HF.out.m (by omega) w9 OX.out
        refine MX.mono ?_
        rintro e w10 ⟨rfl, _, kept⟩
        have t10 := kept.size
        clear MX
        clear OX
        clear PX
        replace PA := hid (PA.out.keep fun o => kept.cell (by omega) (fun r hr e => by have := RX.out r hr _ e.symm; omega) o)
        replace PB := hid (PB.out.keep fun o => kept.cell (by omega) (fun r hr e => by have := RX.out r hr _ e.symm; omega) o)
        replace PY := hid (PY.out.keep fun o => kept.cell (by omega) (fun r hr e => by have := RX.out r hr _ e.symm; omega) o)
        replace OW := hid (ownL_apart OW.out kept RW.out RX.out (.inl (by omega)))
        replace OY := hid (OY.out.apart kept RY.out RX.out (.inr (by omega)))
        replace OG := hid (ownL_apart OG.out kept RG.out RX.out (.inr (by omega)))
        replace BEL := hid (BEL.out.trans (kept.below (by omega) fun r hr g hg => by have := RX.out r hr g hg; omega))
        clear kept RX
        have nk : ¬ ((1 + n + m : Nat) : Int) < 0 := by omega
        have nkb : 1 + n + m ≤ 16777216 := by omega
        generalize 1 + n + m = kx at *
        obtain ⟨PY0, PY1, PY2, PY3⟩ := PY.out
        go_wp2_with fail
        clear PY0 PY1 PY2 PY3
        have MX := markPlain2_calls S' L' (some ⟨i1, 0, none⟩) n' n' (some ⟨i2, 0, none⟩) m' m' xs' bs' kx HF'.out.n HF'.out.m (by omega) w10 OY.out
        refine MX.mono ?_
        rintro e w11 ⟨rfl, _, kept⟩
        have t11 := kept.size
        clear MX
        clear OY PY
        replace PA := hid (PA.out.keep fun o => kept.cell (by omega) (fun r hr e => by have := RY.out r hr _ e.symm; omega) o)
        replace PB := hid (PB.out.keep fun o => kept.cell (by omega) (fun r hr e => by have := RY.out r hr _ e.symm; omega) o)
        replace OW := hid (ownL_apart OW.out kept RW.out RY.out (.inl (by omega)))
        replace OG := hid (ownL_apart OG.out kept RG.out RY.out (.inr (by omega)))
        replace BEL := hid (BEL.out.trans (kept.below (by omega) fun r hr g hg => by have := RY.out r hr g hg; omega))
        clear kept RY
        have nk2 : ¬ ((kx + n' + m' : Nat) : Int) < 0 := by omega
        generalize kx + n' + m' = kx2 at *
        go_wp2_with fail
        refine (EQG.out _ _ _ _ _ OG.out.rd OW.out.rd).mono ?_
        rintro e w12 ⟨rfl, bel⟩
        have t12 := bel.size
        replace PA := hid (PA.out.step bel (by omega))
        replace PB := hid (PB.out.step bel (by omega))
        replace OW := hid (OW.out.step bel)
        replace OG := hid (OG.out.step bel)
        replace BEL := hid (BEL.out.trans (bel.mono (by omega)))
        clear bel
        go_wp2_with fail
        have MG := markInt64S_calls A2 n1 c2 zs1 1 hn1 (by omega) w12 OG.out
        refine MG.mono ?_
        rintro e w13 ⟨rfl, OG2, kept, zk⟩
        have t13 := kept.size
        clear MG zk
        replace PA := hid (PA.out.keep fun o => kept.cell (by omega) (fun r hr e => by have := RG.out r hr _ e.symm; omega) o)
        replace PB := hid (PB.out.keep fun o => kept.cell (by omega) (fun r hr e => by have := RG.out r hr _ e.symm; omega) o)
        replace OW := hid (ownL_apart OW.out kept RW.out RG.out (.inl (by omega)))
        replace OG := hid OG2
        replace BEL := hid (BEL.out.trans (kept.below (by omega) fun r hr g hg => by have := RG.out r hr g hg; omega))
        clear kept OG2
        have nm : ¬ ((1 + n1 : Nat) : Int) < 0 := by omega
        have HELD := hid fun (w : World) (h : Rd w w.heap.size A2 (i64s (seqI 1 n1))) => held_list A2 n1 c2 1 hn1 (by omega) w h
        generalize seqI 1 n1 = ms1 at *
        generalize 1 + n1 = kg at *
        have kgg : ((kg : Int) != (kg : Int)) = false := bne_self_eq_false _
        go_wp2_with fail
        refine (HELD.out _ OG.out.rd).mono ?_
        rintro e w14 ⟨rfl, bel⟩
        have t14 := bel.size
        replace PA := hid (PA.out.step bel (by omega))
        replace PB := hid (PB.out.step bel (by omega))
        replace OW := hid (OW.out.step bel)
        replace OG := hid (OG.out.step bel)
        replace BEL := hid (BEL.out.trans (bel.mono (by omega)))
        clear bel
        go_wp2_with fail
        go_cut [15, 16] from 94 to 101 (fun v v' wx => ∃ (A3 : Option Addr) (c3 : Nat), v = .slice A3 n1 c3 ∧ v' = .bool ok ∧ Hid (OwnL wx 2 1 A3 n1 c3 zs1) ∧ Hid (Below w14.heap.size w14 wx))
        case first =>
          have RA := hid (HL.out.step BEL.out).drew
          have RB := hid (HL'.out.step BEL.out).drew
          have PAD := hid PA.out.drew
          have PBD := hid PB.out.drew
          obtain ⟨pa0, pa1, pa2, pa3⟩ := PAD.out; obtain ⟨pa4, pa5, pa6, pa7⟩ := PBD.out
          have hz0 : w.heap.size < w14.drew.heap.size := (show w.heap.size < w14.heap.size by omega)
          have hz1 : w.heap.size + 1 < w14.drew.heap.size := (show w.heap.size + 1 < w14.heap.size by omega)
          have KA := hid (show ∀ v', Below w14.drew.heap.size w14.drew v' → (v'.cell? ⟨w.heap.size, 0, none⟩ = some (.int .i64 S) ∧ v'.cell? ⟨w.heap.size, 1, none⟩ = some (.int .i64 L) ∧ v'.cell? ⟨w.heap.size, 2, none⟩ = some (.slice A n c) ∧ v'.cell? ⟨w.heap.size, 3, none⟩ = some (.slice B m d) ∧ v'.cell? ⟨w.heap.size + 1, 0, none⟩ = some (.int .i64 S') ∧ v'.cell? ⟨w.heap.size + 1, 1, none⟩ = some (.int .i64 L') ∧ v'.cell? ⟨w.heap.size + 1, 2, none⟩ = some (.slice A' n' c') ∧ v'.cell? ⟨w.heap.size + 1, 3, none⟩ = some (.slice B' m' d')) from fun v' hv => ⟨((old_cell hv).1 _ 0 hz0).trans pa0, ((old_cell hv).1 _ 1 hz0).trans pa1, ((old_cell hv).1 _ 2 hz0).trans pa2, ((old_cell hv).1 _ 3 hz0).trans pa3, ((old_cell hv).1 _ 0 hz1).trans pa4, ((old_cell hv).1 _ 1 hz1).trans pa5, ((old_cell hv).1 _ 2 hz1).trans pa6, ((old_cell hv).1 _ 3 hz1).trans pa7⟩)
          have HDZ := hid (show w14.drew.heap.size ≤ w14.heap.size from Nat.le_refl _)
          go_region_held3 (fun w' => w'.cell? ⟨w.heap.size, 0, none⟩ = some (.int .i64 S) ∧ w'.cell? ⟨w.heap.size, 1, none⟩ = some (.int .i64 L) ∧ w'.cell? ⟨w.heap.size, 2, none⟩ = some (.slice A n c) ∧ w'.cell? ⟨w.heap.size, 3, none⟩ = some (.slice B m d) ∧ w'.cell? ⟨w.heap.size + 1, 0, none⟩ = some (.int .i64 S') ∧ w'.cell? ⟨w.heap.size + 1, 1, none⟩ = some (.int .i64 L') ∧ w'.cell? ⟨w.heap.size + 1, 2, none⟩ = some (.slice A' n' c') ∧ w'.cell? ⟨w.heap.size + 1, 3, none⟩ = some (.slice B' m' d')) (first | with_reducible exact ⟨pa0, pa1, pa2, pa3, pa4, pa5, pa6, pa7⟩ | with_reducible exact ⟨pb0, pb1, pb2, pb3, pb4, pb5, pb6, pb7⟩ | with_reducible exact ⟨pc0, pc1, pc2, pc3, pc4, pc5, pc6, pc7⟩ | with_reducible exact ⟨pd0, pd1, pd2, pd3, pd4, pd5, pd6, pd7⟩ | fail) (first | (go_at_call_of 19 c; refine (TP.out _ RA.out).mono ?_; rintro e v3 ⟨g1, g2, rfl, N1i, N1b, N1l, N1k, bel3⟩; skip; (try have zl3 := ZZ3.out.2.2); skip; have u3 := bel3.size; have PA3 := hid (PAD.out.step bel3 hz0); have PB3 := hid (PBD.out.step bel3 hz1); obtain ⟨pb0, pb1, pb2, pb3⟩ := PA3.out; obtain ⟨pb4, pb5, pb6, pb7⟩ := PB3.out; have BD3 := hid bel3; have NN3 := hid (newP_own N1i N1b N1k); have BEL3 := hid bel3; clear N1i N1b N1l N1k bel3) | (go_at_call_of 19 c'; refine (TP'.out _ (RB.out.step BEL3.out)).mono ?_; rintro e v4 ⟨h1, h2, rfl, N2i, N2b, N2l, N2k, bel4⟩; skip; (try have zl4 := ZZ4.out.2.2); skip; have u4 := bel4.size; have x0 : w.heap.size < v3.heap.size := (by omega); have x1 : w.heap.size + 1 < v3.heap.size := (by omega); have PA4 := hid (PA3.out.step bel4 x0); have PB4 := hid (PB3.out.step bel4 x1); obtain ⟨pc0, pc1, pc2, pc3⟩ := PA4.out; obtain ⟨pc4, pc5, pc6, pc7⟩ := PB4.out; have BD4 := hid (BD3.out.trans (bel4.mono u3)); have lz4 := Nat.le_trans u3 u4; have NN4 := hid (newP_own N2i N2b N2k); have BEL4 := hid bel4; clear N2i N2b N2l N2k bel4) | (go_at_call 33; refine (IMPL.out _ _ _ _ _ _ _ _ _ (NN3.out.step BEL4.out).lists NN4.out.lists).mono ?_; rintro e v5 ⟨A3, c3, rfl, ow5, rw5, bel5⟩; skip; skip; skip; have u5 := bel5.size; have BD5 := hid (BD4.out.trans (bel5.mono lz4)); have lz5 := Nat.le_trans lz4 u5; have x2 : w.heap.size < v4.heap.size := (by omega); have x3 : w.heap.size + 1 < v4.heap.size := (by omega); have PA5 := hid (PA4.out.step bel5 x2); have PB5 := hid (PB4.out.step bel5 x3); obtain ⟨pd0, pd1, pd2, pd3⟩ := PA5.out; obtain ⟨pd4, pd5, pd6, pd7⟩ := PB5.out; have OW5 := hid ow5; have RW5 := hid rw5; have BEL5 := hid bel5; clear ow5 rw5 bel5))
          all_goals
            go_wp2_with fail
            have hdd : w14.heap.size ≤ w14.drew.heap.size := Nat.le_refl _
            have BF := hid (((Below.refl w14.heap.size w14).drew.trans (BEL3.out.mono hdd)).trans ((BEL4.out.mono (by omega)).trans (BEL5.out.mono (by omega))))
            go_meet
            case rel => exact ⟨A3, c3, rfl, rfl, OW5, BF⟩
        case rest =>
          obtain ⟨A3, c3, rfl, rfl, OH, bel⟩ := hcut
          replace bel := bel.out
          generalize wc = w15 at *
          have t15 := bel.size
          replace PA := hid (PA.out.step bel (by omega))
          replace PB := hid (PB.out.step bel (by omega))
          replace OW := hid (OW.out.step bel)
          replace OG := hid (OG.out.step bel)
          replace BEL := hid (BEL.out.trans (bel.mono (by omega)))
          clear bel
          go_wp2_with fail
          refine (EQG.out _ _ _ _ _ OH.out.rd OW.out.rd).mono ?_
          rintro e w16 ⟨rfl, bel⟩
          have t16 := bel.size
          replace PA := hid (PA.out.step bel (by omega))
          replace PB := hid (PB.out.step bel (by omega))
          replace OW := hid (OW.out.step bel)
          replace OG := hid (OG.out.step bel)
          replace OH := hid (OH.out.step bel)
          replace BEL := hid (BEL.out.trans (bel.mono (by omega)))
          clear bel
          go_wp2_with fail
          refine (HELD.out _ OG.out.rd).mono ?_
          rintro e w17 ⟨rfl, bel⟩
          have t17 := bel.size
          replace BEL := hid (BEL.out.trans (bel.mono (by omega)))
          clear bel
          go_wp2_with fail
          go_ret
          exact ⟨rfl, BEL.out⟩
end Go.Proofs.Ytlfmcdobiojdlaa.fnExactApartWord
