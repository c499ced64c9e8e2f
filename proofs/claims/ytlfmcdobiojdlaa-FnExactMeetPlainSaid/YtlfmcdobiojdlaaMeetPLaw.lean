/-
  The law on MeetPlain, its walk over the contracts of both texts.
-/
import Derived.Test.YtlfmcdobiojdlaaMark2P
import Derived.Test.YtlfmcdobiojdlaaMark2P
import Derived.Deep.RegionWith
import Derived.Deep.RegionHeld3
import Derived.Deep.CutRange
namespace Go.Proofs.Ytlfmcdobiojdlaa.fnExactMeetPlain
open Go.RowKit Go.Proofs.Fl Go.Proofs.Ytlfmcdobiojdlaa.Num
set_option linter.unusedVariables false
set_option linter.unusedSimpArgs false
/-- returned a plain machine with lists of its own, and whether there is one -/
def RetBP (S L : Int) (n m : Nat) (xs : List Int) (bs : List Bool) (ok : Bool) (w : World) (e : Ending) (w' : World) : Prop :=
  ∃ A c B d, e = .returned (.tuple #[.agg #[.int .i64 S, .int .i64 L, .slice A n c, .slice B m d], .bool ok]) ∧ OwnP w' A n c B m d xs bs ∧ Within w.heap.size w'.heap.size (rowsP n A m B) ∧ Below w.heap.size w w'
/-- a block that has just been made, with nothing in it -/
def ZeroAt (w : World) (b : Nat) : Prop := PlainAt w b 0 0 none 0 0 none 0 0 ∧ (∀ o, w.frozen? ⟨b, o, none⟩ = false) ∧ b < w.heap.size
theorem zero_step {w w' : World} {b : Nat} (h : ZeroAt w b) (hb : Below w.heap.size w w') : ZeroAt w' b := ⟨h.1.step hb h.2.2, fun o => ((old_cell hb).2 b o h.2.2).trans (h.2.1 o), Nat.lt_of_lt_of_le h.2.2 hb.size⟩
theorem zero_alloc (w : World) {w' : World} (hb : Below (w.alloc (.cells #[.int .i64 0, .int .i64 0, .slice none 0 0, .slice none 0 0] 31)).heap.size (w.alloc (.cells #[.int .i64 0, .int .i64 0, .slice none 0 0, .slice none 0 0] 31)) w') : ZeroAt w' w.heap.size :=
  zero_step (w := w.alloc (.cells #[.int .i64 0, .int .i64 0, .slice none 0 0, .slice none 0 0] 31)) ⟨⟨by go_simp, by go_simp, by go_simp, by go_simp⟩, fun o => by go_simp, by simp⟩ hb
theorem zero_bel (w : World) {w' : World} (hb : Below (w.alloc (.cells #[.int .i64 0, .int .i64 0, .slice none 0 0, .slice none 0 0] 31)).heap.size (w.alloc (.cells #[.int .i64 0, .int .i64 0, .slice none 0 0, .slice none 0 0] 31)) w') : Below w.heap.size w w' := ((Below.refl w.heap.size w).alloc (Nat.le_refl _) _).trans (hb.mono (by simp))
theorem zero_allocD (w : World) {w' : World} (hb : Below (w.alloc (.cells #[.int .i64 0, .int .i64 0, .slice none 0 0, .slice none 0 0] 31)).drew.heap.size (w.alloc (.cells #[.int .i64 0, .int .i64 0, .slice none 0 0, .slice none 0 0] 31)).drew w') : ZeroAt w' w.heap.size := zero_alloc w.drew hb
theorem zero_belD (w : World) {w' : World} (hb : Below (w.alloc (.cells #[.int .i64 0, .int .i64 0, .slice none 0 0, .slice none 0 0] 31)).drew.heap.size (w.alloc (.cells #[.int .i64 0, .int .i64 0, .slice none 0 0, .slice none 0 0] 31)).drew w') : Below w.drew.heap.size w.drew w' := zero_bel w.drew hb
theorem bel_ad (w : World) (o : Obj) : Below w.drew.heap.size w.drew (w.alloc o).drew := (Below.refl w.drew.heap.size w.drew).alloc (Nat.le_refl _) o
theorem own_setb {w : World} {lo hi : Nat} {A : Option Addr} {n c : Nat} {B : Option Addr} {m d : Nat} {xs : List Int} {bs : List Bool} (h : OwnP w A n c B m d xs bs) (hw : Within lo hi (rowsP n A m B)) {p : Addr} (hp : p.block < lo) (u : Value) : OwnP (w.setCell p u) A n c B m d xs bs :=
  h.apart ((Kept.refl w [some p.block]).set (by simp) u) hw (lo' := p.block) (hi' := p.block + 1) (fun r hr g hg => by simp at hr; subst hr; simp at hg; omega) (.inr (by omega))
set_option maxHeartbeats 25600000 in
theorem walk (S L : Int) (A : Option Addr) (n c : Nat) (B : Option Addr) (m d : Nat) (xs : List Int) (bs : List Bool) (hF : FitsP n m xs bs) (S' L' : Int) (A' : Option Addr) (n' c' : Nat) (B' : Option Addr) (m' d' : Nat) (xs' : List Int) (bs' : List Bool) (hF' : FitsP n' m' xs' bs') (hnl : ¬ leftP n m 1048576 < 0) (hnl' : ¬ leftP n' m' (leftP n m 1048576) < 0) (hlr : 0 ≤ leftP n m 1048576 ∧ leftP n m 1048576 ≤ 1048576) {w : World} (hl : ListsP w A B xs bs) (hl' : ListsP w A' B' xs' bs')
    (S1 L1 : Int) (n1 m1 : Nat) (xs1 : List Int) (bs1 : List Bool) (ok : Bool) (hF1 : FitsP n1 m1 xs1 bs1)
    (SP : ∀ (A : Option Addr) (c : Nat) (B : Option Addr) (d : Nat) (A' : Option Addr) (c' : Nat) (B' : Option Addr) (d' : Nat) (w : World), ListsP w A B xs bs → ListsP w A' B' xs' bs' → Calls Try.prog 38 #[.agg #[.int .i64 S, .int .i64 L, .slice A n c, .slice B m d], .agg #[.int .i64 S', .int .i64 L', .slice A' n' c', .slice B' m' d']] w (RetBP S1 L1 n1 m1 xs1 bs1 ok w))
    (IM : ∀ (A : Option Addr) (c : Nat) (B : Option Addr) (d : Nat) (A' : Option Addr) (c' : Nat) (B' : Option Addr) (d' : Nat) (w : World), ListsP w A B xs bs → ListsP w A' B' xs' bs' → Calls Try.prog 39 #[.agg #[.int .i64 S, .int .i64 L, .slice A n c, .slice B m d], .agg #[.int .i64 S', .int .i64 L', .slice A' n' c', .slice B' m' d']] w (RetBP S1 L1 n1 m1 xs1 bs1 ok w)) :
    Calls Try.prog 11 #[.agg #[.int .i64 S, .int .i64 L, .slice A n c, .slice B m d], .agg #[.int .i64 S', .int .i64 L', .slice A' n' c', .slice B' m' d']] w fun e w' => e = .returned (.bool true) ∧ Below w.heap.size w w' := by
  have HL := hid hl
  have HL' := hid hl'
  have HF := hid hF
  have HF' := hid hF'
  have SPEC := hid SP
  have IMPL := hid IM
  have hb1 := hF.n
  have hb2 := hF.m
  have hb1' := hF'.n
  have hb2' := hF'.m
  have HF1 := hid hF1
  have hc1 := hF1.n
  have hc2 := hF1.m
  have HS := hid (szPlain_calls S L A n c B m d 1048576 (by omega) (by omega) (by omega))
  generalize leftP n m 1048576 = l at *
  have HS2 := hid (szPlain_calls S' L' A' n' c' B' m' d' l (by omega) (by omega) (by omega))
  generalize leftP n' m' l = l2 at *
  have TP := hid (fun (w : World) (hl : ListsP w A B xs bs) => toP S L A n c B m d xs bs HF.out.x HF.out.b HF.out.n HF.out.m w hl.a hl.b)
  have TP' := hid (fun (w : World) (hl : ListsP w A' B' xs' bs') => toP S' L' A' n' c' B' m' d' xs' bs' HF'.out.x HF'.out.b HF'.out.n HF'.out.m w hl.a hl.b)
  have EQX := hid (fun (A9 : Option Addr) (c9 : Nat) (B9 : Option Addr) (d9 : Nat) (A : Option Addr) (c : Nat) (B : Option Addr) (d : Nat) => eqP S L A n c B m d A9 c9 B9 d9 xs bs hF)
  have EQX' := hid (fun (A9 : Option Addr) (c9 : Nat) (B9 : Option Addr) (d9 : Nat) (A : Option Addr) (c : Nat) (B : Option Addr) (d : Nat) => eqP S' L' A n' c B m' d A9 c9 B9 d9 xs' bs' hF')
  have EQG := hid (fun (A9 : Option Addr) (c9 : Nat) (B9 : Option Addr) (d9 : Nat) (A : Option Addr) (c : Nat) (B : Option Addr) (d : Nat) => eqP S1 L1 A n1 c B m1 d A9 c9 B9 d9 xs1 bs1 hF1)
  have okk : (ok != ok) = false := bne_self_eq_false _
  clear hl hl' hF hF' SP IM hlr hF1
  go_enter Try.func11, Try.ntmps11
  go_wp2_with fail
  refine (HS.out _).mono ?_
  rintro e w1 ⟨rfl, bel1⟩
  have hc := (old_cell bel1).1
  have s1 : w.heap.size + 2 ≤ w1.heap.size := by have := bel1.size; simp at this; omega
  have BEL := hid ((((Below.refl w.heap.size w).alloc (Nat.le_refl _) _).alloc (by simp) _).trans (bel1.mono (by simp; omega)))
  have PA := hid (show PlainAt w1 w.heap.size S L A n c B m d from ⟨by rw [hc _ _ (by simp; omega)]; go_simp, by rw [hc _ _ (by simp; omega)]; go_simp, by rw [hc _ _ (by simp; omega)]; go_simp, by rw [hc _ _ (by simp; omega)]; go_simp⟩)
  have PB := hid (show PlainAt w1 (w.heap.size + 1) S' L' A' n' c' B' m' d' from ⟨by rw [hc _ _ (by simp)]; go_simp, by rw [hc _ _ (by simp)]; go_simp, by rw [hc _ _ (by simp)]; go_simp, by rw [hc _ _ (by simp)]; go_simp⟩)
  clear hc bel1 HS
  obtain ⟨PB0, PB1, PB2, PB3⟩ := PB.out
  go_wp2_with fail
  refine (HS2.out _).mono ?_
  rintro e w2 ⟨rfl, bel⟩
  have t2 := bel.size
  clear PB0 PB1 PB2 PB3
  replace PA := hid (PA.out.step bel (by omega))
  replace PB := hid (PB.out.step bel (by omega))
  replace BEL := hid (BEL.out.trans (bel.mono (by omega)))
  clear bel HS2
  go_wp2_with fail
  go_cut [6, 7] from 27 to 34 (fun v v' wx => ∃ (bw : Nat) (A1 : Option Addr) (c1 : Nat) (B1 : Option Addr) (d1 : Nat), v = .pointer (some ⟨bw, 0, none⟩) ∧ v' = .bool ok ∧ w2.heap.size ≤ bw ∧ bw < wx.heap.size ∧ Hid (PlainAt wx bw S1 L1 A1 n1 c1 B1 m1 d1) ∧ Hid (OwnP wx A1 n1 c1 B1 m1 d1 xs1 bs1) ∧ Hid (Within w2.heap.size wx.heap.size (rowsP n1 A1 m1 B1)) ∧ Hid (Below w2.heap.size w2 wx))
  case first =>
    have RA := hid (HL.out.step BEL.out).drew
    have RB := hid (HL'.out.step BEL.out).drew
    have PAD := hid PA.out.drew
    have PBD := hid PB.out.drew
    obtain ⟨pa0, pa1, pa2, pa3⟩ := PAD.out; obtain ⟨pa4, pa5, pa6, pa7⟩ := PBD.out
    have hz0 : w.heap.size < w2.drew.heap.size := (show w.heap.size < w2.heap.size by omega)
    have hz1 : w.heap.size + 1 < w2.drew.heap.size := (show w.heap.size + 1 < w2.heap.size by omega)
    have KA := hid (show ∀ v', Below w2.drew.heap.size w2.drew v' → (v'.cell? ⟨w.heap.size, 0, none⟩ = some (.int .i64 S) ∧ v'.cell? ⟨w.heap.size, 1, none⟩ = some (.int .i64 L) ∧ v'.cell? ⟨w.heap.size, 2, none⟩ = some (.slice A n c) ∧ v'.cell? ⟨w.heap.size, 3, none⟩ = some (.slice B m d) ∧ v'.cell? ⟨w.heap.size + 1, 0, none⟩ = some (.int .i64 S') ∧ v'.cell? ⟨w.heap.size + 1, 1, none⟩ = some (.int .i64 L') ∧ v'.cell? ⟨w.heap.size + 1, 2, none⟩ = some (.slice A' n' c') ∧ v'.cell? ⟨w.heap.size + 1, 3, none⟩ = some (.slice B' m' d')) from fun v' hv => ⟨((old_cell hv).1 _ 0 hz0).trans pa0, ((old_cell hv).1 _ 1 hz0).trans pa1, ((old_cell hv).1 _ 2 hz0).trans pa2, ((old_cell hv).1 _ 3 hz0).trans pa3, ((old_cell hv).1 _ 0 hz1).trans pa4, ((old_cell hv).1 _ 1 hz1).trans pa5, ((old_cell hv).1 _ 2 hz1).trans pa6, ((old_cell hv).1 _ 3 hz1).trans pa7⟩)
    have HDZ := hid (show w2.drew.heap.size ≤ w2.heap.size from Nat.le_refl _)
    go_region_held3 (fun w' => w'.cell? ⟨w.heap.size, 0, none⟩ = some (.int .i64 S) ∧ w'.cell? ⟨w.heap.size, 1, none⟩ = some (.int .i64 L) ∧ w'.cell? ⟨w.heap.size, 2, none⟩ = some (.slice A n c) ∧ w'.cell? ⟨w.heap.size, 3, none⟩ = some (.slice B m d) ∧ w'.cell? ⟨w.heap.size + 1, 0, none⟩ = some (.int .i64 S') ∧ w'.cell? ⟨w.heap.size + 1, 1, none⟩ = some (.int .i64 L') ∧ w'.cell? ⟨w.heap.size + 1, 2, none⟩ = some (.slice A' n' c') ∧ w'.cell? ⟨w.heap.size + 1, 3, none⟩ = some (.slice B' m' d')) (first | with_reducible exact ⟨pa0, pa1, pa2, pa3, pa4, pa5, pa6, pa7⟩ | with_reducible exact ⟨pb0, pb1, pb2, pb3, pb4, pb5, pb6, pb7⟩ | with_reducible exact ⟨pc0, pc1, pc2, pc3, pc4, pc5, pc6, pc7⟩ | with_reducible exact ⟨pd0, pd1, pd2, pd3, pd4, pd5, pd6, pd7⟩ | with_reducible exact KA.out _ (BD5.out.alloc (by omega) _) | with_reducible exact KA.out _ (BD4.out.alloc (by omega) _) | with_reducible exact KA.out _ (BD3.out.alloc (by omega) _) | with_reducible exact KA.out _ (bel_ad _ _) | (with_reducible refine KA.out _ ?_; repeat (first | with_reducible exact BD5.out | with_reducible exact BD5.out.alloc (by omega) _ | with_reducible refine Below.setCell ?_ (by first | exact HDZ.out | exact u3 | exact lz4 | exact lz5) _)) | fail) (first | (go_at_call_of 19 c; refine (TP.out _ (by first | with_reducible exact RA.out | with_reducible exact RA.out.step (bel_ad _ _))).mono ?_; rintro e v3 ⟨g1, g2, rfl, N1i, N1b, N1l, N1k, bel3⟩; (try (with_reducible have ZZ3 := hid (zero_allocD w2 bel3))); (try have zl3 := ZZ3.out.2.2); have bel3 := (show Below w2.drew.heap.size w2.drew v3 by first | with_reducible exact bel3 | with_reducible exact zero_belD _ bel3); have u3 := bel3.size; have PA3 := hid (PAD.out.step bel3 hz0); have PB3 := hid (PBD.out.step bel3 hz1); obtain ⟨pb0, pb1, pb2, pb3⟩ := PA3.out; obtain ⟨pb4, pb5, pb6, pb7⟩ := PB3.out; have BD3 := hid bel3; have NN3 := hid (newP_own N1i N1b N1k); have BEL3 := hid bel3; clear N1i N1b N1l N1k bel3) | (go_at_call_of 19 c'; refine (TP'.out _ (by first | with_reducible exact (RB.out.step BEL3.out) | with_reducible exact (RB.out.step BEL3.out).step ((Below.refl _ _).alloc (Nat.le_refl _) _))).mono ?_; rintro e v4 ⟨h1, h2, rfl, N2i, N2b, N2l, N2k, bel4⟩; (first | (with_reducible have ZZ4 := hid (zero_step ZZ3.out bel4)) | (with_reducible have ZZ4 := hid (zero_alloc v3 bel4)) | skip); (try have zl4 := ZZ4.out.2.2); have bel4 := (show Below v3.heap.size v3 v4 by first | with_reducible exact bel4 | with_reducible exact zero_bel _ bel4); have u4 := bel4.size; have x0 : w.heap.size < v3.heap.size := (by omega); have x1 : w.heap.size + 1 < v3.heap.size := (by omega); have PA4 := hid (PA3.out.step bel4 x0); have PB4 := hid (PB3.out.step bel4 x1); obtain ⟨pc0, pc1, pc2, pc3⟩ := PA4.out; obtain ⟨pc4, pc5, pc6, pc7⟩ := PB4.out; have BD4 := hid (BD3.out.trans (bel4.mono u3)); have lz4 := Nat.le_trans u3 u4; have NN4 := hid (newP_own N2i N2b N2k); have BEL4 := hid bel4; clear N2i N2b N2l N2k bel4) | (go_at_call 38; refine (SPEC.out _ _ _ _ _ _ _ _ _ (by first | with_reducible exact (NN3.out.step BEL4.out).lists | with_reducible exact (NN3.out.step BEL4.out).lists.step ((Below.refl _ _).alloc (Nat.le_refl _) _)) (by first | with_reducible exact NN4.out.lists | with_reducible exact NN4.out.lists.step ((Below.refl _ _).alloc (Nat.le_refl _) _))).mono ?_; rintro e v5 ⟨A1, c1, B1, d1, rfl, ow5, rw5, bel5⟩; (first | (with_reducible have ZZ5 := hid (zero_step ZZ4.out bel5)) | (with_reducible have ZZ5 := hid (zero_alloc v4 bel5)) | skip); have bel5 := (show Below v4.heap.size v4 v5 by first | with_reducible exact bel5 | with_reducible exact zero_bel _ bel5); (try (obtain ⟨⟨k0, k1, k2, k3⟩, fz, zl⟩ := ZZ5.out; have j0 := fz 0; have j1 := fz 1; have j2 := fz 2; have j3 := fz 3; clear fz)); have u5 := bel5.size; have BD5 := hid (BD4.out.trans (bel5.mono lz4)); have lz5 := Nat.le_trans lz4 u5; have x2 : w.heap.size < v4.heap.size := (by omega); have x3 : w.heap.size + 1 < v4.heap.size := (by omega); have PA5 := hid (PA4.out.step bel5 x2); have PB5 := hid (PB4.out.step bel5 x3); obtain ⟨pd0, pd1, pd2, pd3⟩ := PA5.out; obtain ⟨pd4, pd5, pd6, pd7⟩ := PB5.out; have OW5 := hid ow5; have RW5 := hid rw5; have BEL5 := hid bel5; clear ow5 rw5 bel5))
    all_goals
      go_wp2_with fail
      have hdd : w2.heap.size ≤ w2.drew.heap.size := Nat.le_refl _
      have BF := hid (((Below.refl w2.heap.size w2).drew.trans (BEL3.out.mono hdd)).trans ((BEL4.out.mono (by omega)).trans (BEL5.out.mono (by omega))))
      go_meet
      case rel => first | exact ⟨_, A1, c1, B1, d1, rfl, rfl, (by first | omega | (simp; omega) | simp), (by first | omega | (simp; omega) | simp), ⟨by go_simp, by go_simp, by go_simp, by go_simp⟩, (own_setb (own_setb (own_setb (own_setb OW5.out RW5.out (by first | omega | (simp; omega) | simp) _) RW5.out (by first | omega | (simp; omega) | simp) _) RW5.out (by first | omega | (simp; omega) | simp) _) RW5.out (by first | omega | (simp; omega) | simp) _), RW5.out.mono (by first | omega | (simp; omega)) (by simp), ((((BF.out.setCell (by first | omega | (simp; omega) | simp) _).setCell (by first | omega | (simp; omega) | simp) _).setCell (by first | omega | (simp; omega) | simp) _).setCell (by first | omega | (simp; omega) | simp) _)⟩ | exact ⟨v5.heap.size, A1, c1, B1, d1, rfl, rfl, by omega, by simp, ⟨by go_simp, by go_simp, by go_simp, by go_simp⟩, OW5.out.step ((Below.refl _ _).alloc (Nat.le_refl _) _), RW5.out.mono (by first | omega | (simp; omega)) (by simp), BF.out.alloc (by omega) _⟩
  case rest =>
    obtain ⟨bw, A1, c1, B1, d1, rfl, rfl, hbw1, hbw2, PW, OW, RW, bel⟩ := hcut
    replace bel := bel.out
    generalize wc = w3 at *
    have t3 := bel.size
    replace PA := hid (PA.out.step bel (by omega))
    replace PB := hid (PB.out.step bel (by omega))
    replace BEL := hid (BEL.out.trans (bel.mono (by omega)))
    clear bel
    obtain ⟨PA0, PA1, PA2, PA3⟩ := PA.out
    go_wp2_with fail
    clear PA0 PA1 PA2 PA3
    refine (TP.out _ (HL.out.step BEL.out)).mono ?_
    rintro e w4 ⟨h1, h2, rfl, N2i, N2b, N2l, N2k, bel⟩
    have tw4 := bel.size
    have RX := hid (newP_rows N2i N2b N2k N2l)
    replace PA := hid (PA.out.step bel (by omega))
    replace PB := hid (PB.out.step bel (by omega))
    replace PW := hid (PW.out.step bel (by omega))
    replace OW := hid (OW.out.step bel)
    replace BEL := hid (BEL.out.trans (bel.mono (by omega)))
    have OX := hid (newP_own N2i N2b N2k)
    clear N2i N2b N2l N2k bel
    have new40 : ¬ w.heap.size = w4.heap.size := by omega
    have ltw40 : w.heap.size < w4.heap.size := by omega
    have new41 : ¬ w.heap.size + 1 = w4.heap.size := by omega
    have ltw41 : w.heap.size + 1 < w4.heap.size := by omega
    obtain ⟨PB0, PB1, PB2, PB3⟩ := PB.out
    go_upto_region 10 with (fail)
    clear PB0 PB1 PB2 PB3
    have PX := hid (show PlainAt (w4.alloc (.cells #[.int .i64 S, .int .i64 L, .slice (some ⟨h1, 0, none⟩) n n, .slice (some ⟨h2, 0, none⟩) m m] 31)) w4.heap.size S L (some ⟨h1, 0, none⟩) n n (some ⟨h2, 0, none⟩) m m from ⟨by go_simp, by go_simp, by go_simp, by go_simp⟩)
    replace PA := hid (show PlainAt (w4.alloc (.cells #[.int .i64 S, .int .i64 L, .slice (some ⟨h1, 0, none⟩) n n, .slice (some ⟨h2, 0, none⟩) m m] 31)) _ _ _ _ _ _ _ _ _ from PA.out.step ((Below.refl _ _).alloc (Nat.le_refl _) _) (by omega))
    replace PB := hid (show PlainAt (w4.alloc (.cells #[.int .i64 S, .int .i64 L, .slice (some ⟨h1, 0, none⟩) n n, .slice (some ⟨h2, 0, none⟩) m m] 31)) _ _ _ _ _ _ _ _ _ from PB.out.step ((Below.refl _ _).alloc (Nat.le_refl _) _) (by omega))
    replace PW := hid (show PlainAt (w4.alloc (.cells #[.int .i64 S, .int .i64 L, .slice (some ⟨h1, 0, none⟩) n n, .slice (some ⟨h2, 0, none⟩) m m] 31)) _ _ _ _ _ _ _ _ _ from PW.out.step ((Below.refl _ _).alloc (Nat.le_refl _) _) (by omega))
    replace OW := hid (OW.out.step ((Below.refl w4.heap.size w4).alloc (Nat.le_refl _) (.cells #[.int .i64 S, .int .i64 L, .slice (some ⟨h1, 0, none⟩) n n, .slice (some ⟨h2, 0, none⟩) m m] 31)))
    replace OX := hid (OX.out.step ((Below.refl w4.heap.size w4).alloc (Nat.le_refl _) (.cells #[.int .i64 S, .int .i64 L, .slice (some ⟨h1, 0, none⟩) n n, .slice (some ⟨h2, 0, none⟩) m m] 31)))
    replace BEL := hid (BEL.out.alloc (by omega) (.cells #[.int .i64 S, .int .i64 L, .slice (some ⟨h1, 0, none⟩) n n, .slice (some ⟨h2, 0, none⟩) m m] 31))
    have sv1 : (w4.alloc (.cells #[.int .i64 S, .int .i64 L, .slice (some ⟨h1, 0, none⟩) n n, .slice (some ⟨h2, 0, none⟩) m m] 31)).heap.size = w4.heap.size + 1 := by simp
    generalize w4.alloc (.cells #[.int .i64 S, .int .i64 L, .slice (some ⟨h1, 0, none⟩) n n, .slice (some ⟨h2, 0, none⟩) m m] 31) = v1 at *
    generalize hgenbx : w4.heap.size = bx at *
    obtain ⟨PB0, PB1, PB2, PB3⟩ := PB.out
    go_wp2_with fail
    clear PB0 PB1 PB2 PB3
    refine (TP'.out _ (HL'.out.step BEL.out)).mono ?_
    rintro e w5 ⟨i1, i2, rfl, N2i, N2b, N2l, N2k, bel⟩
    have tw5 := bel.size
    have RY := hid (newP_rows N2i N2b N2k N2l)
    replace PA := hid (PA.out.step bel (by omega))
    replace PB := hid (PB.out.step bel (by omega))
    replace PW := hid (PW.out.step bel (by omega))
    replace OW := hid (OW.out.step bel)
    replace OX := hid (OX.out.step bel)
    replace PX := hid (PX.out.step bel (by omega))
    replace BEL := hid (BEL.out.trans (bel.mono (by omega)))
    have OY := hid (newP_own N2i N2b N2k)
    clear N2i N2b N2l N2k bel
    have new50 : ¬ w.heap.size = w5.heap.size := by omega
    have ltw50 : w.heap.size < w5.heap.size := by omega
    have new51 : ¬ w.heap.size + 1 = w5.heap.size := by omega
    have ltw51 : w.heap.size + 1 < w5.heap.size := by omega
    have new52 : ¬ bx = w5.heap.size := by omega
    have ltw52 : bx < w5.heap.size := by omega
    obtain ⟨PX0, PX1, PX2, PX3⟩ := PX.out
    go_upto_region 11 with (fail)
    clear PX0 PX1 PX2 PX3
    have PY := hid (show PlainAt (w5.alloc (.cells #[.int .i64 S', .int .i64 L', .slice (some ⟨i1, 0, none⟩) n' n', .slice (some ⟨i2, 0, none⟩) m' m'] 31)) w5.heap.size S' L' (some ⟨i1, 0, none⟩) n' n' (some ⟨i2, 0, none⟩) m' m' from ⟨by go_simp, by go_simp, by go_simp, by go_simp⟩)
    replace PA := hid (show PlainAt (w5.alloc (.cells #[.int .i64 S', .int .i64 L', .slice (some ⟨i1, 0, none⟩) n' n', .slice (some ⟨i2, 0, none⟩) m' m'] 31)) _ _ _ _ _ _ _ _ _ from PA.out.step ((Below.refl _ _).alloc (Nat.le_refl _) _) (by omega))
    replace PB := hid (show PlainAt (w5.alloc (.cells #[.int .i64 S', .int .i64 L', .slice (some ⟨i1, 0, none⟩) n' n', .slice (some ⟨i2, 0, none⟩) m' m'] 31)) _ _ _ _ _ _ _ _ _ from PB.out.step ((Below.refl _ _).alloc (Nat.le_refl _) _) (by omega))
    replace PW := hid (show PlainAt (w5.alloc (.cells #[.int .i64 S', .int .i64 L', .slice (some ⟨i1, 0, none⟩) n' n', .slice (some ⟨i2, 0, none⟩) m' m'] 31)) _ _ _ _ _ _ _ _ _ from PW.out.step ((Below.refl _ _).alloc (Nat.le_refl _) _) (by omega))
    replace OW := hid (OW.out.step ((Below.refl w5.heap.size w5).alloc (Nat.le_refl _) (.cells #[.int .i64 S', .int .i64 L', .slice (some ⟨i1, 0, none⟩) n' n', .slice (some ⟨i2, 0, none⟩) m' m'] 31)))
    replace OX := hid (OX.out.step ((Below.refl w5.heap.size w5).alloc (Nat.le_refl _) (.cells #[.int .i64 S', .int .i64 L', .slice (some ⟨i1, 0, none⟩) n' n', .slice (some ⟨i2, 0, none⟩) m' m'] 31)))
    replace PX := hid (show PlainAt (w5.alloc (.cells #[.int .i64 S', .int .i64 L', .slice (some ⟨i1, 0, none⟩) n' n', .slice (some ⟨i2, 0, none⟩) m' m'] 31)) _ _ _ _ _ _ _ _ _ from PX.out.step ((Below.refl _ _).alloc (Nat.le_refl _) _) (by omega))
    replace OY := hid (OY.out.step ((Below.refl w5.heap.size w5).alloc (Nat.le_refl _) (.cells #[.int .i64 S', .int .i64 L', .slice (some ⟨i1, 0, none⟩) n' n', .slice (some ⟨i2, 0, none⟩) m' m'] 31)))
    replace BEL := hid (BEL.out.alloc (by omega) (.cells #[.int .i64 S', .int .i64 L', .slice (some ⟨i1, 0, none⟩) n' n', .slice (some ⟨i2, 0, none⟩) m' m'] 31))
    have sv2 : (w5.alloc (.cells #[.int .i64 S', .int .i64 L', .slice (some ⟨i1, 0, none⟩) n' n', .slice (some ⟨i2, 0, none⟩) m' m'] 31)).heap.size = w5.heap.size + 1 := by simp
    generalize w5.alloc (.cells #[.int .i64 S', .int .i64 L', .slice (some ⟨i1, 0, none⟩) n' n', .slice (some ⟨i2, 0, none⟩) m' m'] 31) = v2 at *
    generalize hgenbY : w5.heap.size = bY at *
    obtain ⟨PX0, PX1, PX2, PX3⟩ := PX.out
    obtain ⟨PY0, PY1, PY2, PY3⟩ := PY.out
    go_wp2_with fail
    clear PX0 PX1 PX2 PX3 PY0 PY1 PY2 PY3
    refine (IMPL.out _ _ _ _ _ _ _ _ _ OX.out.lists OY.out.lists).mono ?_
    rintro e w6 ⟨A2, c2, B2, d2, rfl, OG, RG, bel⟩
    have t6 := bel.size
    replace OG := hid OG
    replace RG := hid RG
    replace PA := hid (PA.out.step bel (by omega))
    replace PB := hid (PB.out.step bel (by omega))
    replace PW := hid (PW.out.step bel (by omega))
    replace OW := hid (OW.out.step bel)
    replace OX := hid (OX.out.step bel)
    replace PX := hid (PX.out.step bel (by omega))
    replace OY := hid (OY.out.step bel)
    replace PY := hid (PY.out.step bel (by omega))
    replace BEL := hid (BEL.out.trans (bel.mono (by omega)))
    clear bel
    have ne60 : ¬ w.heap.size = w6.heap.size := by omega
    have lt60 : w.heap.size < w6.heap.size := by omega
    have ne61 : ¬ w.heap.size + 1 = w6.heap.size := by omega
    have lt61 : w.heap.size + 1 < w6.heap.size := by omega
    have ne62 : ¬ bw = w6.heap.size := by omega
    have lt62 : bw < w6.heap.size := by omega
    have ne63 : ¬ bx = w6.heap.size := by omega
    have lt63 : bx < w6.heap.size := by omega
    have ne64 : ¬ bY = w6.heap.size := by omega
    have lt64 : bY < w6.heap.size := by omega
    go_upto_region 12 with (fail)
    have PG := hid (show PlainAt (w6.alloc (.cells #[.int .i64 S1, .int .i64 L1, .slice A2 n1 c2, .slice B2 m1 d2] 31)) w6.heap.size S1 L1 A2 n1 c2 B2 m1 d2 from ⟨by go_simp, by go_simp, by go_simp, by go_simp⟩)
    replace PA := hid (show PlainAt (w6.alloc (.cells #[.int .i64 S1, .int .i64 L1, .slice A2 n1 c2, .slice B2 m1 d2] 31)) _ _ _ _ _ _ _ _ _ from PA.out.step ((Below.refl _ _).alloc (Nat.le_refl _) _) (by omega))
    replace PB := hid (show PlainAt (w6.alloc (.cells #[.int .i64 S1, .int .i64 L1, .slice A2 n1 c2, .slice B2 m1 d2] 31)) _ _ _ _ _ _ _ _ _ from PB.out.step ((Below.refl _ _).alloc (Nat.le_refl _) _) (by omega))
    replace PW := hid (show PlainAt (w6.alloc (.cells #[.int .i64 S1, .int .i64 L1, .slice A2 n1 c2, .slice B2 m1 d2] 31)) _ _ _ _ _ _ _ _ _ from PW.out.step ((Below.refl _ _).alloc (Nat.le_refl _) _) (by omega))
    replace OW := hid (OW.out.step ((Below.refl w6.heap.size w6).alloc (Nat.le_refl _) (.cells #[.int .i64 S1, .int .i64 L1, .slice A2 n1 c2, .slice B2 m1 d2] 31)))
    replace OX := hid (OX.out.step ((Below.refl w6.heap.size w6).alloc (Nat.le_refl _) (.cells #[.int .i64 S1, .int .i64 L1, .slice A2 n1 c2, .slice B2 m1 d2] 31)))
    replace PX := hid (show PlainAt (w6.alloc (.cells #[.int .i64 S1, .int .i64 L1, .slice A2 n1 c2, .slice B2 m1 d2] 31)) _ _ _ _ _ _ _ _ _ from PX.out.step ((Below.refl _ _).alloc (Nat.le_refl _) _) (by omega))
    replace OY := hid (OY.out.step ((Below.refl w6.heap.size w6).alloc (Nat.le_refl _) (.cells #[.int .i64 S1, .int .i64 L1, .slice A2 n1 c2, .slice B2 m1 d2] 31)))
    replace PY := hid (show PlainAt (w6.alloc (.cells #[.int .i64 S1, .int .i64 L1, .slice A2 n1 c2, .slice B2 m1 d2] 31)) _ _ _ _ _ _ _ _ _ from PY.out.step ((Below.refl _ _).alloc (Nat.le_refl _) _) (by omega))
    replace OG := hid (OG.out.step ((Below.refl w6.heap.size w6).alloc (Nat.le_refl _) (.cells #[.int .i64 S1, .int .i64 L1, .slice A2 n1 c2, .slice B2 m1 d2] 31)))
    replace BEL := hid (BEL.out.alloc (by omega) (.cells #[.int .i64 S1, .int .i64 L1, .slice A2 n1 c2, .slice B2 m1 d2] 31))
    have sv3 : (w6.alloc (.cells #[.int .i64 S1, .int .i64 L1, .slice A2 n1 c2, .slice B2 m1 d2] 31)).heap.size = w6.heap.size + 1 := by simp
    generalize w6.alloc (.cells #[.int .i64 S1, .int .i64 L1, .slice A2 n1 c2, .slice B2 m1 d2] 31) = v3 at *
    generalize hgenbg : w6.heap.size = bg at *
    obtain ⟨PG0, PG1, PG2, PG3⟩ := PG.out
    obtain ⟨PW0, PW1, PW2, PW3⟩ := PW.out
    go_wp2_with fail
    clear PG0 PG1 PG2 PG3 PW0 PW1 PW2 PW3
    refine (EQG.out _ _ _ _ _ _ _ _ _ OG.out.lists OW.out.lists).mono ?_
    rintro e w7 ⟨rfl, bel⟩
    have t7 := bel.size
    replace PA := hid (PA.out.step bel (by omega))
    replace PB := hid (PB.out.step bel (by omega))
    replace PW := hid (PW.out.step bel (by omega))
    replace OW := hid (OW.out.step bel)
    replace OX := hid (OX.out.step bel)
    replace PX := hid (PX.out.step bel (by omega))
    replace OY := hid (OY.out.step bel)
    replace PY := hid (PY.out.step bel (by omega))
    replace OG := hid (OG.out.step bel)
    replace PG := hid (PG.out.step bel (by omega))
    replace BEL := hid (BEL.out.trans (bel.mono (by omega)))
    clear bel
    go_wp2_with fail
    go_cut [58] from 54 to 58 (fun v wx => v = .bool false ∧ Hid (Below w7.heap.size w7 wx))
    case first =>
      have RXd := hid OX.out.lists.drew
      have RA := hid (HL.out.step BEL.out).drew
      obtain ⟨a0, a1, a2, a3⟩ := PA.out.drew
      obtain ⟨x0, x1, x2, x3⟩ := PX.out.drew
      have hzx : bx < w7.drew.heap.size := (show bx < w7.heap.size by omega)
      go_region_with (first | (go_at_call 19; refine (TP.out _ RA.out).mono ?_; rintro e w9 ⟨k1, k2, rfl, N9i, N9b, N9l, N9k, bel⟩; have y0 := ((old_cell bel).1 _ 0 hzx).trans x0; have y1 := ((old_cell bel).1 _ 1 hzx).trans x1; have y2 := ((old_cell bel).1 _ 2 hzx).trans x2; have y3 := ((old_cell bel).1 _ 3 hzx).trans x3; have NN9 := hid (newP_own N9i N9b N9k).lists; have BEL9 := hid bel; clear N9i N9b N9l N9k bel) | (go_at_call 21; refine (EQX.out _ _ _ _ _ _ _ _ _ (RXd.out.step BEL9.out) NN9.out).mono ?_; rintro e w10 ⟨rfl, bel10⟩; have BEL10 := hid bel10; clear bel10))
      all_goals
        go_wp2_with fail
        go_meet
        case rel => exact ⟨rfl, (Below.refl w7.heap.size w7).drew.trans (BEL9.out.trans (BEL10.out.mono BEL9.out.size))⟩
    case rest =>
      obtain ⟨rfl, bel⟩ := hcut
      replace bel := bel.out
      generalize wc = w8 at *
      have tw8 := bel.size
      replace PA := hid (PA.out.step bel (by omega))
      replace PB := hid (PB.out.step bel (by omega))
      replace PW := hid (PW.out.step bel (by omega))
      replace OW := hid (OW.out.step bel)
      replace OX := hid (OX.out.step bel)
      replace PX := hid (PX.out.step bel (by omega))
      replace OY := hid (OY.out.step bel)
      replace PY := hid (PY.out.step bel (by omega))
      replace OG := hid (OG.out.step bel)
      replace PG := hid (PG.out.step bel (by omega))
      replace BEL := hid (BEL.out.trans (bel.mono (by omega)))
      clear bel
      go_wp2_with fail
      go_cut [63] from 59 to 63 (fun v wx => v = .bool false ∧ Hid (Below w8.heap.size w8 wx))
      case first =>
        have RXd := hid OY.out.lists.drew
        have RA := hid (HL'.out.step BEL.out).drew
        obtain ⟨a0, a1, a2, a3⟩ := PB.out.drew
        obtain ⟨x0, x1, x2, x3⟩ := PY.out.drew
        have hzx : bY < w8.drew.heap.size := (show bY < w8.heap.size by omega)
        go_region_with (first | (go_at_call 19; refine (TP'.out _ RA.out).mono ?_; rintro e w9 ⟨k1, k2, rfl, N9i, N9b, N9l, N9k, bel⟩; have y0 := ((old_cell bel).1 _ 0 hzx).trans x0; have y1 := ((old_cell bel).1 _ 1 hzx).trans x1; have y2 := ((old_cell bel).1 _ 2 hzx).trans x2; have y3 := ((old_cell bel).1 _ 3 hzx).trans x3; have NN9 := hid (newP_own N9i N9b N9k).lists; have BEL9 := hid bel; clear N9i N9b N9l N9k bel) | (go_at_call 21; refine (EQX'.out _ _ _ _ _ _ _ _ _ (RXd.out.step BEL9.out) NN9.out).mono ?_; rintro e w10 ⟨rfl, bel10⟩; have BEL10 := hid bel10; clear bel10))
        all_goals
          go_wp2_with fail
          go_meet
          case rel => exact ⟨rfl, (Below.refl w8.heap.size w8).drew.trans (BEL9.out.trans (BEL10.out.mono BEL9.out.size))⟩
      case rest =>
        obtain ⟨rfl, bel⟩ := hcut
        replace bel := bel.out
        generalize wc = w9 at *
        have tw9 := bel.size
        replace PA := hid (PA.out.step bel (by omega))
        replace PB := hid (PB.out.step bel (by omega))
        replace PW := hid (PW.out.step bel (by omega))
        replace OW := hid (OW.out.step bel)
        replace OX := hid (OX.out.step bel)
        replace PX := hid (PX.out.step bel (by omega))
        replace OY := hid (OY.out.step bel)
        replace PY := hid (PY.out.step bel (by omega))
        replace OG := hid (OG.out.step bel)
        replace PG := hid (PG.out.step bel (by omega))
        replace BEL := hid (BEL.out.trans (bel.mono (by omega)))
        clear bel
        obtain ⟨PX0, PX1, PX2, PX3⟩ := PX.out
        go_wp2_with fail
        clear PX0 PX1 PX2 PX3
        have MX := markPlain2_calls S L (some ⟨h1, 0, none⟩) n n (some ⟨h2, 0, none⟩) m m xs bs 1 HF.out.n HF.out.m (by omega) w9 OX.out
        refine MX.mono ?_
        rintro e w10 ⟨rfl, _, kept⟩
        have t10 := kept.size
        clear MX
        clear OX
        clear PX
        replace PA := hid (PA.out.keep fun o => kept.cell (by omega) (fun r hr e => by have := RX.out r hr _ e.symm; omega) o)
        replace PB := hid (PB.out.keep fun o => kept.cell (by omega) (fun r hr e => by have := RX.out r hr _ e.symm; omega) o)
        replace PY := hid (PY.out.keep fun o => kept.cell (by omega) (fun r hr e => by have := RX.out r hr _ e.symm; omega) o)
        replace PW := hid (PW.out.keep fun o => kept.cell (by omega) (fun r hr e => by have := RX.out r hr _ e.symm; omega) o)
        replace PG := hid (PG.out.keep fun o => kept.cell (by omega) (fun r hr e => by have := RX.out r hr _ e.symm; omega) o)
        replace OW := hid (OW.out.apart kept RW.out RX.out (.inl (by omega)))
        replace OY := hid (OY.out.apart kept RY.out RX.out (.inr (by omega)))
        replace OG := hid (OG.out.apart kept RG.out RX.out (.inr (by omega)))
        replace BEL := hid (BEL.out.trans (kept.below (by omega) fun r hr g hg => by have := RX.out r hr g hg; omega))
        clear kept RX
        have nk : ¬ ((1 + n + m : Nat) : Int) < 0 := by omega
        have nkb : 1 + n + m ≤ 16777216 := by omega
        generalize 1 + n + m = kx at *
        obtain ⟨PY0, PY1, PY2, PY3⟩ := PY.out
        go_wp2_with fail
        clear PY0 PY1 PY2 PY3
        have MX := markPlain2_calls S' L' (some ⟨i1, 0, none⟩) n' n' (some ⟨i2, 0, none⟩) m' m' xs' bs' kx HF'.out.n HF'.out.m (by omega) w10 OY.out
        refine MX.mono ?_
        rintro e w11 ⟨rfl, _, kept⟩
        have t11 := kept.size
        clear MX
        clear OY PY
        replace PA := hid (PA.out.keep fun o => kept.cell (by omega) (fun r hr e => by have := RY.out r hr _ e.symm; omega) o)
        replace PB := hid (PB.out.keep fun o => kept.cell (by omega) (fun r hr e => by have := RY.out r hr _ e.symm; omega) o)
        replace PW := hid (PW.out.keep fun o => kept.cell (by omega) (fun r hr e => by have := RY.out r hr _ e.symm; omega) o)
        replace PG := hid (PG.out.keep fun o => kept.cell (by omega) (fun r hr e => by have := RY.out r hr _ e.symm; omega) o)
        replace OW := hid (OW.out.apart kept RW.out RY.out (.inl (by omega)))
        replace OG := hid (OG.out.apart kept RG.out RY.out (.inr (by omega)))
        replace BEL := hid (BEL.out.trans (kept.below (by omega) fun r hr g hg => by have := RY.out r hr g hg; omega))
        clear kept RY
        have nk2 : ¬ ((kx + n' + m' : Nat) : Int) < 0 := by omega
        generalize kx + n' + m' = kx2 at *
        obtain ⟨PG0, PG1, PG2, PG3⟩ := PG.out
        obtain ⟨PW0, PW1, PW2, PW3⟩ := PW.out
        go_wp2_with fail
        clear PG0 PG1 PG2 PG3 PW0 PW1 PW2 PW3
        refine (EQG.out _ _ _ _ _ _ _ _ _ OG.out.lists OW.out.lists).mono ?_
        rintro e w12 ⟨rfl, bel⟩
        have t12 := bel.size
        replace PA := hid (PA.out.step bel (by omega))
        replace PB := hid (PB.out.step bel (by omega))
        replace PW := hid (PW.out.step bel (by omega))
        replace OW := hid (OW.out.step bel)
        replace OG := hid (OG.out.step bel)
        replace PG := hid (PG.out.step bel (by omega))
        replace BEL := hid (BEL.out.trans (bel.mono (by omega)))
        clear bel
        obtain ⟨PG0, PG1, PG2, PG3⟩ := PG.out
        go_wp2_with fail
        clear PG0 PG1 PG2 PG3
        have MG := markPlain2_calls S1 L1 A2 n1 c2 B2 m1 d2 xs1 bs1 1 hc1 hc2 (by omega) w12 OG.out
        refine MG.mono ?_
        rintro e w13 ⟨rfl, OG2, kept⟩
        have t13 := kept.size
        clear MG
        replace PA := hid (PA.out.keep fun o => kept.cell (by omega) (fun r hr e => by have := RG.out r hr _ e.symm; omega) o)
        replace PB := hid (PB.out.keep fun o => kept.cell (by omega) (fun r hr e => by have := RG.out r hr _ e.symm; omega) o)
        replace PW := hid (PW.out.keep fun o => kept.cell (by omega) (fun r hr e => by have := RG.out r hr _ e.symm; omega) o)
        replace PG := hid (PG.out.keep fun o => kept.cell (by omega) (fun r hr e => by have := RG.out r hr _ e.symm; omega) o)
        replace OW := hid (OW.out.apart kept RW.out RG.out (.inl (by omega)))
        replace OG := hid OG2
        replace BEL := hid (BEL.out.trans (kept.below (by omega) fun r hr g hg => by have := RG.out r hr g hg; omega))
        clear kept OG2
        have nm : ¬ ((1 + n1 + m1 : Nat) : Int) < 0 := by omega
        have HELD := hid fun (w : World) (h : ListsP w A2 B2 (seqI 1 n1) (seqB (1 + n1) m1)) => heldPlain_calls S1 L1 A2 n1 c2 B2 m1 d2 1 hc1 hc2 (by omega) w h
        generalize seqI 1 n1 = ms1 at *
        generalize seqB (1 + n1) m1 = ms2 at *
        generalize 1 + n1 + m1 = kg at *
        have kgg : ((kg : Int) != (kg : Int)) = false := bne_self_eq_false _
        obtain ⟨PG0, PG1, PG2, PG3⟩ := PG.out
        go_wp2_with fail
        clear PG0 PG1 PG2 PG3
        refine (HELD.out _ OG.out.lists).mono ?_
        rintro e w14 ⟨rfl, bel⟩
        have t14 := bel.size
        replace PA := hid (PA.out.step bel (by omega))
        replace PB := hid (PB.out.step bel (by omega))
        replace PW := hid (PW.out.step bel (by omega))
        replace OW := hid (OW.out.step bel)
        replace OG := hid (OG.out.step bel)
        replace PG := hid (PG.out.step bel (by omega))
        replace BEL := hid (BEL.out.trans (bel.mono (by omega)))
        clear bel
        go_wp2_with fail
        go_cut [15, 16] from 94 to 101 (fun v v' wx => ∃ (bh : Nat) (A3 : Option Addr) (c3 : Nat) (B3 : Option Addr) (d3 : Nat), v = .pointer (some ⟨bh, 0, none⟩) ∧ v' = .bool ok ∧ w14.heap.size ≤ bh ∧ bh < wx.heap.size ∧ Hid (PlainAt wx bh S1 L1 A3 n1 c3 B3 m1 d3) ∧ Hid (OwnP wx A3 n1 c3 B3 m1 d3 xs1 bs1) ∧ Hid (Below w14.heap.size w14 wx))
        case first =>
          have RA := hid (HL.out.step BEL.out).drew
          have RB := hid (HL'.out.step BEL.out).drew
          have PAD := hid PA.out.drew
          have PBD := hid PB.out.drew
          obtain ⟨pa0, pa1, pa2, pa3⟩ := PAD.out; obtain ⟨pa4, pa5, pa6, pa7⟩ := PBD.out
          have hz0 : w.heap.size < w14.drew.heap.size := (show w.heap.size < w14.heap.size by omega)
          have hz1 : w.heap.size + 1 < w14.drew.heap.size := (show w.heap.size + 1 < w14.heap.size by omega)
          have KA := hid (show ∀ v', Below w14.drew.heap.size w14.drew v' → (v'.cell? ⟨w.heap.size, 0, none⟩ = some (.int .i64 S) ∧ v'.cell? ⟨w.heap.size, 1, none⟩ = some (.int .i64 L) ∧ v'.cell? ⟨w.heap.size, 2, none⟩ = some (.slice A n c) ∧ v'.cell? ⟨w.heap.size, 3, none⟩ = some (.slice B m d) ∧ v'.cell? ⟨w.heap.size + 1, 0, none⟩ = some (.int .i64 S') ∧ v'.cell? ⟨w.heap.size + 1, 1, none⟩ = some (.int .i64 L') ∧ v'.cell? ⟨w.heap.size + 1, 2, none⟩ = some (.slice A' n' c') ∧ v'.cell? ⟨w.heap.size + 1, 3, none⟩ = some (.slice B' m' d')) from fun v' hv => ⟨((old_cell hv).1 _ 0 hz0).trans pa0, ((old_cell hv).1 _ 1 hz0).trans pa1, ((old_cell hv).1 _ 2 hz0).trans pa2, ((old_cell hv).1 _ 3 hz0).trans pa3, ((old_cell hv).1 _ 0 hz1).trans pa4, ((old_cell hv).1 _ 1 hz1).trans pa5, ((old_cell hv).1 _ 2 hz1).trans pa6, ((old_cell hv).1 _ 3 hz1).trans pa7⟩)
          have HDZ := hid (show w14.drew.heap.size ≤ w14.heap.size from Nat.le_refl _)
          go_region_held3 (fun w' => w'.cell? ⟨w.heap.size, 0, none⟩ = some (.int .i64 S) ∧ w'.cell? ⟨w.heap.size, 1, none⟩ = some (.int .i64 L) ∧ w'.cell? ⟨w.heap.size, 2, none⟩ = some (.slice A n c) ∧ w'.cell? ⟨w.heap.size, 3, none⟩ = some (.slice B m d) ∧ w'.cell? ⟨w.heap.size + 1, 0, none⟩ = some (.int .i64 S') ∧ w'.cell? ⟨w.heap.size + 1, 1, none⟩ = some (.int .i64 L') ∧ w'.cell? ⟨w.heap.size + 1, 2, none⟩ = some (.slice A' n' c') ∧ w'.cell? ⟨w.heap.size + 1, 3, none⟩ = some (.slice B' m' d')) (first | with_reducible exact ⟨pa0, pa1, pa2, pa3, pa4, pa5, pa6, pa7⟩ | with_reducible exact ⟨pb0, pb1, pb2, pb3, pb4, pb5, pb6, pb7⟩ | with_reducible exact ⟨pc0, pc1, pc2, pc3, pc4, pc5, pc6, pc7⟩ | with_reducible exact ⟨pd0, pd1, pd2, pd3, pd4, pd5, pd6, pd7⟩ | with_reducible exact KA.out _ (BD5.out.alloc (by omega) _) | with_reducible exact KA.out _ (BD4.out.alloc (by omega) _) | with_reducible exact KA.out _ (BD3.out.alloc (by omega) _) | with_reducible exact KA.out _ (bel_ad _ _) | (with_reducible refine KA.out _ ?_; repeat (first | with_reducible exact BD5.out | with_reducible exact BD5.out.alloc (by omega) _ | with_reducible refine Below.setCell ?_ (by first | exact HDZ.out | exact u3 | exact lz4 | exact lz5) _)) | fail) (first | (go_at_call_of 19 c; refine (TP.out _ (by first | with_reducible exact RA.out | with_reducible exact RA.out.step (bel_ad _ _))).mono ?_; rintro e v3 ⟨g1, g2, rfl, N1i, N1b, N1l, N1k, bel3⟩; (try (with_reducible have ZZ3 := hid (zero_allocD w14 bel3))); (try have zl3 := ZZ3.out.2.2); have bel3 := (show Below w14.drew.heap.size w14.drew v3 by first | with_reducible exact bel3 | with_reducible exact zero_belD _ bel3); have u3 := bel3.size; have PA3 := hid (PAD.out.step bel3 hz0); have PB3 := hid (PBD.out.step bel3 hz1); obtain ⟨pb0, pb1, pb2, pb3⟩ := PA3.out; obtain ⟨pb4, pb5, pb6, pb7⟩ := PB3.out; have BD3 := hid bel3; have NN3 := hid (newP_own N1i N1b N1k); have BEL3 := hid bel3; clear N1i N1b N1l N1k bel3) | (go_at_call_of 19 c'; refine (TP'.out _ (by first | with_reducible exact (RB.out.step BEL3.out) | with_reducible exact (RB.out.step BEL3.out).step ((Below.refl _ _).alloc (Nat.le_refl _) _))).mono ?_; rintro e v4 ⟨h1, h2, rfl, N2i, N2b, N2l, N2k, bel4⟩; (first | (with_reducible have ZZ4 := hid (zero_step ZZ3.out bel4)) | (with_reducible have ZZ4 := hid (zero_alloc v3 bel4)) | skip); (try have zl4 := ZZ4.out.2.2); have bel4 := (show Below v3.heap.size v3 v4 by first | with_reducible exact bel4 | with_reducible exact zero_bel _ bel4); have u4 := bel4.size; have x0 : w.heap.size < v3.heap.size := (by omega); have x1 : w.heap.size + 1 < v3.heap.size := (by omega); have PA4 := hid (PA3.out.step bel4 x0); have PB4 := hid (PB3.out.step bel4 x1); obtain ⟨pc0, pc1, pc2, pc3⟩ := PA4.out; obtain ⟨pc4, pc5, pc6, pc7⟩ := PB4.out; have BD4 := hid (BD3.out.trans (bel4.mono u3)); have lz4 := Nat.le_trans u3 u4; have NN4 := hid (newP_own N2i N2b N2k); have BEL4 := hid bel4; clear N2i N2b N2l N2k bel4) | (go_at_call 39; refine (IMPL.out _ _ _ _ _ _ _ _ _ (by first | with_reducible exact (NN3.out.step BEL4.out).lists | with_reducible exact (NN3.out.step BEL4.out).lists.step ((Below.refl _ _).alloc (Nat.le_refl _) _)) (by first | with_reducible exact NN4.out.lists | with_reducible exact NN4.out.lists.step ((Below.refl _ _).alloc (Nat.le_refl _) _))).mono ?_; rintro e v5 ⟨A3, c3, B3, d3, rfl, ow5, rw5, bel5⟩; (first | (with_reducible have ZZ5 := hid (zero_step ZZ4.out bel5)) | (with_reducible have ZZ5 := hid (zero_alloc v4 bel5)) | skip); have bel5 := (show Below v4.heap.size v4 v5 by first | with_reducible exact bel5 | with_reducible exact zero_bel _ bel5); (try (obtain ⟨⟨k0, k1, k2, k3⟩, fz, zl⟩ := ZZ5.out; have j0 := fz 0; have j1 := fz 1; have j2 := fz 2; have j3 := fz 3; clear fz)); have u5 := bel5.size; have BD5 := hid (BD4.out.trans (bel5.mono lz4)); have lz5 := Nat.le_trans lz4 u5; have x2 : w.heap.size < v4.heap.size := (by omega); have x3 : w.heap.size + 1 < v4.heap.size := (by omega); have PA5 := hid (PA4.out.step bel5 x2); have PB5 := hid (PB4.out.step bel5 x3); obtain ⟨pd0, pd1, pd2, pd3⟩ := PA5.out; obtain ⟨pd4, pd5, pd6, pd7⟩ := PB5.out; have OW5 := hid ow5; have RW5 := hid rw5; have BEL5 := hid bel5; clear ow5 rw5 bel5))
          all_goals
            go_wp2_with fail
            have hdd : w14.heap.size ≤ w14.drew.heap.size := Nat.le_refl _
            have BF := hid (((Below.refl w14.heap.size w14).drew.trans (BEL3.out.mono hdd)).trans ((BEL4.out.mono (by omega)).trans (BEL5.out.mono (by omega))))
            go_meet
            case rel => first | exact ⟨_, A3, c3, B3, d3, rfl, rfl, (by first | omega | (simp; omega) | simp), (by first | omega | (simp; omega) | simp), ⟨by go_simp, by go_simp, by go_simp, by go_simp⟩, (own_setb (own_setb (own_setb (own_setb OW5.out RW5.out (by first | omega | (simp; omega) | simp) _) RW5.out (by first | omega | (simp; omega) | simp) _) RW5.out (by first | omega | (simp; omega) | simp) _) RW5.out (by first | omega | (simp; omega) | simp) _), ((((BF.out.setCell (by first | omega | (simp; omega) | simp) _).setCell (by first | omega | (simp; omega) | simp) _).setCell (by first | omega | (simp; omega) | simp) _).setCell (by first | omega | (simp; omega) | simp) _)⟩ | exact ⟨v5.heap.size, A3, c3, B3, d3, rfl, rfl, by omega, by simp, ⟨by go_simp, by go_simp, by go_simp, by go_simp⟩, OW5.out.step ((Below.refl _ _).alloc (Nat.le_refl _) _), BF.out.alloc (by omega) _⟩
        case rest =>
          obtain ⟨bh, A3, c3, B3, d3, rfl, rfl, hbh1, hbh2, PH, OH, bel⟩ := hcut
          replace bel := bel.out
          generalize wc = w15 at *
          have t15 := bel.size
          replace PA := hid (PA.out.step bel (by omega))
          replace PB := hid (PB.out.step bel (by omega))
          replace PW := hid (PW.out.step bel (by omega))
          replace OW := hid (OW.out.step bel)
          replace OG := hid (OG.out.step bel)
          replace PG := hid (PG.out.step bel (by omega))
          replace BEL := hid (BEL.out.trans (bel.mono (by omega)))
          clear bel
          obtain ⟨PH0, PH1, PH2, PH3⟩ := PH.out
          obtain ⟨PW0, PW1, PW2, PW3⟩ := PW.out
          go_wp2_with fail
          clear PH0 PH1 PH2 PH3 PW0 PW1 PW2 PW3
          refine (EQG.out _ _ _ _ _ _ _ _ _ OH.out.lists OW.out.lists).mono ?_
          rintro e w16 ⟨rfl, bel⟩
          have t16 := bel.size
          replace PA := hid (PA.out.step bel (by omega))
          replace PB := hid (PB.out.step bel (by omega))
          replace PW := hid (PW.out.step bel (by omega))
          replace OW := hid (OW.out.step bel)
          replace OG := hid (OG.out.step bel)
          replace PG := hid (PG.out.step bel (by omega))
          replace PH := hid (PH.out.step bel (by omega))
          replace OH := hid (OH.out.step bel)
          replace BEL := hid (BEL.out.trans (bel.mono (by omega)))
          clear bel
          obtain ⟨PG0, PG1, PG2, PG3⟩ := PG.out
          go_wp2_with fail
          clear PG0 PG1 PG2 PG3
          refine (HELD.out _ OG.out.lists).mono ?_
          rintro e w17 ⟨rfl, bel⟩
          have t17 := bel.size
          replace BEL := hid (BEL.out.trans (bel.mono (by omega)))
          clear bel
          go_wp2_with fail
          go_ret
          exact ⟨rfl, BEL.out⟩
end Go.Proofs.Ytlfmcdobiojdlaa.fnExactMeetPlain
