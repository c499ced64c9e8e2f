/-
  MeetPlain, by the program, over explore.
-/
import Derived.Test.YtlfmcdobiojdlaaExplP
import Derived.Test.YtlfmcdobiojdlaaMeetPSpec
import Derived.Deep.RegionHeld3
namespace Go.Proofs.Ytlfmcdobiojdlaa.fnExactMeetPlain
open Go.RowKit Go.Proofs.Fl Go.Proofs.Ytlfmcdobiojdlaa.Num Go.Proofs.Exp
open Go.Proofs.Ytlfmcdobiojdlaa.fnExactApartWord (nxA nxA_lt Pl step_of nx_parts toN bel_al PairAt)
open Go.Proofs.Ytlfmcdobiojdlaa.fnExactOtherPlain (RetBP ownP_nil within_nil)
set_option linter.unusedVariables false
set_option linter.unusedSimpArgs false
theorem setpair_keep {w : World} {pa pb k b : Nat} {v0 v1 v2 v3 v4 v5 v6 v7 v8 v9 : Value} (h : w.cell? ⟨pa, 0, none⟩ = some v0 ∧ w.cell? ⟨pa, 1, none⟩ = some v1 ∧ w.cell? ⟨pa, 2, none⟩ = some v2 ∧ w.cell? ⟨pa, 3, none⟩ = some v3 ∧ w.cell? ⟨pb, 0, none⟩ = some v4 ∧ w.cell? ⟨pb, 1, none⟩ = some v5 ∧ w.cell? ⟨pb, 2, none⟩ = some v6 ∧ w.cell? ⟨pb, 3, none⟩ = some v7 ∧ w.cell? ⟨k, 0, none⟩ = some v8 ∧ w.cell? ⟨k, 1, none⟩ = some v9)
    (ha : pa ≠ b) (hb : pb ≠ b) (hk : k ≠ b) (u0 u1 : Value) :
    ((w.setCell ⟨b, 0, none⟩ u0).setCell ⟨b, 1, none⟩ u1).cell? ⟨pa, 0, none⟩ = some v0 ∧ ((w.setCell ⟨b, 0, none⟩ u0).setCell ⟨b, 1, none⟩ u1).cell? ⟨pa, 1, none⟩ = some v1 ∧ ((w.setCell ⟨b, 0, none⟩ u0).setCell ⟨b, 1, none⟩ u1).cell? ⟨pa, 2, none⟩ = some v2 ∧ ((w.setCell ⟨b, 0, none⟩ u0).setCell ⟨b, 1, none⟩ u1).cell? ⟨pa, 3, none⟩ = some v3 ∧ ((w.setCell ⟨b, 0, none⟩ u0).setCell ⟨b, 1, none⟩ u1).cell? ⟨pb, 0, none⟩ = some v4 ∧ ((w.setCell ⟨b, 0, none⟩ u0).setCell ⟨b, 1, none⟩ u1).cell? ⟨pb, 1, none⟩ = some v5 ∧ ((w.setCell ⟨b, 0, none⟩ u0).setCell ⟨b, 1, none⟩ u1).cell? ⟨pb, 2, none⟩ = some v6 ∧ ((w.setCell ⟨b, 0, none⟩ u0).setCell ⟨b, 1, none⟩ u1).cell? ⟨pb, 3, none⟩ = some v7 ∧ ((w.setCell ⟨b, 0, none⟩ u0).setCell ⟨b, 1, none⟩ u1).cell? ⟨k, 0, none⟩ = some v8 ∧ ((w.setCell ⟨b, 0, none⟩ u0).setCell ⟨b, 1, none⟩ u1).cell? ⟨k, 1, none⟩ = some v9 := by
  obtain ⟨h0, h1, h2, h3, h4, h5, h6, h7, h8, h9⟩ := h
  refine ⟨?_, ?_, ?_, ?_, ?_, ?_, ?_, ?_, ?_, ?_⟩ <;> go_simp
set_option maxHeartbeats 6400000 in
theorem next_calls (s l : Nat) (A : Option Addr) (n c : Nat) (B : Option Addr) (m d : Nat) (xs : List Int) (bs : List Bool) (hP : Pl s l n xs m bs) (s' : Nat) (A' : Option Addr) (n' c' : Nat) (B' : Option Addr) (m' d' : Nat) (xs' : List Int) (bs' : List Bool) (hP' : Pl s' l n' xs' m' bs')
    (pa pb : Nat) (w : World) (hpa : PlainAt w pa s l A n c B m d) (hpb : PlainAt w pb s' l A' n' c' B' m' d') (hla : pa < w.heap.size) (hlb : pb < w.heap.size) (hl : Rd w w.heap.size A (i64s xs)) (hl' : Rd w w.heap.size A' (i64s xs')) (code j : Nat) (hc : code < s * s') (hj : j < l) :
    Calls Try.prog 65 #[.agg #[.int .i64 ((code / s' : Nat) : Int), .int .i64 ((code % s' : Nat) : Int)], .int .i64 (j : Int), .pointer (some ⟨pa, 0, none⟩), .pointer (some ⟨pb, 0, none⟩)] w (fun e w' => e = .returned (.agg #[.int .i64 ((nxA xs xs' l s' code j / s' : Nat) : Int), .int .i64 ((nxA xs xs' l s' code j % s' : Nat) : Int)]) ∧ Below w.heap.size w w') := by
  have hs1' := hP'.s1
  obtain ⟨X, hX⟩ : ∃ X, X = code / s' := ⟨_, rfl⟩
  obtain ⟨Y, hY⟩ : ∃ Y, Y = code % s' := ⟨_, rfl⟩
  have hXs : X < s := by rw [hX]; exact Nat.div_lt_of_lt_mul (by rw [Nat.mul_comm]; exact hc)
  have hYs : Y < s' := by rw [hY]; exact Nat.mod_lt _ (by omega)
  obtain ⟨so1, hv1⟩ := step_of hP hXs hj
  obtain ⟨so2, hv2⟩ := step_of hP' hYs hj
  obtain ⟨np1, np2⟩ := nx_parts (xs := xs) (xs' := xs') hX hY (j := j) rfl rfl hv2
  rw [np1, np2, ← hX, ← hY]
  have hn1 : n ≤ 1048576 := by have := hP.ns; have := Nat.mul_le_mul hP.s2 hP.l2; omega
  have hn2 : n' ≤ 1048576 := by have := hP'.ns; have := Nat.mul_le_mul hP'.s2 hP'.l2; omega
  generalize toN xs l X j = p1 at *
  generalize toN xs' l Y j = p2 at *
  have PA := hid hpa
  have PB := hid hpb
  have HLA := hid hl
  have HLB := hid hl'
  have TO1 := hid (fun w' ha => to_calls s l A n c B m d xs hP.xl hn1 X j _ _ so1 w' ha)
  have TO2 := hid (fun w' ha => to_calls s' l A' n' c' B' m' d' xs' hP'.xl hn2 Y j _ _ so2 w' ha)
  clear np1 np2 so1 so2 hX hY hP hP' hpa hpb hl hl'
  go_enter Try.func65, Try.ntmps65
  go_wp2_with fail
  have BE := hid (show Below w.heap.size w ((w.alloc (.cells #[.int .i64 (X : Int), .int .i64 (Y : Int)] 65)).alloc (.cells #[.int .i64 0, .int .i64 0] 65)) from ((Below.refl w.heap.size w).alloc (Nat.le_refl _) _).alloc (by simp) _)
  have K0 := hid (show PairAt ((w.alloc (.cells #[.int .i64 (X : Int), .int .i64 (Y : Int)] 65)).alloc (.cells #[.int .i64 0, .int .i64 0] 65)) w.heap.size (.int .i64 (X : Int)) (.int .i64 (Y : Int)) from ⟨by go_simp, by go_simp, fun o => by go_simp, by simp; omega⟩)
  have K1 := hid (show PairAt ((w.alloc (.cells #[.int .i64 (X : Int), .int .i64 (Y : Int)] 65)).alloc (.cells #[.int .i64 0, .int .i64 0] 65)) (w.heap.size + 1) (.int .i64 0) (.int .i64 0) from ⟨by go_simp, by go_simp, fun o => by go_simp, by simp⟩)
  generalize (w.alloc (.cells #[.int .i64 (X : Int), .int .i64 (Y : Int)] 65)).alloc (.cells #[.int .i64 0, .int .i64 0] 65) = v at *
  have HSF := hid (show ∀ w', Below v.heap.size v w' → (w'.cell? ⟨pa, 0, none⟩ = some (.int .i64 (s : Int)) ∧ w'.cell? ⟨pa, 1, none⟩ = some (.int .i64 (l : Int)) ∧ w'.cell? ⟨pa, 2, none⟩ = some (.slice A n c) ∧ w'.cell? ⟨pa, 3, none⟩ = some (.slice B m d) ∧ w'.cell? ⟨pb, 0, none⟩ = some (.int .i64 (s' : Int)) ∧ w'.cell? ⟨pb, 1, none⟩ = some (.int .i64 (l : Int)) ∧ w'.cell? ⟨pb, 2, none⟩ = some (.slice A' n' c') ∧ w'.cell? ⟨pb, 3, none⟩ = some (.slice B' m' d') ∧ w'.cell? ⟨w.heap.size, 0, none⟩ = some (.int .i64 (X : Int)) ∧ w'.cell? ⟨w.heap.size, 1, none⟩ = some (.int .i64 (Y : Int))) from fun w' hb => by
    have b2 := BE.out.trans (hb.mono BE.out.size)
    obtain ⟨x0, x1, x2, x3⟩ := PA.out.step b2 hla
    obtain ⟨y0, y1, y2, y3⟩ := PB.out.step b2 hlb
    have k := K0.out.step hb
    exact ⟨x0, x1, x2, x3, y0, y1, y2, y3, k.c0, k.c1⟩)
  have HC1 := hid (show ∀ w', Below v.heap.size v w' → Calls Try.prog 56 #[.agg #[.int .i64 (s : Int), .int .i64 (l : Int), .slice A n c, .slice B m d], .int .i64 (X : Int), .int .i64 (j : Int)] w' (fun e w'' => e = .returned (.int .i64 (p1 : Int)) ∧ Below v.heap.size v w'') from fun w' hb => by
    refine (TO1.out w' (rd_step HLA.out (BE.out.trans (hb.mono BE.out.size)))).mono ?_
    rintro e w9 ⟨rfl, b9⟩
    exact ⟨rfl, hb.trans (b9.mono hb.size)⟩)
  have HC2 := hid (show ∀ w', Below v.heap.size v w' → Calls Try.prog 56 #[.agg #[.int .i64 (s' : Int), .int .i64 (l : Int), .slice A' n' c', .slice B' m' d'], .int .i64 (Y : Int), .int .i64 (j : Int)] w' (fun e w'' => e = .returned (.int .i64 (p2 : Int)) ∧ Below v.heap.size v w'') from fun w' hb => by
    refine (TO2.out w' (rd_step HLB.out (BE.out.trans (hb.mono BE.out.size)))).mono ?_
    rintro e w9 ⟨rfl, b9⟩
    exact ⟨rfl, hb.trans (b9.mono hb.size)⟩)
  have D0 := hid (show Below v.heap.size v v.drew from (Below.refl _ _).drew)
  have hvw : w.heap.size + 1 < v.heap.size := K1.out.lt
  go_region_held3 (fun w' => w'.cell? ⟨pa, 0, none⟩ = some (.int .i64 (s : Int)) ∧ w'.cell? ⟨pa, 1, none⟩ = some (.int .i64 (l : Int)) ∧ w'.cell? ⟨pa, 2, none⟩ = some (.slice A n c) ∧ w'.cell? ⟨pa, 3, none⟩ = some (.slice B m d) ∧ w'.cell? ⟨pb, 0, none⟩ = some (.int .i64 (s' : Int)) ∧ w'.cell? ⟨pb, 1, none⟩ = some (.int .i64 (l : Int)) ∧ w'.cell? ⟨pb, 2, none⟩ = some (.slice A' n' c') ∧ w'.cell? ⟨pb, 3, none⟩ = some (.slice B' m' d') ∧ w'.cell? ⟨w.heap.size, 0, none⟩ = some (.int .i64 (X : Int)) ∧ w'.cell? ⟨w.heap.size, 1, none⟩ = some (.int .i64 (Y : Int)))
    (first | with_reducible exact HSF.out _ D0.out | with_reducible exact HSF.out _ DA.out | with_reducible exact HSF.out _ DB.out | with_reducible exact HSE.out | fail)
    (first | (go_at_call_of 56 c; refine (HC1.out _ (by first | with_reducible exact D0.out)).mono ?_; rintro e wa ⟨rfl, da⟩; have DA := hid da; clear da) | (go_at_call_of 56 c'; refine (HC2.out _ (by first | with_reducible exact DA.out)).mono ?_; rintro e wb ⟨rfl, db⟩; have DB := hid db; have K2 := hid (K1.out.step db); obtain ⟨k0, k1, kf, kl⟩ := K2.out; have f0 := kf 0; have f1 := kf 1; clear kf db; have HSE := hid (setpair_keep (b := w.heap.size + 1) (HSF.out wb DB.out) (by omega) (by omega) (by omega) (.int .i64 (p1 : Int)) (.int .i64 (p2 : Int)))) | fail)
  all_goals
    go_wp2_with fail
    exact bodyPost_ret (v := .agg #[.int .i64 (p1 : Int), .int .i64 (p2 : Int)]) (by simp [results, Try.results65, go_sem, k0, k1]) rfl
      ⟨rfl, (((BE.out.trans (DB.out.mono BE.out.size)).setCell (by simp) _).setCell (by simp) _)⟩
set_option maxHeartbeats 3200000 in
theorem ends_calls (s l : Nat) (A : Option Addr) (n c : Nat) (B : Option Addr) (m d : Nat) (xs : List Int) (bs : List Bool) (hP : Pl s l n xs m bs) (s' : Nat) (A' : Option Addr) (n' c' : Nat) (B' : Option Addr) (m' d' : Nat) (xs' : List Int) (bs' : List Bool) (hP' : Pl s' l n' xs' m' bs')
    (pa pb : Nat) (w : World) (hpa : PlainAt w pa s l A n c B m d) (hpb : PlainAt w pb s' l A' n' c' B' m' d') (hla : pa < w.heap.size) (hlb : pb < w.heap.size) (hl : Rd w w.heap.size B (bools bs)) (hl' : Rd w w.heap.size B' (bools bs')) (code : Nat) (hc : code < s * s') :
    Calls Try.prog 67 #[.agg #[.int .i64 ((code / s' : Nat) : Int), .int .i64 ((code % s' : Nat) : Int)], .pointer (some ⟨pa, 0, none⟩), .pointer (some ⟨pb, 0, none⟩)] w (fun e w' => e = .returned (.bool (enA bs bs' s' code)) ∧ Below w.heap.size w w') := by
  have hs1' := hP'.s1
  obtain ⟨X, hX⟩ : ∃ X, X = code / s' := ⟨_, rfl⟩
  obtain ⟨Y, hY⟩ : ∃ Y, Y = code % s' := ⟨_, rfl⟩
  have hXs : X < s := by rw [hX]; exact Nat.div_lt_of_lt_mul (by rw [Nat.mul_comm]; exact hc)
  have hYs : Y < s' := by rw [hY]; exact Nat.mod_lt _ (by omega)
  have hXb : X < bs.length := by have h1 := hP.bl; have h2 := hP.ms; omega
  have hYb : Y < bs'.length := by have h1 := hP'.bl; have h2 := hP'.ms; omega
  have hen : enA bs bs' s' code = (bs[X] && bs'[Y]) := by unfold enA; rw [← hX, ← hY]; simp [List.getD_eq_getElem?_getD, hXb, hYb]
  rw [hen, ← hX, ← hY]
  have hXm : (X : Int) < (m : Int) := by have h2 := hP.ms; omega
  have hYm : (Y : Int) < (m' : Int) := by have h2 := hP'.ms; omega
  obtain ⟨b1, o1, rfl, hb1, e1⟩ := bools_at hl hXb
  obtain ⟨b2, o2, rfl, hb2, e2⟩ := bools_at hl' hYb
  clear hen hX hY hP hP' hl hl'
  generalize bs[X] = p1 at *
  generalize bs'[Y] = p2 at *
  obtain ⟨x0, x1, x2, x3⟩ := hpa.step ((Below.refl w.heap.size w).alloc (Nat.le_refl _) (.cells #[.int .i64 (X : Int), .int .i64 (Y : Int)] 65)) hla
  obtain ⟨y0, y1, y2, y3⟩ := hpb.step ((Below.refl w.heap.size w).alloc (Nat.le_refl _) (.cells #[.int .i64 (X : Int), .int .i64 (Y : Int)] 65)) hlb
  have g1 := (((Below.refl w.heap.size w).alloc (Nat.le_refl _) (.cells #[.int .i64 (X : Int), .int .i64 (Y : Int)] 65)).cell (p := ⟨b1, o1 + X, none⟩) hb1).trans e1
  have g2 := (((Below.refl w.heap.size w).alloc (Nat.le_refl _) (.cells #[.int .i64 (X : Int), .int .i64 (Y : Int)] 65)).cell (p := ⟨b2, o2 + Y, none⟩) hb2).trans e2
  clear hpa hpb e1 e2
  go_enter Try.func67, Try.ntmps67
  cases p1
  · go_wp2_with fail
    go_ret
    exact ⟨rfl, (Below.refl _ _).alloc (Nat.le_refl _) _⟩
  · go_wp2_with fail
    go_ret
    exact ⟨rfl, (Below.refl _ _).alloc (Nat.le_refl _) _⟩
set_option maxHeartbeats 3200000 in
theorem impl_no (S L : Int) (A : Option Addr) (n c : Nat) (B : Option Addr) (m d : Nat) (xs : List Int) (hx : xs.length = n) (hn : n ≤ 1048576) (hm : m ≤ 1048576) (S' L' : Int) (A' : Option Addr) (n' c' : Nat) (B' : Option Addr) (m' d' : Nat) (xs' : List Int) (hx' : xs'.length = n') (hn' : n' ≤ 1048576) (hm' : m' ≤ 1048576) (w : World)
    (hl : Rd w w.heap.size A (i64s xs)) (hl' : Rd w w.heap.size A' (i64s xs')) (h : alikeP S L n xs m S' L' n' xs' m' = false) :
    Calls Try.prog 39 #[.agg #[.int .i64 S, .int .i64 L, .slice A n c, .slice B m d], .agg #[.int .i64 S', .int .i64 L', .slice A' n' c', .slice B' m' d']] w (RetBP 0 0 0 0 [] [] false w) := by
  have HV1 := hid fun w hl => implValid_calls S L A n c B m d xs hx hn hm w hl
  have HV2 := hid fun w hl => implValid_calls S' L' A' n' c' B' m' d' xs' hx' hn' hm' w hl
  have HL := hid hl
  have HL' := hid hl'
  have H := hid h
  unfold alikeP at H
  clear hl hl' h hx hx'
  generalize validP S L n xs m = V1 at *
  generalize validP S' L' n' xs' m' = V2 at *
  go_enter Try.func39, Try.ntmps39
  go_wp2_with fail
  refine (HV1.out _ (rd_alloc (rd_alloc (rd_alloc HL.out _) _) _)).mono ?_
  rintro e w1 ⟨rfl, bel1⟩
  have hc := (old_cell bel1).1
  have hf := (old_cell bel1).2
  have s1 : w.heap.size + 3 ≤ w1.heap.size := by have := bel1.size; simp at this; omega
  have BEL := hid (((((Below.refl w.heap.size w).alloc (Nat.le_refl _) (.cells #[.int .i64 S, .int .i64 L, .slice A n c, .slice B m d] 31)).alloc (by simp) (.cells #[.int .i64 S', .int .i64 L', .slice A' n' c', .slice B' m' d'] 31)).alloc (by simp; omega) (.cells #[.int .i64 0, .int .i64 0, .slice none 0 0, .slice none 0 0] 31)).trans (bel1.mono (by simp; omega)))
  have PA := hid (show PlainAt w1 w.heap.size S L A n c B m d from ⟨by rw [hc _ _ (by simp; omega)]; go_simp, by rw [hc _ _ (by simp; omega)]; go_simp, by rw [hc _ _ (by simp; omega)]; go_simp, by rw [hc _ _ (by simp; omega)]; go_simp⟩)
  have PB := hid (show PlainAt w1 (w.heap.size + 1) S' L' A' n' c' B' m' d' from ⟨by rw [hc _ _ (by simp)]; go_simp, by rw [hc _ _ (by simp)]; go_simp, by rw [hc _ _ (by simp)]; go_simp, by rw [hc _ _ (by simp)]; go_simp⟩)
  have PZ := hid (show PlainAt w1 (w.heap.size + 2) 0 0 none 0 0 none 0 0 from ⟨by rw [hc _ _ (by simp)]; go_simp, by rw [hc _ _ (by simp)]; go_simp, by rw [hc _ _ (by simp)]; go_simp, by rw [hc _ _ (by simp)]; go_simp⟩)
  have FZ := hid (show ∀ o, w1.frozen? ⟨w.heap.size + 2, o, none⟩ = false from fun o => by rw [hf _ _ (by simp)]; go_simp)
  clear hc hf bel1
  obtain ⟨a0, a1, a2, a3⟩ := PA.out
  obtain ⟨b0, b1, b2, b3⟩ := PB.out
  obtain ⟨z0, z1, z2, z3⟩ := PZ.out
  have fz := FZ.out
  have k0 := fz 0
  have k1 := fz 1
  have k2 := fz 2
  have k3 := fz 3
  clear fz
  cases V1
  · go_wp2_with fail
    exact bodyPost_ret (v := .tuple #[.agg #[.int .i64 0, .int .i64 0, .slice none 0 0, .slice none 0 0], .bool false]) (by simp [results, Try.results39, go_sem, z0, z1, z2, z3]) rfl
      ⟨none, 0, none, 0, rfl, ownP_nil _, within_nil _ _, ((((BEL.out.setCell (by simp; omega) _).setCell (by simp; omega) _).setCell (by simp; omega) _).setCell (by simp; omega) _)⟩
  · go_wp2_with fail
    refine (HV2.out _ (rd_step HL'.out BEL.out)).mono ?_
    rintro e w2 ⟨rfl, bel⟩
    replace BEL := hid (BEL.out.trans (bel.mono (by omega)))
    replace PA := hid (PA.out.step bel (by omega))
    replace PB := hid (PB.out.step bel (by omega))
    replace PZ := hid (PZ.out.step bel (by omega))
    replace FZ := hid fun o => ((old_cell bel).2 (w.heap.size + 2) o (by omega)).trans (FZ.out o)
    have s2 := bel.size
    clear bel a0 a1 a2 a3 b0 b1 b2 b3 z0 z1 z2 z3 k0 k1 k2 k3
    obtain ⟨a0, a1, a2, a3⟩ := PA.out
    obtain ⟨b0, b1, b2, b3⟩ := PB.out
    obtain ⟨z0, z1, z2, z3⟩ := PZ.out
    have fz := FZ.out
    have k0 := fz 0
    have k1 := fz 1
    have k2 := fz 2
    have k3 := fz 3
    clear fz
    cases V2
    · go_wp2_with fail
      exact bodyPost_ret (v := .tuple #[.agg #[.int .i64 0, .int .i64 0, .slice none 0 0, .slice none 0 0], .bool false]) (by simp [results, Try.results39, go_sem, z0, z1, z2, z3]) rfl
        ⟨none, 0, none, 0, rfl, ownP_nil _, within_nil _ _, ((((BEL.out.setCell (by simp; omega) _).setCell (by simp; omega) _).setCell (by simp; omega) _).setCell (by simp; omega) _)⟩
    · have hLL : ¬ L = L' := by
        have := H.out
        intro e
        subst e
        simp at this
      have hLb : (L == L') = false := beq_eq_false_iff_ne.2 hLL
      have hLn : (L != L') = true := bne_iff_ne.2 hLL
      clear H
      go_wp2_with fail
      exact bodyPost_ret (v := .tuple #[.agg #[.int .i64 0, .int .i64 0, .slice none 0 0, .slice none 0 0], .bool false]) (by simp [results, Try.results39, go_sem, z0, z1, z2, z3]) rfl
        ⟨none, 0, none, 0, rfl, ownP_nil _, within_nil _ _, ((((BEL.out.setCell (by simp; omega) _).setCell (by simp; omega) _).setCell (by simp; omega) _).setCell (by simp; omega) _)⟩
theorem ownP_four {w : World} {A : Option Addr} {n c : Nat} {B : Option Addr} {m d : Nat} {xs : List Int} {bs : List Bool} (h : OwnP w A n c B m d xs bs) {lo hi : Nat} (hw : Within lo hi (rowsP n A m B)) {bz : Nat} (hz : bz < lo) (u1 u2 u3 u4 : Value) :
    OwnP ((((w.setCell ⟨bz, 0, none⟩ u1).setCell ⟨bz, 1, none⟩ u2).setCell ⟨bz, 2, none⟩ u3).setCell ⟨bz, 3, none⟩ u4) A n c B m d xs bs := by
  have wA : ∀ g, rowN n A = some g → g ≠ bz := fun g hg e => by have := hw _ (show rowN n A ∈ rowsP n A m B by simp [rowsP]) g hg; omega
  have wB : ∀ g, rowN m B = some g → g ≠ bz := fun g hg e => by have := hw _ (show rowN m B ∈ rowsP n A m B by simp [rowsP]) g hg; omega
  exact ⟨Go.Proofs.Ytlfmcdobiojdlaa.fnExactOtherPlain.OwnL.setc (Go.Proofs.Ytlfmcdobiojdlaa.fnExactOtherPlain.OwnL.setc (Go.Proofs.Ytlfmcdobiojdlaa.fnExactOtherPlain.OwnL.setc (Go.Proofs.Ytlfmcdobiojdlaa.fnExactOtherPlain.OwnL.setc h.a wA _) wA _) wA _) wA _,
    OwnB.setc (OwnB.setc (OwnB.setc (OwnB.setc h.b wB _) wB _) wB _) wB _, h.ab⟩
set_option maxHeartbeats 3200000 in
theorem impl_yes (s l : Nat) (A : Option Addr) (n c : Nat) (B : Option Addr) (m d : Nat) (xs : List Int) (bs : List Bool) (hP : Pl s l n xs m bs) (hn : n ≤ 1048576) (hm : m ≤ 1048576) (s' : Nat) (A' : Option Addr) (n' c' : Nat) (B' : Option Addr) (m' d' : Nat) (xs' : List Int) (bs' : List Bool) (hP' : Pl s' l n' xs' m' bs') (hn' : n' ≤ 1048576) (hm' : m' ≤ 1048576)
    (r : Option (Nat × List Int × List Bool)) (hr : Ans (nxA xs xs' l s') (enA bs bs' s') l 0 r) (w : World) (hl : ListsP w A B xs bs) (hl' : ListsP w A' B' xs' bs') (h : alikeP s l n xs m s' l n' xs' m' = true) :
    Calls Try.prog 39 #[.agg #[.int .i64 s, .int .i64 l, .slice A n c, .slice B m d], .agg #[.int .i64 s', .int .i64 l, .slice A' n' c', .slice B' m' d']] w (RetM l r w) := by
  have hv : validP s l n xs m = true ∧ validP s' l n' xs' m' = true := by
    unfold alikeP at h
    simp only [Bool.and_eq_true] at h
    exact h.1
  have HV1 := hid (hv.1 ▸ fun w hl => implValid_calls s l A n c B m d xs hP.xl hn hm w hl)
  have HV2 := hid (hv.2 ▸ fun w hl => implValid_calls s' l A' n' c' B' m' d' xs' hP'.xl hn' hm' w hl)
  have HL := hid hl
  have HL' := hid hl'
  have HP := hid hP
  have HP' := hid hP'
  have HR := hid hr
  clear hl hl' h hr hP hP' hv
  go_enter Try.func39, Try.ntmps39
  go_wp2_with fail
  refine (HV1.out _ (rd_alloc (rd_alloc (rd_alloc HL.out.a _) _) _)).mono ?_
  rintro e w1 ⟨rfl, bel1⟩
  have hc := (old_cell bel1).1
  have hf := (old_cell bel1).2
  have s1 : w.heap.size + 3 ≤ w1.heap.size := by have := bel1.size; simp at this; omega
  have BEL := hid (((((Below.refl w.heap.size w).alloc (Nat.le_refl _) (.cells #[.int .i64 (s : Int), .int .i64 (l : Int), .slice A n c, .slice B m d] 31)).alloc (by simp) (.cells #[.int .i64 (s' : Int), .int .i64 (l : Int), .slice A' n' c', .slice B' m' d'] 31)).alloc (by simp; omega) (.cells #[.int .i64 0, .int .i64 0, .slice none 0 0, .slice none 0 0] 31)).trans (bel1.mono (by simp; omega)))
  have PA := hid (show PlainAt w1 w.heap.size (s : Int) (l : Int) A n c B m d from ⟨by rw [hc _ _ (by simp; omega)]; go_simp, by rw [hc _ _ (by simp; omega)]; go_simp, by rw [hc _ _ (by simp; omega)]; go_simp, by rw [hc _ _ (by simp; omega)]; go_simp⟩)
  have PB := hid (show PlainAt w1 (w.heap.size + 1) (s' : Int) (l : Int) A' n' c' B' m' d' from ⟨by rw [hc _ _ (by simp)]; go_simp, by rw [hc _ _ (by simp)]; go_simp, by rw [hc _ _ (by simp)]; go_simp, by rw [hc _ _ (by simp)]; go_simp⟩)
  have PZ := hid (show PlainAt w1 (w.heap.size + 2) 0 0 none 0 0 none 0 0 from ⟨by rw [hc _ _ (by simp)]; go_simp, by rw [hc _ _ (by simp)]; go_simp, by rw [hc _ _ (by simp)]; go_simp, by rw [hc _ _ (by simp)]; go_simp⟩)
  have FZ := hid (show ∀ o, w1.frozen? ⟨w.heap.size + 2, o, none⟩ = false from fun o => by rw [hf _ _ (by simp)]; go_simp)
  clear hc hf bel1
  obtain ⟨a0, a1, a2, a3⟩ := PA.out
  obtain ⟨b0, b1, b2, b3⟩ := PB.out
  obtain ⟨z0, z1, z2, z3⟩ := PZ.out
  have fz := FZ.out
  have k0 := fz 0
  have k1 := fz 1
  have k2 := fz 2
  have k3 := fz 3
  clear fz
  go_wp2_with fail
  refine (HV2.out _ (rd_step HL'.out.a BEL.out)).mono ?_
  rintro e w2 ⟨rfl, bel⟩
  replace BEL := hid (BEL.out.trans (bel.mono (by omega)))
  replace PA := hid (PA.out.step bel (by omega))
  replace PB := hid (PB.out.step bel (by omega))
  replace PZ := hid (PZ.out.step bel (by omega))
  replace FZ := hid fun o => ((old_cell bel).2 (w.heap.size + 2) o (by omega)).trans (FZ.out o)
  have s2 := bel.size
  clear bel a0 a1 a2 a3 b0 b1 b2 b3 z0 z1 z2 z3 k0 k1 k2 k3
  obtain ⟨a0, a1, a2, a3⟩ := PA.out
  obtain ⟨b0, b1, b2, b3⟩ := PB.out
  obtain ⟨z0, z1, z2, z3⟩ := PZ.out
  have fz := FZ.out
  have k0 := fz 0
  have k1 := fz 1
  have k2 := fz 2
  have k3 := fz 3
  clear fz
  have hLb : ((l : Int) == (l : Int)) = true := beq_self_eq_true _
  have hLn : ((l : Int) != (l : Int)) = false := bne_self_eq_false _
  have hs2 : w.heap.size + 3 ≤ w2.heap.size := by have := s2; omega
  have HX := hid (exploreP_calls l (s * s') s' HP.out.l2 (Pl.mulb HP.out HP'.out) (Nat.mul_pos HP.out.s1 HP'.out.s1) (nxA xs xs' l s') (enA bs bs' s') (fun c k hc hk => nxA_lt HP.out HP'.out hc hk) #[.pointer (some ⟨w.heap.size, 0, none⟩), .pointer (some ⟨w.heap.size + 1, 0, none⟩)] #[.pointer (some ⟨w.heap.size, 0, none⟩), .pointer (some ⟨w.heap.size + 1, 0, none⟩)] w2
    (fun cc j w' hc hj hb => next_calls s l A n c B m d xs bs HP.out s' A' n' c' B' m' d' xs' bs' HP'.out w.heap.size (w.heap.size + 1) w' (PA.out.step hb (by omega)) (PB.out.step hb (by omega)) (Nat.lt_of_lt_of_le (by omega) hb.size) (Nat.lt_of_lt_of_le (by omega) hb.size) (rd_step HL.out.a (BEL.out.trans (hb.mono BEL.out.size))) (rd_step HL'.out.a (BEL.out.trans (hb.mono BEL.out.size))) cc j hc hj)
    (fun cc w' hc hb => ends_calls s l A n c B m d xs bs HP.out s' A' n' c' B' m' d' xs' bs' HP'.out w.heap.size (w.heap.size + 1) w' (PA.out.step hb (by omega)) (PB.out.step hb (by omega)) (Nat.lt_of_lt_of_le (by omega) hb.size) (Nat.lt_of_lt_of_le (by omega) hb.size) (rd_step HL.out.b (BEL.out.trans (hb.mono BEL.out.size))) (rd_step HL'.out.b (BEL.out.trans (hb.mono BEL.out.size))) cc hc)
    r HR.out)
  go_wp2_with fail
  refine HX.out.mono ?_
  rintro e w3 ⟨hr0, hr1⟩
  cases r with
  | none =>
    obtain ⟨A5, c5, B5, d5, rfl, ho, hwi, bel3⟩ := hr0 rfl
    have BEL3 := hid (BEL.out.trans (bel3.mono (by omega)))
    have PZ3 := hid (PZ.out.step bel3 (by omega))
    have FZ3 := hid fun o => ((old_cell bel3).2 (w.heap.size + 2) o (by omega)).trans (FZ.out o)
    clear bel3 hr0 hr1 a0 a1 a2 a3 b0 b1 b2 b3 z0 z1 z2 z3 k0 k1 k2 k3
    obtain ⟨z0, z1, z2, z3⟩ := PZ3.out
    have fz := FZ3.out
    have k0 := fz 0
    have k1 := fz 1
    have k2 := fz 2
    have k3 := fz 3
    clear fz
    go_wp2_with fail
    exact bodyPost_ret (v := .tuple #[.agg #[.int .i64 0, .int .i64 0, .slice A5 0 c5, .slice B5 0 d5], .bool false]) (by simp [results, Try.results39, go_sem, z0, z1, z2, z3]) rfl
      ⟨fun _ => ⟨A5, c5, B5, d5, rfl, ownP_four ho hwi (by omega) _ _ _ _, hwi.mono (by omega) (by simp [World.setCell]), ((((BEL3.out.setCell (by simp; omega) _).setCell (by simp; omega) _).setCell (by simp; omega) _).setCell (by simp; omega) _)⟩, fun _ _ _ h => nomatch h⟩
  | some x =>
    obtain ⟨i, N, D⟩ := x
    obtain ⟨A5, c5, B5, d5, rfl, ho, hwi, bel3⟩ := hr1 i N D rfl
    have BEL3 := hid (BEL.out.trans (bel3.mono (by omega)))
    have PZ3 := hid (PZ.out.step bel3 (by omega))
    have FZ3 := hid fun o => ((old_cell bel3).2 (w.heap.size + 2) o (by omega)).trans (FZ.out o)
    clear bel3 hr0 hr1 a0 a1 a2 a3 b0 b1 b2 b3 z0 z1 z2 z3 k0 k1 k2 k3
    obtain ⟨z0, z1, z2, z3⟩ := PZ3.out
    have fz := FZ3.out
    have k0 := fz 0
    have k1 := fz 1
    have k2 := fz 2
    have k3 := fz 3
    clear fz
    go_wp2_with fail
    exact bodyPost_ret (v := .tuple #[.agg #[.int .i64 i, .int .i64 l, .slice A5 N.length c5, .slice B5 D.length d5], .bool true]) (by simp [results, Try.results39, go_sem, z0, z1, z2, z3]) rfl
      ⟨(fun h => nomatch h), fun i' N' D' h => by
        cases h
        exact ⟨A5, c5, B5, d5, rfl, ownP_four ho hwi (by omega) _ _ _ _, hwi.mono (by omega) (by simp [World.setCell]), ((((BEL3.out.setCell (by simp; omega) _).setCell (by simp; omega) _).setCell (by simp; omega) _).setCell (by simp; omega) _)⟩⟩
end Go.Proofs.Ytlfmcdobiojdlaa.fnExactMeetPlain
