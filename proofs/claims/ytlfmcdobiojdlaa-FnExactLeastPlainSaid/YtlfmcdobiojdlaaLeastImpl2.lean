/-
  LeastPlain, by the program.
-/
import Derived.Test.YtlfmcdobiojdlaaLeastImpl
namespace Go.Proofs.Ytlfmcdobiojdlaa.fnExactLeastPlain
open Go.RowKit Go.Proofs.Fl Go.Proofs.Ytlfmcdobiojdlaa.Num Go.Proofs.Exp
open Go.Proofs.Ytlfmcdobiojdlaa.fnExactApartWord (Pl toN step_of bel_al)
open Go.Proofs.Ytlfmcdobiojdlaa.fnExactOtherPlain (RetBP ownP_nil within_nil)
set_option linter.unusedVariables false
set_option linter.unusedSimpArgs false
set_option maxHeartbeats 3200000 in
theorem impl_no (S L : Int) (A : Option Addr) (n c : Nat) (B : Option Addr) (m d : Nat) (xs : List Int) (hx : xs.length = n) (hn : n ≤ 1048576) (hm : m ≤ 1048576) (w : World) (hl : Rd w w.heap.size A (i64s xs)) (h : validP S L n xs m = false) :
    Calls Try.prog 41 #[.agg #[.int .i64 S, .int .i64 L, .slice A n c, .slice B m d]] w (RetBP 0 0 0 0 [] [] false w) := by
  have HV := hid (h ▸ fun (w : World) ha => implValid_calls S L A n c B m d xs hx hn hm w ha)
  have HL := hid hl
  clear hl h hx
  go_enter Try.func41, Try.ntmps41
  go_wp2_with fail
  refine (HV.out _ (rd_alloc (rd_alloc HL.out _) _)).mono ?_
  rintro e w1 ⟨rfl, bel1⟩
  have hc := (old_cell bel1).1
  have hf := (old_cell bel1).2
  have BEL := hid ((((Below.refl w.heap.size w).alloc (Nat.le_refl _) (.cells #[.int .i64 S, .int .i64 L, .slice A n c, .slice B m d] 31)).alloc (by simp) (.cells #[.int .i64 0, .int .i64 0, .slice none 0 0, .slice none 0 0] 31)).trans (bel1.mono (by simp; omega)))
  obtain ⟨z0, z1, z2, z3⟩ := show PlainAt w1 (w.heap.size + 1) 0 0 none 0 0 none 0 0 from ⟨by rw [hc _ _ (by simp)]; go_simp, by rw [hc _ _ (by simp)]; go_simp, by rw [hc _ _ (by simp)]; go_simp, by rw [hc _ _ (by simp)]; go_simp⟩
  have fz : ∀ o, w1.frozen? ⟨w.heap.size + 1, o, none⟩ = false := fun o => by rw [hf _ _ (by simp)]; go_simp
  have j0 := fz 0
  have j1 := fz 1
  have j2 := fz 2
  have j3 := fz 3
  clear fz hc hf bel1
  go_wp2_with fail
  exact bodyPost_ret (v := .tuple #[.agg #[.int .i64 0, .int .i64 0, .slice none 0 0, .slice none 0 0], .bool false]) (by simp [results, Try.results41, go_sem, z0, z1, z2, z3]) rfl
    ⟨none, 0, none, 0, rfl, ownP_nil _, within_nil _ _, ((((BEL.out.setCell (by simp) _).setCell (by simp) _).setCell (by simp) _).setCell (by simp) _)⟩
theorem keep_four {w : World} {a g h bz : Nat} {v0 v1 v2 : Value} (hh : w.cell? ⟨a, 1, none⟩ = some v0 ∧ w.cell? ⟨g, 0, none⟩ = some v1 ∧ w.cell? ⟨h, 0, none⟩ = some v2) (ha : a ≠ bz) (hg : g ≠ bz) (hk : h ≠ bz) (u0 u1 u2 u3 : Value) :
    ((((w.setCell ⟨bz, 0, none⟩ u0).setCell ⟨bz, 1, none⟩ u1).setCell ⟨bz, 2, none⟩ u2).setCell ⟨bz, 3, none⟩ u3).cell? ⟨a, 1, none⟩ = some v0 ∧ ((((w.setCell ⟨bz, 0, none⟩ u0).setCell ⟨bz, 1, none⟩ u1).setCell ⟨bz, 2, none⟩ u2).setCell ⟨bz, 3, none⟩ u3).cell? ⟨g, 0, none⟩ = some v1 ∧ ((((w.setCell ⟨bz, 0, none⟩ u0).setCell ⟨bz, 1, none⟩ u1).setCell ⟨bz, 2, none⟩ u2).setCell ⟨bz, 3, none⟩ u3).cell? ⟨h, 0, none⟩ = some v2 := by
  obtain ⟨h0, h1, h2⟩ := hh
  refine ⟨?_, ?_, ?_⟩ <;> go_simp
theorem run_store_func (P : Program) (w : World) (a : Addr) (m : Mode) (f : Fn) (x y : Array Value) : (store a (.func f x y) m).run P w = stored P w a (.func f x y) m := run_store P w a _ m rfl
attribute [local go_sem] run_store_func
set_option maxRecDepth 100000 in
set_option maxHeartbeats 6400000 in
theorem impl_yes (s l : Nat) (A : Option Addr) (n c : Nat) (B : Option Addr) (m d : Nat) (xs : List Int) (bs : List Bool) (hP : Pl s l n xs m bs) (hn : n ≤ 1048576) (hm : m ≤ 1048576)
    (i : Nat) (N : List Int) (D : List Bool) (hr : Ans (nxL xs bs s l) (enC xs bs s l) l (clF xs bs s l 0) (some (i, N, D))) (w : World) (hl : ListsP w A B xs bs) (h : validP s l n xs m = true) :
    Calls Try.prog 41 #[.agg #[.int .i64 (s : Int), .int .i64 (l : Int), .slice A n c, .slice B m d]] w (RetBP i l N.length D.length N D true w) := by
  have HV := hid (h ▸ fun (w : World) ha => implValid_calls s l A n c B m d xs hP.xl hn hm w ha)
  have HC := hid (fun (w : World) hl => classesOf_calls s l A n c B m d xs bs hP w hl)
  have HP := hid hP
  have HL := hid hl
  have HR := hid hr
  have hs1 := hP.s1
  have hs2 := hP.s2
  clear hl h hP hr
  go_enter Try.func41, Try.ntmps41
  go_wp2_with fail
  refine (HV.out _ (rd_alloc (rd_alloc HL.out.a _) _)).mono ?_
  rintro e w1 ⟨rfl, bel1⟩
  have hc := (old_cell bel1).1
  have hf := (old_cell bel1).2
  have s1 : w.heap.size + 2 ≤ w1.heap.size := by have := bel1.size; simp at this; omega
  have BEL := hid ((((Below.refl w.heap.size w).alloc (Nat.le_refl _) (.cells #[.int .i64 (s : Int), .int .i64 (l : Int), .slice A n c, .slice B m d] 31)).alloc (by simp) (.cells #[.int .i64 0, .int .i64 0, .slice none 0 0, .slice none 0 0] 31)).trans (bel1.mono (by simp; omega)))
  have PA := hid (show PlainAt w1 w.heap.size s l A n c B m d from ⟨by rw [hc _ _ (by simp; omega)]; go_simp, by rw [hc _ _ (by simp; omega)]; go_simp, by rw [hc _ _ (by simp; omega)]; go_simp, by rw [hc _ _ (by simp; omega)]; go_simp⟩)
  have PZ := hid (show PlainAt w1 (w.heap.size + 1) 0 0 none 0 0 none 0 0 from ⟨by rw [hc _ _ (by simp)]; go_simp, by rw [hc _ _ (by simp)]; go_simp, by rw [hc _ _ (by simp)]; go_simp, by rw [hc _ _ (by simp)]; go_simp⟩)
  have FZ := hid (show ∀ o, w1.frozen? ⟨w.heap.size + 1, o, none⟩ = false from fun o => by rw [hf _ _ (by simp)]; go_simp)
  clear hc hf bel1
  obtain ⟨a0, a1, a2, a3⟩ := PA.out
  go_wp2_with fail
  refine (HC.out w1 (HL.out.step BEL.out)).mono ?_
  rintro e w2 ⟨g, rfl, og, hg1, bel2⟩
  have s2 := bel2.size
  have hg2 := og.lt
  have BEL2 := hid (BEL.out.trans (bel2.mono (by omega)))
  have B3 := hid (show Below w2.heap.size w2 ((w2.alloc (.cells #[.slice (some ⟨g, 0, none⟩) s s] 22)).alloc (.cells #[.func (.func 70) #[] #[.pointer (some ⟨w2.heap.size, 0, none⟩)]] 71)) from ((Below.refl w2.heap.size w2).alloc (Nat.le_refl _) _).alloc (by simp) _)
  have OG3 := hid (og.step B3.out)
  have PA3 := hid ((PA.out.step bel2 (by omega)).step B3.out (by omega))
  have PZ3 := hid ((PZ.out.step bel2 (by omega)).step B3.out (by omega))
  have FZ3 := hid (fun o => (B3.out.frozen (p := ⟨w.heap.size + 1, o, none⟩) (show w.heap.size + 1 < w2.heap.size by omega)).trans (((old_cell bel2).2 (w.heap.size + 1) o (by omega)).trans (FZ.out o)))
  have c1 : ((w2.alloc (.cells #[.slice (some ⟨g, 0, none⟩) s s] 22)).alloc (.cells #[.func (.func 70) #[] #[.pointer (some ⟨w2.heap.size, 0, none⟩)]] 71)).cell? ⟨w2.heap.size, 0, none⟩ = some (.slice (some ⟨g, 0, none⟩) s s) := by go_simp
  have c2 : ((w2.alloc (.cells #[.slice (some ⟨g, 0, none⟩) s s] 22)).alloc (.cells #[.func (.func 70) #[] #[.pointer (some ⟨w2.heap.size, 0, none⟩)]] 71)).cell? ⟨w2.heap.size + 1, 0, none⟩ = some (.func (.func 70) #[] #[.pointer (some ⟨w2.heap.size, 0, none⟩)]) := by go_simp
  have zz : ((w2.alloc (.cells #[.slice (some ⟨g, 0, none⟩) s s] 22)).alloc (.cells #[.func (.func 70) #[] #[.pointer (some ⟨w2.heap.size, 0, none⟩)]] 71)).heap.size = w2.heap.size + 2 := by simp
  clear og bel2 a0 a1 a2 a3 PA PZ FZ
  go_wp2_with fail
  have cv := OG3.out.cell (show 0 < s from hs1)
  rw [nats_getD _ _ _ (clsL_get xs bs s l s (show 0 < s from hs1))] at cv
  have hc0 := cl_lt HP.out (show 0 < s from hs1)
  have HC0 := hid (show Cls.cls (enL bs) (toN xs l) l s 0 = clF xs bs s l 0 from rfl)
  rw [HC0.out] at cv
  generalize (w2.alloc (.cells #[.slice (some ⟨g, 0, none⟩) s s] 22)).alloc (.cells #[.func (.func 70) #[] #[.pointer (some ⟨w2.heap.size, 0, none⟩)]] 71) = w3 at *
  generalize hgc : w2.heap.size = gc at *
  generalize hcc : clF xs bs s l 0 = c0 at *
  have hsI : (0 : Int) < (s : Int) := by omega
  have hs0 : 0 < s := hs1
  have hs00 : ((0 : Nat) : Int) < (s : Int) := by omega
  have BE3 := hid (BEL2.out.trans (B3.out.mono (by omega)))
  have hM := nCl_le xs bs s l
  have D0 := hid (show Below w3.heap.size w3 w3.drew from (Below.refl _ _).drew)
  have HX := hid (exploreI_calls l (nCl xs bs s l) c0 hc0 HP.out.l2 (by omega) (nCl_pos HP.out) (nxL xs bs s l) (enC xs bs s l) (fun c k hc hk => nxL_lt HP.out hc hk) #[.pointer (some ⟨gc, 0, none⟩), .pointer (some ⟨w.heap.size, 0, none⟩), .pointer (some ⟨gc + 1, 0, none⟩)] #[.pointer (some ⟨w.heap.size, 0, none⟩), .pointer (some ⟨gc + 1, 0, none⟩)] w3.drew
    (fun cc j w' hc hj hb0 => by
      have hb := D0.out.trans hb0
      exact least2_calls HP.out g gc w.heap.size (gc + 1) w' (OG3.out.step hb) ((hb.cell (p := ⟨gc, 0, none⟩) (by show gc < w3.heap.size; omega)).trans c1) (Nat.lt_of_lt_of_le (by omega) hb.size) (PA3.out.step hb (by omega)) (Nat.lt_of_lt_of_le (by omega) hb.size) ((hb.cell (p := ⟨gc + 1, 0, none⟩) (by show gc + 1 < w3.heap.size; omega)).trans c2) (Nat.lt_of_lt_of_le (by omega) hb.size) (rd_step HL.out.a (BE3.out.trans (hb.mono BE3.out.size))) cc j hc hj)
    (fun cc w' hc hb0 => by
      have hb := D0.out.trans hb0
      exact least3_calls HP.out g gc w.heap.size (gc + 1) w' (OG3.out.step hb) ((hb.cell (p := ⟨gc, 0, none⟩) (by show gc < w3.heap.size; omega)).trans c1) (PA3.out.step hb (by omega)) ((hb.cell (p := ⟨gc + 1, 0, none⟩) (by show gc + 1 < w3.heap.size; omega)).trans c2) (rd_step HL.out.b (BE3.out.trans (hb.mono BE3.out.size))) cc hc)
    (some (i, N, D)) HR.out)
  have HSF := hid (show ∀ w', Below w3.heap.size w3 w' → (w'.cell? ⟨w.heap.size, 1, none⟩ = some (.int .i64 (l : Int)) ∧ w'.cell? ⟨gc, 0, none⟩ = some (.slice (some ⟨g, 0, none⟩) s s) ∧ w'.cell? ⟨g, 0, none⟩ = some (.int .i64 (c0 : Int))) from fun w' hb => ⟨(PA3.out.step hb (by omega)).c1, (hb.cell (p := ⟨gc, 0, none⟩) (by show gc < w3.heap.size; omega)).trans c1, (hb.cell (p := ⟨g, 0, none⟩) (by show g < w3.heap.size; omega)).trans cv⟩)
  go_region_held3 (fun w' => w'.cell? ⟨w.heap.size, 1, none⟩ = some (.int .i64 (l : Int)) ∧ w'.cell? ⟨gc, 0, none⟩ = some (.slice (some ⟨g, 0, none⟩) s s) ∧ w'.cell? ⟨g, 0, none⟩ = some (.int .i64 (c0 : Int)))
    (first | with_reducible exact HSF.out _ D0.out | with_reducible exact HSF.out _ DA.out | with_reducible exact HSE.out | fail)
    (first | (go_at_call 73; refine HX.out.mono ?_; rintro e wa ⟨_, hr1⟩; obtain ⟨A5, c5, B5, d5, rfl, ho, hwi, ba⟩ := hr1 i N D rfl; have DA := hid (D0.out.trans (ba.mono D0.out.size)); have HO := hid ho; have HW := hid hwi; have PZA := PZ3.out.step DA.out (by omega); obtain ⟨z0, z1, z2, z3⟩ := PZA; have fz := (fun o => (DA.out.frozen (p := ⟨w.heap.size + 1, o, none⟩) (show w.heap.size + 1 < w3.heap.size by omega)).trans (FZ3.out o)); have k0 := fz 0; have k1 := fz 1; have k2 := fz 2; have k3 := fz 3; have HSE := hid (keep_four (bz := w.heap.size + 1) (HSF.out wa DA.out) (by omega) (by omega) (by omega) (.int .i64 (i : Int)) (.int .i64 (l : Int)) (.slice A5 N.length c5) (.slice B5 D.length d5)); clear ho hwi ba fz hr1) | fail)
  all_goals
    go_wp2_with fail
    exact bodyPost_ret (v := .tuple #[.agg #[.int .i64 i, .int .i64 l, .slice A5 N.length c5, .slice B5 D.length d5], .bool true]) (by simp [results, Try.results41, go_sem, z0, z1, z2, z3]) rfl
      ⟨A5, c5, B5, d5, rfl, ownP_four HO.out HW.out (bz := w.heap.size + 1) (by show w.heap.size + 1 < w3.heap.size; omega) _ _ _ _, HW.out.mono (by show w.heap.size ≤ w3.heap.size; omega) (by simp [World.setCell]), (((((BE3.out.trans (DA.out.mono BE3.out.size)).setCell (by simp) _).setCell (by simp) _).setCell (by simp) _).setCell (by simp) _)⟩
end Go.Proofs.Ytlfmcdobiojdlaa.fnExactLeastPlain
