/-
  Machines of the laws: the copy of a machine, the equality of machines.
-/
import Derived.Test.YtenfleceeeimlaaMach2
namespace Go.Proofs.Ytenfleceeeimlaa.Num
open Go.RowKit Go.Proofs.Fl
set_option linter.unusedVariables false
set_option linter.unusedSimpArgs false
/-- a machine whose three lists are new -/
structure NewM (base : Nat) (w : World) (g0 g1 g2 : Nat) (n m q : Nat) (zs xs ys : List Int) : Prop where
  a : OwnA w g0 n zs
  s : OwnI w g1 m xs
  e : OwnI w g2 q ys
  lo : base ≤ g0
  l1 : g0 < g1
  l2 : g1 < g2
def RetMachine (S L : Int) (n m q : Nat) (zs xs ys : List Int) (w : World) (e : Ending) (w' : World) : Prop :=
  ∃ g0 g1 g2, e = .returned (.agg #[.int .i64 S, .int .i64 L, .slice (some ⟨g0, 0, none⟩) n n, .slice (some ⟨g1, 0, none⟩) m m, .slice (some ⟨g2, 0, none⟩) q q]) ∧ NewM w.heap.size w' g0 g1 g2 n m q zs xs ys ∧ Below w.heap.size w w'
set_option maxHeartbeats 1600000 in
theorem toMachine_calls (S L : Int) (A : Option Addr) (n c : Nat) (B : Option Addr) (m d : Nat) (C : Option Addr) (q f : Nat) (zs xs ys : List Int) (hz : zs.length = n * 4) (hx : xs.length = m) (hy : ys.length = q) (hn : n ≤ 1048576) (hm : m ≤ 1048576) (hq : q ≤ 1048576) (w : World)
    (ha : Rd w w.heap.size A (i64s zs)) (hb : Rd w w.heap.size B (i64s xs)) (hc : Rd w w.heap.size C (i64s ys)) :
    Calls Try.prog 10 #[.agg #[.int .i64 S, .int .i64 L, .slice A n c, .slice B m d, .slice C q f]] w (RetMachine S L n m q zs xs ys w) := by
  have HA := hid ha
  have HB := hid hb
  have HC := hid hc
  have T1 := hid (toArcS_calls A n c zs hz hn)
  have T2 := hid (toInt64S_calls B m d xs hx hm)
  have T3 := hid (toInt64S_calls C q f ys hy hq)
  clear ha hb hc hz hx hy
  go_enter Try.func10, Try.ntmps10
  go_wp2_with fail
  refine (T1.out _ (rd_alloc (rd_alloc (rd_alloc HA.out _) _) _)).mono ?_
  rintro e w1 ⟨g0, rfl, hg0, own1, bel1⟩
  obtain ⟨hc, hf⟩ := old_cell bel1
  have hz : w.heap.size + 2 < w1.heap.size := by have := bel1.size; simp at this; omega
  have HG0 : w.heap.size + 2 < g0 := by simp at hg0; omega
  have O1 := hid own1
  have BEL1 := hid (((((Below.refl w.heap.size w).alloc (Nat.le_refl _) _).alloc (by simp) _).alloc (by simp; omega) _).trans (bel1.mono (by simp; omega)))
  clear own1 bel1 hg0
  go_wp2_with fail
  have BEL2 := hid (BEL1.out.setCell (p := ⟨w.heap.size + 1 + 1, 2, none⟩) (by simp; omega) (.slice (some ⟨g0, 0, none⟩) n n))
  have O2 := hid (O1.out.other (p := ⟨w.heap.size + 1 + 1, 2, none⟩) (by simp; omega) (.slice (some ⟨g0, 0, none⟩) n n))
  refine (T2.out _ (rd_step HB.out BEL2.out)).mono ?_
  rintro e w2 ⟨g1, rfl, own2, bel2⟩
  obtain ⟨hc2, hf2⟩ := old_cell bel2
  have hz2 : w.heap.size + 2 < w2.heap.size := by have := bel2.size; simp at this; omega
  have HG1 : g0 < g1 := by have h1 := own_base own2; have h2 := O1.out.lt; simp at h1; omega
  have O3 := hid (O2.out.step bel2)
  have P3 := hid (OwnI.of own2)
  have BEL3 := hid (BEL2.out.trans (bel2.mono BEL2.out.size))
  have b0 : w2.cell? ⟨w.heap.size + 1 + 1, 0, none⟩ = some (.int .i64 S) := by rw [hc2 _ _ (by simp; omega)]; go_simp
  have b1 : w2.cell? ⟨w.heap.size + 1 + 1, 1, none⟩ = some (.int .i64 L) := by rw [hc2 _ _ (by simp; omega)]; go_simp
  have b2 : w2.cell? ⟨w.heap.size + 1 + 1, 2, none⟩ = some (.slice (some ⟨g0, 0, none⟩) n n) := by rw [hc2 _ _ (by simp; omega)]; go_simp
  have b3 : w2.cell? ⟨w.heap.size + 1 + 1, 3, none⟩ = some (.slice none 0 0) := by rw [hc2 _ _ (by simp; omega)]; go_simp
  have b4 : w2.cell? ⟨w.heap.size + 1 + 1, 4, none⟩ = some (.slice none 0 0) := by rw [hc2 _ _ (by simp; omega)]; go_simp
  have h3 : w2.frozen? ⟨w.heap.size + 1 + 1, 3, none⟩ = false := by rw [hf2 _ _ (by simp; omega)]; go_simp
  have h4 : w2.frozen? ⟨w.heap.size + 1 + 1, 4, none⟩ = false := by rw [hf2 _ _ (by simp; omega)]; go_simp
  have a0 : w2.cell? ⟨w.heap.size + 1, 0, none⟩ = some (.int .i64 0) := by rw [hc2 _ _ (by simp; omega)]; go_simp
  have f0 : w2.frozen? ⟨w.heap.size + 1, 0, none⟩ = false := by rw [hf2 _ _ (by simp; omega)]; go_simp
  have a1 : w2.cell? ⟨w.heap.size + 1, 1, none⟩ = some (.int .i64 0) := by rw [hc2 _ _ (by simp; omega)]; go_simp
  have f1 : w2.frozen? ⟨w.heap.size + 1, 1, none⟩ = false := by rw [hf2 _ _ (by simp; omega)]; go_simp
  have a2 : w2.cell? ⟨w.heap.size + 1, 2, none⟩ = some (.slice none 0 0) := by rw [hc2 _ _ (by simp; omega)]; go_simp
  have f2 : w2.frozen? ⟨w.heap.size + 1, 2, none⟩ = false := by rw [hf2 _ _ (by simp; omega)]; go_simp
  have a3 : w2.cell? ⟨w.heap.size + 1, 3, none⟩ = some (.slice none 0 0) := by rw [hc2 _ _ (by simp; omega)]; go_simp
  have f3 : w2.frozen? ⟨w.heap.size + 1, 3, none⟩ = false := by rw [hf2 _ _ (by simp; omega)]; go_simp
  have a4 : w2.cell? ⟨w.heap.size + 1, 4, none⟩ = some (.slice none 0 0) := by rw [hc2 _ _ (by simp; omega)]; go_simp
  have f4 : w2.frozen? ⟨w.heap.size + 1, 4, none⟩ = false := by rw [hf2 _ _ (by simp; omega)]; go_simp
  have d4 : w2.cell? ⟨w.heap.size, 4, none⟩ = some (.slice C q f) := by rw [hc2 _ _ (by simp; omega)]; go_simp
  clear own2 bel2 O1 O2 BEL1 BEL2 hc hf hc2 hf2
  go_wp2_with fail
  have BEL4 := hid (BEL3.out.setCell (p := ⟨w.heap.size + 1 + 1, 3, none⟩) (by simp; omega) (.slice (some ⟨g1, 0, none⟩) m m))
  have O4 := hid (O3.out.other (p := ⟨w.heap.size + 1 + 1, 3, none⟩) (by simp; omega) (.slice (some ⟨g1, 0, none⟩) m m))
  have P4 := hid (P3.out.other (p := ⟨w.heap.size + 1 + 1, 3, none⟩) (by simp; omega) (.slice (some ⟨g1, 0, none⟩) m m))
  refine (T3.out _ (rd_step HC.out BEL4.out)).mono ?_
  rintro e w3 ⟨g2, rfl, own3, bel3⟩
  obtain ⟨hc3, hf3⟩ := old_cell bel3
  have hz3 : w.heap.size + 2 < w3.heap.size := by have := bel3.size; simp at this; omega
  have HG2 : g1 < g2 := by have h1 := own_base own3; have h2 := P3.out.lt; simp at h1; omega
  have O5 := hid (O4.out.step bel3)
  have P5 := hid (P4.out.step bel3)
  have Q5 := hid (OwnI.of own3)
  have BEL5 := hid (BEL4.out.trans (bel3.mono BEL4.out.size))
  have e0 : w3.cell? ⟨w.heap.size + 1 + 1, 0, none⟩ = some (.int .i64 S) := by rw [hc3 _ _ (by simp; omega)]; go_simp
  have e1 : w3.cell? ⟨w.heap.size + 1 + 1, 1, none⟩ = some (.int .i64 L) := by rw [hc3 _ _ (by simp; omega)]; go_simp
  have e2 : w3.cell? ⟨w.heap.size + 1 + 1, 2, none⟩ = some (.slice (some ⟨g0, 0, none⟩) n n) := by rw [hc3 _ _ (by simp; omega)]; go_simp
  have e3 : w3.cell? ⟨w.heap.size + 1 + 1, 3, none⟩ = some (.slice (some ⟨g1, 0, none⟩) m m) := by rw [hc3 _ _ (by simp; omega)]; go_simp
  have e4 : w3.cell? ⟨w.heap.size + 1 + 1, 4, none⟩ = some (.slice none 0 0) := by rw [hc3 _ _ (by simp; omega)]; go_simp
  have h5 : w3.frozen? ⟨w.heap.size + 1 + 1, 4, none⟩ = false := by rw [hf3 _ _ (by simp; omega)]; go_simp
  have k0 : w3.cell? ⟨w.heap.size + 1, 0, none⟩ = some (.int .i64 0) := by rw [hc3 _ _ (by simp; omega)]; go_simp
  have j0 : w3.frozen? ⟨w.heap.size + 1, 0, none⟩ = false := by rw [hf3 _ _ (by simp; omega)]; go_simp
  have k1 : w3.cell? ⟨w.heap.size + 1, 1, none⟩ = some (.int .i64 0) := by rw [hc3 _ _ (by simp; omega)]; go_simp
  have j1 : w3.frozen? ⟨w.heap.size + 1, 1, none⟩ = false := by rw [hf3 _ _ (by simp; omega)]; go_simp
  have k2 : w3.cell? ⟨w.heap.size + 1, 2, none⟩ = some (.slice none 0 0) := by rw [hc3 _ _ (by simp; omega)]; go_simp
  have j2 : w3.frozen? ⟨w.heap.size + 1, 2, none⟩ = false := by rw [hf3 _ _ (by simp; omega)]; go_simp
  have k3 : w3.cell? ⟨w.heap.size + 1, 3, none⟩ = some (.slice none 0 0) := by rw [hc3 _ _ (by simp; omega)]; go_simp
  have j3 : w3.frozen? ⟨w.heap.size + 1, 3, none⟩ = false := by rw [hf3 _ _ (by simp; omega)]; go_simp
  have k4 : w3.cell? ⟨w.heap.size + 1, 4, none⟩ = some (.slice none 0 0) := by rw [hc3 _ _ (by simp; omega)]; go_simp
  have j4 : w3.frozen? ⟨w.heap.size + 1, 4, none⟩ = false := by rw [hf3 _ _ (by simp; omega)]; go_simp
  clear own3 bel3 O3 P3 O4 P4 BEL3 BEL4 hc3 hf3 a0 a1 a2 a3 a4 f0 f1 f2 f3 f4 b0 b1 b2 b3 b4 h3 h4 d4
  go_wp2_with fail
  exact bodyPost_ret (v := .agg #[.int .i64 S, .int .i64 L, .slice (some ⟨g0, 0, none⟩) n n, .slice (some ⟨g1, 0, none⟩) m m, .slice (some ⟨g2, 0, none⟩) q q]) (by simp [results, Try.results10, go_sem, e0, e1, e2, e3, e4, k0, k1, k2, k3, k4]) rfl
    ⟨g0, g1, g2, rfl, ⟨((((((O5.out.other (by simp; omega) _).other (by simp; omega) _).other (by simp; omega) _).other (by simp; omega) _).other (by simp; omega) _).other (by simp; omega) _), ((((((P5.out.other (by simp; omega) _).other (by simp; omega) _).other (by simp; omega) _).other (by simp; omega) _).other (by simp; omega) _).other (by simp; omega) _), ((((((Q5.out.other (by simp; omega) _).other (by simp; omega) _).other (by simp; omega) _).other (by simp; omega) _).other (by simp; omega) _).other (by simp; omega) _), by omega, HG1, HG2⟩, ((((((BEL5.out.setCell (by simp; try omega) _).setCell (by simp; try omega) _).setCell (by simp; try omega) _).setCell (by simp; try omega) _).setCell (by simp; try omega) _).setCell (by simp; try omega) _)⟩
set_option maxHeartbeats 1600000 in
theorem eqMachine_yes (S L : Int) (A : Option Addr) (n c : Nat) (B : Option Addr) (m d : Nat) (C : Option Addr) (q f : Nat) (A' : Option Addr) (c' : Nat) (B' : Option Addr) (d' : Nat) (C' : Option Addr) (f' : Nat) (zs xs ys : List Int) (hz : zs.length = n * 4) (hx : xs.length = m) (hy : ys.length = q) (hn : n ≤ 1048576) (hm : m ≤ 1048576) (hq : q ≤ 1048576) (w : World)
    (ha : Rd w w.heap.size A (i64s zs)) (hb : Rd w w.heap.size B (i64s xs)) (hc : Rd w w.heap.size C (i64s ys)) (ha' : Rd w w.heap.size A' (i64s zs)) (hb' : Rd w w.heap.size B' (i64s xs)) (hc' : Rd w w.heap.size C' (i64s ys)) :
    Calls Try.prog 12 #[.agg #[.int .i64 S, .int .i64 L, .slice A n c, .slice B m d, .slice C q f], .agg #[.int .i64 S, .int .i64 L, .slice A' n c', .slice B' m d', .slice C' q f']] w (RetG (.bool true) w) := by
  have h1 : (S != S) = false := bne_self_eq_false _
  have h2 : (L != L) = false := bne_self_eq_false _
  have HA := hid ha
  have HB := hid hb
  have HC := hid hc
  have HA' := hid ha'
  have HB' := hid hb'
  have HC' := hid hc'
  have T1 := hid (eqArcS_yes A A' n c c' zs hz hn)
  have T2 := hid (eqInt64S_yes B B' m d d' xs hx hm)
  have T3 := hid (eqInt64S_yes C C' q f f' ys hy hq)
  clear ha hb hc ha' hb' hc' hz hx hy
  go_enter Try.func12, Try.ntmps12
  go_wp2_with fail
  refine (T1.out _ (rd_alloc (rd_alloc HA.out _) _) (rd_alloc (rd_alloc HA'.out _) _)).mono ?_
  rintro e w1 ⟨rfl, bel1⟩
  obtain ⟨hc, hf⟩ := old_cell bel1
  have BEL1 := hid ((((Below.refl w.heap.size w).alloc (Nat.le_refl _) _).alloc (by simp) _).trans (bel1.mono (by simp; omega)))
  have a3 : w1.cell? ⟨w.heap.size, 3, none⟩ = some (.slice B m d) := by rw [hc _ _ (by simp; omega)]; go_simp
  have a4 : w1.cell? ⟨w.heap.size, 4, none⟩ = some (.slice C q f) := by rw [hc _ _ (by simp; omega)]; go_simp
  have b3 : w1.cell? ⟨w.heap.size + 1, 3, none⟩ = some (.slice B' m d') := by rw [hc _ _ (by simp)]; go_simp
  have b4 : w1.cell? ⟨w.heap.size + 1, 4, none⟩ = some (.slice C' q f') := by rw [hc _ _ (by simp)]; go_simp
  clear hc hf bel1
  go_wp2_with fail
  refine (T2.out _ (rd_step HB.out BEL1.out) (rd_step HB'.out BEL1.out)).mono ?_
  rintro e w2 ⟨rfl, j, rfl⟩
  go_wp2_with fail
  refine (T3.out _ ((rd_step HC.out BEL1.out).drewN _) ((rd_step HC'.out BEL1.out).drewN _)).mono ?_
  rintro e w2 ⟨rfl, j2, rfl⟩
  go_wp2_with fail
  go_ret
  exact ⟨rfl, below_drewN BEL1.out _⟩
end Go.Proofs.Ytenfleceeeimlaa.Num
