/-
  The laws' copy of a plain machine, with lists of its own.
-/
import Derived.Test.YtlfmcdobiojdlaaMarkP
namespace Go.Proofs.Ytlfmcdobiojdlaa.Num
open Go.RowKit Go.Proofs.Fl
set_option linter.unusedVariables false
set_option linter.unusedSimpArgs false
theorem rowN_is {n g x : Nat} (h : rowN n (some ⟨g, 0, none⟩) = some x) : x = g := by
  unfold rowN at h
  split at h
  · cases h
  · simp [blk] at h; exact h.symm
theorem OwnB.setc {w : World} {A : Option Addr} {n c : Nat} {bs : List Bool} (h : OwnB w A n c bs) {p : Addr} (hp : ∀ g, rowN n A = some g → g ≠ p.block) (u : Value) : OwnB (w.setCell p u) A n c bs :=
  h.apart ((Kept.refl w [some p.block]).set (by simp) u) fun g hg r hr e => by simp at hr; subst hr; simp at e; exact hp g hg e
def RetNewP (S L : Int) (n m : Nat) (xs : List Int) (bs : List Bool) (w : World) (e : Ending) (w' : World) : Prop :=
  ∃ g1 g2, e = .returned (.agg #[.int .i64 S, .int .i64 L, .slice (some ⟨g1, 0, none⟩) n n, .slice (some ⟨g2, 0, none⟩) m m]) ∧ OwnI w' g1 n xs ∧ OwnB w' (some ⟨g2, 0, none⟩) m m bs ∧ w.heap.size ≤ g1 ∧ g1 < g2 ∧ Below w.heap.size w w'
set_option maxHeartbeats 800000 in
theorem toP (S L : Int) (A : Option Addr) (n c : Nat) (B : Option Addr) (m d : Nat) (xs : List Int) (bs : List Bool) (hx : xs.length = n) (hb : bs.length = m) (hn : n ≤ 1048576) (hm : m ≤ 1048576) (w : World)
    (ha : Rd w w.heap.size A (i64s xs)) (hbs : Rd w w.heap.size B (bools bs)) :
    Calls Try.prog 19 #[.agg #[.int .i64 S, .int .i64 L, .slice A n c, .slice B m d]] w (RetNewP S L n m xs bs w) := by
  have HX := hid hx
  have HB := hid hb
  have HA := hid ha
  have HBS := hid hbs
  clear hx hb ha hbs
  go_enter Try.func19, Try.ntmps19
  go_wp2_with fail
  refine (toInt64S_calls A n c xs HX.out hn _ (rd_alloc (rd_alloc (rd_alloc HA.out _) _) _)).mono ?_
  rintro e w1 ⟨g1, rfl, own1, bel1⟩
  obtain ⟨hc, hf⟩ := old_cell bel1
  have hz : w.heap.size + 2 < w1.heap.size := by have := bel1.size; simp at this; omega
  have G1 := hid (own_base own1)
  have R1 := hid (OwnI.of own1)
  have BEL1 := hid (((((Below.refl w.heap.size w).alloc (Nat.le_refl _) _).alloc (by simp) _).alloc (by simp; omega) _).trans (bel1.mono (by simp; omega)))
  clear own1 bel1
  go_wp2_with fail
  have BEL2 := hid (BEL1.out.setCell (p := ⟨w.heap.size + 1 + 1, 2, none⟩) (by simp; omega) (.slice (some ⟨g1, 0, none⟩) n n))
  have R2 := hid (R1.out.other (p := ⟨w.heap.size + 1 + 1, 2, none⟩) (by have := G1.out; simp at this; simp; omega) (.slice (some ⟨g1, 0, none⟩) n n))
  have LT1 := hid R1.out.lt
  refine (toBoolS_calls B m d bs HB.out hm _ (rd_step HBS.out BEL2.out)).mono ?_
  rintro e w2 ⟨g2, rfl, own2, bel2⟩
  obtain ⟨hc2, hf2⟩ := old_cell bel2
  have hz2 : w.heap.size + 2 < w2.heap.size := by have := bel2.size; simp at this; omega
  have G2 := hid (own_base own2)
  have R3 := hid (show OwnB w2 (some ⟨g2, 0, none⟩) m m bs from ⟨HB.out, .inr ⟨g2, rfl, own_rebase own2⟩⟩)
  have R4 := hid (R2.out.step bel2)
  have BEL3 := hid (BEL2.out.trans (bel2.mono BEL2.out.size))
  clear own2 bel2 R1 R2 BEL1 BEL2
  have a0 : w2.cell? ⟨w.heap.size + 1, 0, none⟩ = some (.int .i64 0) := by rw [hc2 _ _ (by simp; omega)]; go_simp
  have f0 : w2.frozen? ⟨w.heap.size + 1, 0, none⟩ = false := by rw [hf2 _ _ (by simp; omega)]; go_simp
  have a1 : w2.cell? ⟨w.heap.size + 1, 1, none⟩ = some (.int .i64 0) := by rw [hc2 _ _ (by simp; omega)]; go_simp
  have f1 : w2.frozen? ⟨w.heap.size + 1, 1, none⟩ = false := by rw [hf2 _ _ (by simp; omega)]; go_simp
  have a2 : w2.cell? ⟨w.heap.size + 1, 2, none⟩ = some (.slice none 0 0) := by rw [hc2 _ _ (by simp; omega)]; go_simp
  have f2 : w2.frozen? ⟨w.heap.size + 1, 2, none⟩ = false := by rw [hf2 _ _ (by simp; omega)]; go_simp
  have a3 : w2.cell? ⟨w.heap.size + 1, 3, none⟩ = some (.slice none 0 0) := by rw [hc2 _ _ (by simp; omega)]; go_simp
  have f3 : w2.frozen? ⟨w.heap.size + 1, 3, none⟩ = false := by rw [hf2 _ _ (by simp; omega)]; go_simp
  have b0 : w2.cell? ⟨w.heap.size + 1 + 1, 0, none⟩ = some (.int .i64 S) := by rw [hc2 _ _ (by simp; omega)]; go_simp
  have b1 : w2.cell? ⟨w.heap.size + 1 + 1, 1, none⟩ = some (.int .i64 L) := by rw [hc2 _ _ (by simp; omega)]; go_simp
  have b2 : w2.cell? ⟨w.heap.size + 1 + 1, 2, none⟩ = some (.slice (some ⟨g1, 0, none⟩) n n) := by rw [hc2 _ _ (by simp; omega)]; go_simp
  have b3 : w2.cell? ⟨w.heap.size + 1 + 1, 3, none⟩ = some (.slice none 0 0) := by rw [hc2 _ _ (by simp; omega)]; go_simp
  have h3 : w2.frozen? ⟨w.heap.size + 1 + 1, 3, none⟩ = false := by rw [hf2 _ _ (by simp; omega)]; go_simp
  clear hc hf hc2 hf2
  go_wp2_with fail
  have g1' : w.heap.size + 2 < g1 := by have := G1.out; simp at this; omega
  have g2' : w.heap.size + 2 < g2 := by have := G2.out; simp at this; omega
  have g12 : g1 < g2 := by have h1 := G2.out; have h2 := LT1.out; simp at h1; omega
  exact bodyPost_ret (v := .agg #[.int .i64 S, .int .i64 L, .slice (some ⟨g1, 0, none⟩) n n, .slice (some ⟨g2, 0, none⟩) m m]) (by simp [results, Try.results19, go_sem, a0, a1, a2, a3]) rfl
    ⟨g1, g2, rfl, (((((R4.out.other (by simp; omega) _).other (by simp; omega) _).other (by simp; omega) _).other (by simp; omega) _).other (by simp; omega) _), (OwnB.setc (OwnB.setc (OwnB.setc (OwnB.setc (OwnB.setc R3.out (fun g hg => by rw [rowN_is hg]; simp; omega) _) (fun g hg => by rw [rowN_is hg]; simp; omega) _) (fun g hg => by rw [rowN_is hg]; simp; omega) _) (fun g hg => by rw [rowN_is hg]; simp; omega) _) (fun g hg => by rw [rowN_is hg]; simp; omega) _), by omega, g12, ((((BEL3.out.setCell (by simp; omega) _).setCell (by simp) _).setCell (by simp) _).setCell (by simp) _).setCell (by simp) _⟩
theorem newP_own {w : World} {g1 g2 n m : Nat} {xs : List Int} {bs : List Bool} (h1 : OwnI w g1 n xs) (h2 : OwnB w (some ⟨g2, 0, none⟩) m m bs) (h : g1 < g2) : OwnP w (some ⟨g1, 0, none⟩) n n (some ⟨g2, 0, none⟩) m m xs bs :=
  ⟨h1.ownL, h2, fun g hg e => by have := rowN_is hg; have := rowN_is e; omega⟩
theorem newP_rows {w : World} {base g1 g2 n m : Nat} {xs : List Int} {bs : List Bool} (h1 : OwnI w g1 n xs) (h2 : OwnB w (some ⟨g2, 0, none⟩) m m bs) (h : g1 < g2) (hb : base ≤ g1) : Within base w.heap.size (rowsP n (some ⟨g1, 0, none⟩) m (some ⟨g2, 0, none⟩)) := by
  intro r hr g hg
  have hh := ((newP_own h1 h2 h).within r hr g hg).2
  simp only [rowsP, List.mem_cons, List.not_mem_nil, or_false] at hr
  rcases hr with rfl | rfl
  all_goals
    have := rowN_is hg
    omega
theorem eqP (S L : Int) (A : Option Addr) (n c : Nat) (B : Option Addr) (m d : Nat) (A' : Option Addr) (c' : Nat) (B' : Option Addr) (d' : Nat) (xs : List Int) (bs : List Bool) (h : FitsP n m xs bs) (w : World) (hl : ListsP w A B xs bs) (hl' : ListsP w A' B' xs bs) :
    Calls Try.prog 21 #[.agg #[.int .i64 S, .int .i64 L, .slice A n c, .slice B m d], .agg #[.int .i64 S, .int .i64 L, .slice A' n c', .slice B' m d']] w (RetG (.bool true) w) :=
  eqPlain_yes S L A n c B m d A' c' B' d' xs bs h.x h.b h.n h.m w hl.a hl.b hl'.a hl'.b
end Go.Proofs.Ytlfmcdobiojdlaa.Num
