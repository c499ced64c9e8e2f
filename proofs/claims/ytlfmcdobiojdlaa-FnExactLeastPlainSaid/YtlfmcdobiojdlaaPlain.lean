/-
  Plain machines: their sizes, copies and equality, by the laws' own functions.
-/
import Derived.Test.YtlfmcdobiojdlaaInts
import Derived.Test.YtlfmcdobiojdlaaToI64
import Derived.Test.YtlfmcdobiojdlaaToB
import Derived.Test.YtlfmcdobiojdlaaEqB
namespace Go.Proofs.Ytlfmcdobiojdlaa.Num
open Go.RowKit Go.Proofs.Fl
set_option linter.unusedVariables false
/-- returned v; what was there is as it was -/
def RetG (v : Value) (w : World) (e : Ending) (w' : World) : Prop := e = .returned v ∧ Below w.heap.size w w'
def leftI (n : Nat) (l : Int) : Int := if l - n < 0 then -1 else l - n
theorem szInt64S_calls (A : Option Addr) (n c : Nat) (l : Int) (hn : n ≤ 9223372036854775807) (hl : 0 ≤ l ∧ l ≤ 1048576) (w : World) : Calls Try.prog 46 #[.slice A n c, .int .i64 l] w (Ret (.int .i64 (leftI n l)) w) := by
  have hw : wrap64 (l - (n : Int)) = l - n := by unfold wrap64; omega
  unfold leftI
  by_cases h : l - (n : Int) < 0
  all_goals
    first | rw [if_pos h] | rw [if_neg h]
    go_enter Try.func46, Try.ntmps46
    go_wp2
    go_ret
    exact ⟨rfl, 0, rfl⟩
theorem szBoolS_calls (A : Option Addr) (n c : Nat) (l : Int) (hn : n ≤ 9223372036854775807) (hl : 0 ≤ l ∧ l ≤ 1048576) (w : World) : Calls Try.prog 47 #[.slice A n c, .int .i64 l] w (Ret (.int .i64 (leftI n l)) w) := by
  have hw : wrap64 (l - (n : Int)) = l - n := by unfold wrap64; omega
  unfold leftI
  by_cases h : l - (n : Int) < 0
  all_goals
    first | rw [if_pos h] | rw [if_neg h]
    go_enter Try.func47, Try.ntmps47
    go_wp2
    go_ret
    exact ⟨rfl, 0, rfl⟩
/-- a plain machine's value -/
def plainV (S L : Int) (A : Option Addr) (n c : Nat) (B : Option Addr) (m d : Nat) : Value := .agg #[.int .i64 S, .int .i64 L, .slice A n c, .slice B m d]
def leftP (n m : Nat) (l : Int) : Int := if leftI n l < 0 then -1 else if leftI m (leftI n l) < 0 then -1 else leftI m (leftI n l)
theorem szPlain_calls (S L : Int) (A : Option Addr) (n c : Nat) (B : Option Addr) (m d : Nat) (l : Int) (hn : n ≤ 9223372036854775807) (hm : m ≤ 9223372036854775807) (hl : 0 ≤ l ∧ l ≤ 1048576) (w : World) :
    Calls Try.prog 17 #[.agg #[.int .i64 S, .int .i64 L, .slice A n c, .slice B m d], .int .i64 l] w (RetG (.int .i64 (leftP n m l)) w) := by
  have hl1 : leftI n l < 0 ∨ (0 ≤ leftI n l ∧ leftI n l ≤ 1048576) := by unfold leftI; split <;> omega
  have H1 := hid (szInt64S_calls A n c l hn hl)
  unfold leftP
  by_cases h1 : leftI n l < 0
  · rw [if_pos h1]
    generalize leftI n l = l1 at *
    go_enter Try.func17, Try.ntmps17
    go_wp2_with (go_at_call 46; refine (H1.out _).mono ?_; rintro e w' ⟨rfl, q, rfl⟩)
    go_ret
    exact ⟨rfl, below_drewN ((Below.refl _ _).alloc (Nat.le_refl _) _) _⟩
  · rw [if_neg h1]
    have hl2 : 0 ≤ leftI n l ∧ leftI n l ≤ 1048576 := by omega
    have H2 := hid (szBoolS_calls B m d (leftI n l) hm hl2)
    generalize leftI n l = l1 at *
    by_cases h2 : leftI m l1 < 0
    all_goals
      first | rw [if_pos h2] | rw [if_neg h2]
      generalize leftI m l1 = l2 at *
      go_enter Try.func17, Try.ntmps17
      go_wp2_with (first | (go_at_call 46; refine (H1.out _).mono ?_; rintro e w' ⟨rfl, q, rfl⟩) | (go_at_call 47; refine (H2.out _).mono ?_; rintro e w' ⟨rfl, q2, rfl⟩))
      go_ret
      exact ⟨rfl, below_drewN ((Below.refl _ _).alloc (Nat.le_refl _) _) _⟩
theorem old_cell {W w1 : World} (hb : Below W.heap.size W w1) : (∀ b o, b < W.heap.size → w1.cell? ⟨b, o, none⟩ = W.cell? ⟨b, o, none⟩) ∧ (∀ b o, b < W.heap.size → w1.frozen? ⟨b, o, none⟩ = W.frozen? ⟨b, o, none⟩) :=
  ⟨fun b o h => hb.cell (p := ⟨b, o, none⟩) h, fun b o h => hb.frozen (p := ⟨b, o, none⟩) h⟩
theorem rd_alloc {w : World} {A : Option Addr} {xs : List Value} (h : Rd w w.heap.size A xs) (o : Obj) : Rd (w.alloc o) (w.alloc o).heap.size A xs := (h.below ((Below.refl _ _).alloc (Nat.le_refl _) o)).more (by simp)
theorem rd_step {w w1 : World} {A : Option Addr} {xs : List Value} (h : Rd w w.heap.size A xs) (b : Below w.heap.size w w1) : Rd w1 w1.heap.size A xs := (h.below b).more b.size
theorem own_base {w : World} {base : Nat} {e : TypeId} {g n c : Nat} {xs : List Value} (h : w.ownsRow base e 1 (.slice (some ⟨g, 0, none⟩) n c) n xs) : base ≤ g := by
  rcases h.2 with ⟨hv, hn⟩ | ⟨g', cap, cur, hv, hb, _⟩
  · cases hv
  · injection hv with h1
    injection h1 with h1
    injection h1 with h1
    omega
theorem rd_set {w : World} {B g : Nat} {xs : List Value} (h : Rd w B (some ⟨g, 0, none⟩) xs) {p : Addr} (hp : g ≠ p.block) (u : Value) : Rd (w.setCell p u) B (some ⟨g, 0, none⟩) xs := by
  rcases h with rfl | ⟨b, off, hA, hb, hc⟩
  · exact .inl rfl
  · refine .inr ⟨b, off, hA, hb, fun j v hv => ?_⟩
    have hbg : b = g := by injection hA with h1; injection h1 with h1; exact h1.symm
    rw [← hc j v hv]
    exact World.cell?_of_block (w := w) (Below.heap_setCell w p u b (by rw [hbg]; exact hp))
/-- returned a plain machine with lists of its own -/
def RetPlain (S L : Int) (xs : List Int) (bs : List Bool) (n m : Nat) (w : World) (e : Ending) (w' : World) : Prop :=
  ∃ g1 g2, e = .returned (.agg #[.int .i64 S, .int .i64 L, .slice (some ⟨g1, 0, none⟩) n n, .slice (some ⟨g2, 0, none⟩) m m]) ∧
    Rd w' w'.heap.size (some ⟨g1, 0, none⟩) (i64s xs) ∧ Rd w' w'.heap.size (some ⟨g2, 0, none⟩) (bools bs) ∧ Below w.heap.size w w'
set_option maxHeartbeats 800000 in
theorem toPlain_calls (S L : Int) (A : Option Addr) (n c : Nat) (B : Option Addr) (m d : Nat) (xs : List Int) (bs : List Bool) (hx : xs.length = n) (hb : bs.length = m) (hn : n ≤ 1048576) (hm : m ≤ 1048576) (w : World)
    (ha : Rd w w.heap.size A (i64s xs)) (hbs : Rd w w.heap.size B (bools bs)) :
    Calls Try.prog 19 #[.agg #[.int .i64 S, .int .i64 L, .slice A n c, .slice B m d]] w (RetPlain S L xs bs n m w) := by
  have HX := hid hx
  have HB := hid hb
  have HA := hid ha
  have HBS := hid hbs
  clear hx hb ha hbs
  go_enter Try.func19, Try.ntmps19
  go_wp2_with fail
  refine (toInt64S_calls A n c xs HX.out hn _ (rd_alloc (rd_alloc (rd_alloc HA.out _) _) _)).mono ?_
  rintro e w1 ⟨g1, rfl, own1, bel1⟩
  obtain ⟨hc, hf⟩ := old_cell bel1
  have hz : w.heap.size + 2 < w1.heap.size := by have := bel1.size; simp at this; omega
  have G1 := hid (own_base own1)
  have R1 := hid (Rd.of_own own1)
  have BEL1 := hid (((((Below.refl w.heap.size w).alloc (Nat.le_refl _) _).alloc (by simp) _).alloc (by simp; omega) _).trans (bel1.mono (by simp; omega)))
  clear own1 bel1
  go_wp2_with fail
  have BEL2 := hid (BEL1.out.setCell (p := ⟨w.heap.size + 1 + 1, 2, none⟩) (by simp; omega) (.slice (some ⟨g1, 0, none⟩) n n))
  have R2 := hid (rd_set R1.out (p := ⟨w.heap.size + 1 + 1, 2, none⟩) (by have := G1.out; simp at this; simp; omega) (.slice (some ⟨g1, 0, none⟩) n n))
  refine (toBoolS_calls B m d bs HB.out hm _ (rd_step HBS.out BEL2.out)).mono ?_
  rintro e w2 ⟨g2, rfl, own2, bel2⟩
  obtain ⟨hc2, hf2⟩ := old_cell bel2
  have hz2 : w.heap.size + 2 < w2.heap.size := by have := bel2.size; simp at this; omega
  have G2 := hid (own_base own2)
  have R3 := hid (Rd.of_own own2)
  have R4 := hid ((R2.out.below (bel2.mono (Nat.le_of_eq (by simp)))).more (Nat.le_trans (Nat.le_of_eq (by simp)) bel2.size))
  have BEL3 := hid (BEL2.out.trans (bel2.mono BEL2.out.size))
  clear own2 bel2 R1 R2 BEL1 BEL2
  have a0 : w2.cell? ⟨w.heap.size + 1, 0, none⟩ = some (.int .i64 0) := by rw [hc2 _ _ (by simp; omega)]; go_simp
  have f0 : w2.frozen? ⟨w.heap.size + 1, 0, none⟩ = false := by rw [hf2 _ _ (by simp; omega)]; go_simp
  have a1 : w2.cell? ⟨w.heap.size + 1, 1, none⟩ = some (.int .i64 0) := by rw [hc2 _ _ (by simp; omega)]; go_simp
  have f1 : w2.frozen? ⟨w.heap.size + 1, 1, none⟩ = false := by rw [hf2 _ _ (by simp; omega)]; go_simp
  have a2 : w2.cell? ⟨w.heap.size + 1, 2, none⟩ = some (.slice none 0 0) := by rw [hc2 _ _ (by simp; omega)]; go_simp
  have f2 : w2.frozen? ⟨w.heap.size + 1, 2, none⟩ = false := by rw [hf2 _ _ (by simp; omega)]; go_simp
  have a3 : w2.cell? ⟨w.heap.size + 1, 3, none⟩ = some (.slice none 0 0) := by rw [hc2 _ _ (by simp; omega)]; go_simp
  have f3 : w2.frozen? ⟨w.heap.size + 1, 3, none⟩ = false := by rw [hf2 _ _ (by simp; omega)]; go_simp
  have b0 : w2.cell? ⟨w.heap.size + 1 + 1, 0, none⟩ = some (.int .i64 S) := by rw [hc2 _ _ (by simp; omega)]; go_simp
  have b1 : w2.cell? ⟨w.heap.size + 1 + 1, 1, none⟩ = some (.int .i64 L) := by rw [hc2 _ _ (by simp; omega)]; go_simp
  have b2 : w2.cell? ⟨w.heap.size + 1 + 1, 2, none⟩ = some (.slice (some ⟨g1, 0, none⟩) n n) := by rw [hc2 _ _ (by simp; omega)]; go_simp
  have b3 : w2.cell? ⟨w.heap.size + 1 + 1, 3, none⟩ = some (.slice none 0 0) := by rw [hc2 _ _ (by simp; omega)]; go_simp
  have h3 : w2.frozen? ⟨w.heap.size + 1 + 1, 3, none⟩ = false := by rw [hf2 _ _ (by simp; omega)]; go_simp
  clear hc hf hc2 hf2
  go_wp2_with fail
  have g1' : w.heap.size + 2 < g1 := by have := G1.out; simp at this; omega
  have g2' : w.heap.size + 2 < g2 := by have := G2.out; simp at this; omega
  exact bodyPost_ret (v := .agg #[.int .i64 S, .int .i64 L, .slice (some ⟨g1, 0, none⟩) n n, .slice (some ⟨g2, 0, none⟩) m m]) (by simp [results, Try.results19, go_sem, a0, a1, a2, a3]) rfl
    ⟨g1, g2, rfl,
      (rd_set (rd_set (rd_set (rd_set (rd_set R4.out (by simp; omega) _) (by simp; omega) _) (by simp; omega) _) (by simp; omega) _) (by simp; omega) _).more (by simp),
      (rd_set (rd_set (rd_set (rd_set (rd_set R3.out (by simp; omega) _) (by simp; omega) _) (by simp; omega) _) (by simp; omega) _) (by simp; omega) _).more (by simp),
      ((((BEL3.out.setCell (by simp; omega) _).setCell (by simp) _).setCell (by simp) _).setCell (by simp) _).setCell (by simp) _⟩
end Go.Proofs.Ytlfmcdobiojdlaa.Num
