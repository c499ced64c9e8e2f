/-
  The law on ReadsWord.
-/
import Derived.Test.YtlfmcdobiojdlaaSpecRun
import Derived.Test.YtlfmcdobiojdlaaExactIsWordWalk
import Derived.Test.YtlfmcdobiojdlaaExactValidPlainWalk
import Derived.Deep.RegionWith
namespace Go.Proofs.Ytlfmcdobiojdlaa.fnExactReadsWord
open Go.RowKit Go.Proofs.Fl Go.Proofs.Ytlfmcdobiojdlaa.Num
open Go.Proofs.Ytlfmcdobiojdlaa.fnExactIsWord (isW)
set_option linter.unusedVariables false
set_option linter.unusedSimpArgs false
def okR (S L : Int) (n : Nat) (xs : List Int) (m q : Nat) (word : List Int) : Bool := validP S L n xs m && isW q word L
def bitR (L : Int) (xs : List Int) (bs : List Bool) (word : List Int) : Bool := bs.getD (runP xs L word).toNat false
def resR (S L : Int) (n : Nat) (xs : List Int) (m : Nat) (bs : List Bool) (q : Nat) (word : List Int) : Bool := okR S L n xs m q word && bitR L xs bs word
theorem run_at {S L : Int} {n : Nat} {xs : List Int} {m : Nat} {bs : List Bool} {q : Nat} {word : List Int} (hp : PlainOk S L n xs m) (hx : xs.length = n) (hb : bs.length = m) (hq : word.length = q) (hw : allIn word 0 (L - 1) = true) :
    ∃ r : Nat, runP xs L word = (r : Int) ∧ ∃ h : r < bs.length, bs[r] = bitR L xs bs word := by
  have h := runs_at hp hx hw word.length (Nat.le_refl _)
  rw [List.take_length] at h
  have hm := hp.m
  refine ⟨(runP xs L word).toNat, by omega, by omega, ?_⟩
  have hlt : (runP xs L word).toNat < bs.length := by omega
  unfold bitR
  rw [List.getD_eq_getElem?_getD, List.getElem?_eq_getElem hlt]
  rfl
def RetBB (a b : Bool) (w : World) (e : Ending) (w' : World) : Prop := e = .returned (.tuple #[.bool a, .bool b]) ∧ Below w.heap.size w w'
theorem isW_of {L : Int} {q : Nat} {word : List Int} (h : inB L 1 4 = true) : isW q word L = (allIn word 0 (L - 1) && decide (q ≤ 12)) := by simp [isW, h]
theorem valid_l {S L : Int} {n : Nat} {xs : List Int} {m : Nat} (h : validP S L n xs m = true) : inB L 1 4 = true := by
  unfold validP at h
  simp only [Bool.and_eq_true] at h
  exact h.1.1.1.2
set_option maxHeartbeats 1600000 in
theorem spec_calls (S L : Int) (A : Option Addr) (n c : Nat) (B : Option Addr) (m d : Nat) (xs : List Int) (bs : List Bool) (hx : xs.length = n) (hb : bs.length = m) (hn : n ≤ 1048576) (hm : m ≤ 1048576)
    (E : Option Addr) (q f : Nat) (word : List Int) (hq : word.length = q) (hqn : q ≤ 1048576) (w : World)
    (ha : Rd w w.heap.size A (i64s xs)) (hbs : Rd w w.heap.size B (bools bs)) (hwd : Rd w w.heap.size E (i64s word)) :
    Calls Try.prog 24 #[.agg #[.int .i64 S, .int .i64 L, .slice A n c, .slice B m d], .slice E q f] w (RetBB (resR S L n xs m bs q word) (okR S L n xs m q word) w) := by
  have HX := hid hx
  have HQ := hid hq
  have HA := hid ha
  have HE := hid hwd
  have HV := fun (b : Bool) (h : validP S L n xs m = b) (b0 : Nat) (w : World) (hp : PlainAt w b0 S L A n c B m d) (ha : Rd w w.heap.size A (i64s xs)) => h ▸ l02Plain_calls b0 S L A n c B m d xs hx hn hm w hp ha
  cases h1 : validP S L n xs m
  · have H1 := hid (HV _ h1)
    clear HV hx hq ha hwd hbs hb
    unfold resR okR
    rw [h1, Bool.false_and, Bool.false_and]
    clear h1
    go_enter Try.func24, Try.ntmps24
    go_wp2_with fail
    refine (H1.out _ _ ⟨by go_simp, by go_simp, by go_simp, by go_simp⟩ (rd_alloc HA.out _)).mono ?_
    rintro e w' ⟨rfl, j, rfl⟩
    go_wp2
    go_ret2
    exact ⟨rfl, below_drewN ((Below.refl _ _).alloc (Nat.le_refl _) _) _⟩
  · have HL := hid (inB_iff (valid_l h1))
    have H1 := hid (HV _ h1)
    have HW := fun (b : Bool) (h : (allIn word 0 (L - 1) && decide (q ≤ 12)) = b) (w : World) (ha : Rd w w.heap.size E (i64s word)) => h ▸ l02Word_calls E q f word L hq hqn HL.out w ha
    have hi := isW_of (q := q) (word := word) (valid_l h1)
    cases h2 : (allIn word 0 (L - 1) && decide (q ≤ 12))
    · have H2 := hid (HW _ h2)
      unfold resR okR
      rw [h1, hi, h2, Bool.and_false, Bool.false_and]
      clear HV HW hx hq ha hwd hbs hb h1 hi h2
      go_enter Try.func24, Try.ntmps24
      go_wp2_with fail
      refine (H1.out _ _ ⟨by go_simp, by go_simp, by go_simp, by go_simp⟩ (rd_alloc HA.out _)).mono ?_
      rintro e w' ⟨rfl, j, rfl⟩
      go_wp2_with fail
      refine (H2.out _ ((rd_alloc HE.out _).drewN _)).mono ?_
      rintro e w' ⟨rfl, j2, rfl⟩
      go_wp2
      go_ret2
      exact ⟨rfl, below_drewN ((Below.refl _ _).alloc (Nat.le_refl _) _) _⟩
    · have H2 := hid (HW _ h2)
      have hw : allIn word 0 (L - 1) = true := by simp only [Bool.and_eq_true] at h2; exact h2.1
      obtain ⟨r, hr, hrb, hbit⟩ := run_at (plainOk h1) hx hb hq hw
      have H3 := hid fun (b0 : Nat) (w : World) (hp : PlainAt w b0 S L A n c B m d) (ha : Rd w w.heap.size A (i64s xs)) (hbs : Rd w w.heap.size B (bools bs)) (hwd : Rd w w.heap.size E (i64s word)) => hbit ▸ l02Run_calls b0 S L A n c B m d xs bs hx hb hn (plainOk h1) E q f word hq hqn hw r hr hrb w hp ha hbs hwd
      have HB := hid hbs
      unfold resR okR
      rw [h1, hi, h2, Bool.and_true, Bool.true_and]
      clear HV HW hx hq ha hwd hbs hb h1 hi h2 hbit hr hrb hw
      generalize bitR L xs bs word = bit at *
      go_enter Try.func24, Try.ntmps24
      go_wp2_with fail
      refine (H1.out _ _ ⟨by go_simp, by go_simp, by go_simp, by go_simp⟩ (rd_alloc HA.out _)).mono ?_
      rintro e w' ⟨rfl, j, rfl⟩
      go_wp2_with fail
      refine (H2.out _ ((rd_alloc HE.out _).drewN _)).mono ?_
      rintro e w' ⟨rfl, j2, rfl⟩
      go_wp2_with fail
      refine (H3.out w.heap.size _ ⟨by go_simp, by go_simp, by go_simp, by go_simp⟩ ((rd_alloc HA.out _).drewN _) ((rd_alloc HB.out _).drewN _) ((rd_alloc HE.out _).drewN _)).mono ?_
      rintro e w' ⟨rfl, j3, rfl⟩
      go_wp2
      go_ret2
      exact ⟨rfl, below_drewN ((Below.refl _ _).alloc (Nat.le_refl _) _) _⟩
set_option maxHeartbeats 1600000 in
theorem impl_calls (S L : Int) (A : Option Addr) (n c : Nat) (B : Option Addr) (m d : Nat) (xs : List Int) (bs : List Bool) (hx : xs.length = n) (hb : bs.length = m) (hn : n ≤ 1048576) (hm : m ≤ 1048576)
    (E : Option Addr) (q f : Nat) (word : List Int) (hq : word.length = q) (hqn : q ≤ 1048576) (w : World)
    (ha : Rd w w.heap.size A (i64s xs)) (hbs : Rd w w.heap.size B (bools bs)) (hwd : Rd w w.heap.size E (i64s word)) :
    Calls Try.prog 25 #[.agg #[.int .i64 S, .int .i64 L, .slice A n c, .slice B m d], .slice E q f] w (RetBB (resR S L n xs m bs q word) (okR S L n xs m q word) w) := by
  have HX := hid hx
  have HQ := hid hq
  have HA := hid ha
  have HE := hid hwd
  have HB := hid hbs
  have HV := fun (b : Bool) (h : validP S L n xs m = b) (w : World) (ha : Rd w w.heap.size A (i64s xs)) => h ▸ implValid_calls S L A n c B m d xs hx hn hm w ha
  have HW := fun (b : Bool) (h : isW q word L = b) (w : World) (ha : Rd w w.heap.size E (i64s word)) => h ▸ fnExactIsWord.impl_calls E q f word L hq hqn w ha
  cases h1 : validP S L n xs m
  · have H1 := hid (HV _ h1)
    clear HV HW hx hq ha hwd hbs hb
    unfold resR okR
    rw [h1, Bool.false_and, Bool.false_and]
    clear h1
    go_enter Try.func25, Try.ntmps25
    go_wp2_with fail
    refine (H1.out _ (rd_alloc HA.out _)).mono ?_
    rintro e w1 ⟨rfl, bel1⟩
    have BEL1 := hid (((Below.refl w.heap.size w).alloc (Nat.le_refl _) _).trans (bel1.mono (by simp)))
    clear bel1
    go_wp2
    go_ret2
    exact ⟨rfl, BEL1.out⟩
  · have H1 := hid (HV _ h1)
    have hi := isW_of (q := q) (word := word) (valid_l h1)
    cases h2 : isW q word L
    · have H2 := hid (HW _ h2)
      unfold resR okR
      rw [h1, h2, Bool.and_false, Bool.false_and]
      clear HV HW hx hq ha hwd hbs hb h1 hi h2
      go_enter Try.func25, Try.ntmps25
      go_wp2_with fail
      refine (H1.out _ (rd_alloc HA.out _)).mono ?_
      rintro e w1 ⟨rfl, bel1⟩
      have BEL1 := hid (((Below.refl w.heap.size w).alloc (Nat.le_refl _) _).trans (bel1.mono (by simp)))
      have hc := (old_cell bel1).1
      have e1 : w1.cell? ⟨w.heap.size, 1, none⟩ = some (.int .i64 L) := by rw [hc _ _ (by simp)]; go_simp
      clear bel1 hc
      go_wp2_with fail
      refine (H2.out _ (rd_step HE.out BEL1.out)).mono ?_
      rintro e w' ⟨rfl, j2, rfl⟩
      go_wp2
      go_ret2
      exact ⟨rfl, below_drewN BEL1.out _⟩
    · have H2 := hid (HW _ h2)
      have hw : allIn word 0 (L - 1) = true := by rw [hi] at h2; simp only [Bool.and_eq_true] at h2; exact h2.1
      obtain ⟨r, hr, hrb, hbit⟩ := run_at (plainOk h1) hx hb hq hw
      have H3 := hid fun (w : World) (ha : Rd w w.heap.size A (i64s xs)) (hbs : Rd w w.heap.size B (bools bs)) (hwd : Rd w w.heap.size E (i64s word)) => hbit ▸ reads_calls S L A n c B m d xs bs hx hb hn (plainOk h1) E q f word hq hqn hw r hr hrb w ha hbs hwd
      unfold resR okR
      rw [h1, h2, Bool.and_true, Bool.true_and]
      clear HV HW hx hq ha hwd hbs hb h1 hi h2 hbit hr hrb hw
      generalize bitR L xs bs word = bit at *
      go_enter Try.func25, Try.ntmps25
      go_wp2_with fail
      refine (H1.out _ (rd_alloc HA.out _)).mono ?_
      rintro e w1 ⟨rfl, bel1⟩
      have BEL1 := hid (((Below.refl w.heap.size w).alloc (Nat.le_refl _) _).trans (bel1.mono (by simp)))
      have hc := (old_cell bel1).1
      have e0 : w1.cell? ⟨w.heap.size, 0, none⟩ = some (.int .i64 S) := by rw [hc _ _ (by simp)]; go_simp
      have e1 : w1.cell? ⟨w.heap.size, 1, none⟩ = some (.int .i64 L) := by rw [hc _ _ (by simp)]; go_simp
      have e2 : w1.cell? ⟨w.heap.size, 2, none⟩ = some (.slice A n c) := by rw [hc _ _ (by simp)]; go_simp
      have e3 : w1.cell? ⟨w.heap.size, 3, none⟩ = some (.slice B m d) := by rw [hc _ _ (by simp)]; go_simp
      clear bel1 hc
      go_wp2_with fail
      refine (H2.out _ (rd_step HE.out BEL1.out)).mono ?_
      rintro e w' ⟨rfl, j2, rfl⟩
      go_wp2_with fail
      refine (H3.out _ ((rd_step HA.out BEL1.out).drewN _) ((rd_step HB.out BEL1.out).drewN _) ((rd_step HE.out BEL1.out).drewN _)).mono ?_
      rintro e w3 ⟨rfl, bel3⟩
      have BEL3 := hid ((below_drewN BEL1.out j2).trans (bel3.mono (by have := BEL1.out.size; simpa using this)))
      clear bel3
      go_wp2
      go_ret2
      exact ⟨rfl, BEL3.out⟩
open Go.Proofs.Ytlfmcdobiojdlaa.fnExactValidPlain (left_small)
set_option maxHeartbeats 1600000 in
theorem walk (S L : Int) (A : Option Addr) (n c : Nat) (B : Option Addr) (m d : Nat) (xs : List Int) (bs : List Bool) (hx : xs.length = n) (hb : bs.length = m) (hnc : n ≤ maxLen) (hmd : m ≤ maxLen) {w : World} (ha : Rd w w.heap.size A (i64s xs)) (hbs : Rd w w.heap.size B (bools bs))
    (E : Option Addr) (q f : Nat) (word : List Int) (hq : word.length = q) (hqc : q ≤ f) (hfc : f ≤ maxLen) (he : Rd w w.heap.size E (i64s word)) (hwf : ∀ z ∈ word, (Lit.int .i64 z).wf = true) :
    Calls Try.prog 6 #[.agg #[.int .i64 S, .int .i64 L, .slice A n c, .slice B m d], .slice E q f] w fun e w' => e = .returned (.bool true) ∧ Below w.heap.size w w' := by
  have HX := hid hx
  have HB := hid hb
  have HQ := hid hq
  have HA := hid ha
  have HBS := hid hbs
  have HE := hid he
  unfold maxLen at hnc hmd hfc
  have HS := hid (szPlain_calls S L A n c B m d 1048576 (by omega) (by omega) (by omega))
  clear hx hb ha hbs hq he hwf
  have bb1 : (resR S L n xs m bs q word != resR S L n xs m bs q word) = false := bne_self_eq_false _
  have bb2 : (okR S L n xs m q word != okR S L n xs m q word) = false := bne_self_eq_false _
  by_cases hqn : q ≤ 1048576
  case neg =>
    go_enter Try.func6, Try.ntmps6
    go_wp2
    go_ret
    exact ⟨rfl, (Below.refl w.heap.size w).alloc (Nat.le_refl _) _⟩
  by_cases hl : leftP n m 1048576 < 0
  · generalize leftP n m 1048576 = l at *
    go_enter Try.func6, Try.ntmps6
    go_wp2_with fail
    refine (HS.out _).mono ?_
    rintro e w1 ⟨rfl, bel1⟩
    have BEL := hid (((Below.refl w.heap.size w).alloc (Nat.le_refl _) _).trans (bel1.mono (by simp)))
    clear bel1
    go_wp2
    go_ret
    exact ⟨rfl, BEL.out⟩
  · have hsm := left_small hl
    have hn := hsm.1
    have hm := hsm.2
    clear hsm
    generalize leftP n m 1048576 = l at *
    go_enter Try.func6, Try.ntmps6
    go_wp2_with fail
    refine (HS.out _).mono ?_
    rintro e w1 ⟨rfl, bel1⟩
    obtain ⟨hc, hf⟩ := old_cell bel1
    have hz : w.heap.size < w1.heap.size := by have := bel1.size; simp at this; omega
    have BEL1 := hid (((Below.refl w.heap.size w).alloc (Nat.le_refl _) _).trans (bel1.mono (by simp)))
    have a0 : w1.cell? ⟨w.heap.size, 0, none⟩ = some (.int .i64 S) := by rw [hc _ _ (by simp)]; go_simp
    have a1 : w1.cell? ⟨w.heap.size, 1, none⟩ = some (.int .i64 L) := by rw [hc _ _ (by simp)]; go_simp
    have a2 : w1.cell? ⟨w.heap.size, 2, none⟩ = some (.slice A n c) := by rw [hc _ _ (by simp)]; go_simp
    have a3 : w1.cell? ⟨w.heap.size, 3, none⟩ = some (.slice B m d) := by rw [hc _ _ (by simp)]; go_simp
    clear hc hf bel1 HS
    go_wp2_with fail
    refine (toPlain_calls S L A n c B m d xs bs HX.out HB.out hn hm _ (rd_step HA.out BEL1.out) (rd_step HBS.out BEL1.out)).mono ?_
    rintro e w2 ⟨g1, g2, rfl, R1, R2, bel2⟩
    have BEL2 := hid (BEL1.out.trans (bel2.mono BEL1.out.size))
    have hz2 : w.heap.size < w2.heap.size := by have := bel2.size; omega
    obtain ⟨hc, hf⟩ := old_cell bel2
    rw [← hc _ _ hz] at a0 a1 a2 a3
    have RR1 := hid R1
    have RR2 := hid R2
    clear hc hf bel2 BEL1 R1 R2
    go_wp2_with fail
    refine (toInt64S_calls E q f word HQ.out hqn _ (rd_step HE.out BEL2.out)).mono ?_
    rintro e w3 ⟨g0, rfl, own3, bel3⟩
    have BEL3 := hid (BEL2.out.trans (bel3.mono BEL2.out.size))
    have hz3 : w.heap.size < w3.heap.size := by have := bel3.size; omega
    obtain ⟨hc, hf⟩ := old_cell bel3
    rw [← hc _ _ hz2] at a0 a1 a2 a3
    have R31 := hid (rd_step RR1.out bel3)
    have R32 := hid (rd_step RR2.out bel3)
    have R30 := hid (show Rd w3 w3.heap.size (some ⟨g0, 0, none⟩) (i64s word) from Rd.of_own own3)
    clear hc hf bel3 BEL2 RR1 RR2 own3
    go_wp2_with fail
    refine (spec_calls S L _ n _ _ m _ xs bs HX.out HB.out hn hm _ q _ word HQ.out hqn _ R31.out R32.out R30.out).mono ?_
    rintro e w4 ⟨rfl, bel4⟩
    have BEL4 := hid (BEL3.out.trans (bel4.mono BEL3.out.size))
    have hz4 : w.heap.size < w4.heap.size := by have := bel4.size; omega
    obtain ⟨hc, hf⟩ := old_cell bel4
    rw [← hc _ _ hz3] at a0 a1 a2 a3
    clear hc hf bel4 BEL3 R31 R32 R30
    go_wp2_with fail
    refine (toPlain_calls S L A n c B m d xs bs HX.out HB.out hn hm _ (rd_step HA.out BEL4.out) (rd_step HBS.out BEL4.out)).mono ?_
    rintro e w5 ⟨g3, g4, rfl, R3, R4, bel5⟩
    have BEL5 := hid (BEL4.out.trans (bel5.mono BEL4.out.size))
    have hz5 : w.heap.size < w5.heap.size := by have := bel5.size; omega
    obtain ⟨hc, hf⟩ := old_cell bel5
    rw [← hc _ _ hz4] at a0 a1 a2 a3
    have RR3 := hid R3
    have RR4 := hid R4
    clear hc hf bel5 BEL4 R3 R4
    go_wp2_with fail
    refine (toInt64S_calls E q f word HQ.out hqn _ (rd_alloc (rd_step HE.out BEL5.out) _)).mono ?_
    rintro e w6 ⟨g5, rfl, own6, bel6⟩
    have BEL6 := hid ((BEL5.out.alloc (by omega) _).trans (bel6.mono (by simp; omega)))
    have hz6 : w5.heap.size < w6.heap.size := by have := bel6.size; simp at this; omega
    obtain ⟨hc, hf⟩ := old_cell bel6
    have e0 : w6.cell? ⟨w5.heap.size, 0, none⟩ = some (.int .i64 S) := by rw [hc _ _ (by simp)]; go_simp
    have e1 : w6.cell? ⟨w5.heap.size, 1, none⟩ = some (.int .i64 L) := by rw [hc _ _ (by simp)]; go_simp
    have e2 : w6.cell? ⟨w5.heap.size, 2, none⟩ = some (.slice (some ⟨g3, 0, none⟩) n n) := by rw [hc _ _ (by simp)]; go_simp
    have e3 : w6.cell? ⟨w5.heap.size, 3, none⟩ = some (.slice (some ⟨g4, 0, none⟩) m m) := by rw [hc _ _ (by simp)]; go_simp
    have a0' : w6.cell? ⟨w.heap.size, 0, none⟩ = some (.int .i64 S) := by rw [hc _ _ (by simp; omega)]; go_simp
    have a1' : w6.cell? ⟨w.heap.size, 1, none⟩ = some (.int .i64 L) := by rw [hc _ _ (by simp; omega)]; go_simp
    have a2' : w6.cell? ⟨w.heap.size, 2, none⟩ = some (.slice A n c) := by rw [hc _ _ (by simp; omega)]; go_simp
    have a3' : w6.cell? ⟨w.heap.size, 3, none⟩ = some (.slice B m d) := by rw [hc _ _ (by simp; omega)]; go_simp
    have RR5 := hid (rd_step (rd_alloc RR3.out _) bel6)
    have RR6 := hid (rd_step (rd_alloc RR4.out _) bel6)
    have RR7 := hid (show Rd w6 w6.heap.size (some ⟨g5, 0, none⟩) (i64s word) from Rd.of_own own6)
    clear hc hf bel6 BEL5 RR3 RR4 a0 a1 a2 a3 own6
    go_wp2_with fail
    refine (impl_calls S L _ n _ _ m _ xs bs HX.out HB.out hn hm _ q _ word HQ.out hqn _ RR5.out RR6.out RR7.out).mono ?_
    rintro e w7 ⟨rfl, bel7⟩
    have BEL7 := hid (BEL6.out.trans (bel7.mono BEL6.out.size))
    have hz7 : w5.heap.size < w7.heap.size := by have := bel7.size; omega
    obtain ⟨hc, hf⟩ := old_cell bel7
    rw [← hc _ _ hz6] at e0 e1 e2 e3
    rw [← hc _ _ (by omega)] at a0' a1' a2' a3'
    have R75 := hid (rd_step RR5.out bel7)
    have R76 := hid (rd_step RR6.out bel7)
    have R77 := hid (rd_step RR7.out bel7)
    clear hc hf bel7 BEL6 RR5 RR6 RR7
    go_wp2_with fail
    have e0d := (show w7.drew.cell? ⟨w5.heap.size, 0, none⟩ = _ from e0)
    have a0d := (show w7.drew.cell? ⟨w.heap.size, 0, none⟩ = _ from a0')
    have e1d := (show w7.drew.cell? ⟨w5.heap.size, 1, none⟩ = _ from e1)
    have a1d := (show w7.drew.cell? ⟨w.heap.size, 1, none⟩ = _ from a1')
    have e2d := (show w7.drew.cell? ⟨w5.heap.size, 2, none⟩ = _ from e2)
    have a2d := (show w7.drew.cell? ⟨w.heap.size, 2, none⟩ = _ from a2')
    have e3d := (show w7.drew.cell? ⟨w5.heap.size, 3, none⟩ = _ from e3)
    have a3d := (show w7.drew.cell? ⟨w.heap.size, 3, none⟩ = _ from a3')
    go_region_with (first | (go_at_call 19; refine (toPlain_calls S L A n c B m d xs bs HX.out HB.out hn hm _ ((rd_step HA.out BEL7.out).drewN _) ((rd_step HBS.out BEL7.out).drewN _)).mono ?_; rintro e w8 ⟨g6, g7, rfl, R7, R8, bel8⟩; have x0 := ((old_cell bel8).1 _ 0 hz7).trans e0; have x1 := ((old_cell bel8).1 _ 1 hz7).trans e1; have x2 := ((old_cell bel8).1 _ 2 hz7).trans e2; have x3 := ((old_cell bel8).1 _ 3 hz7).trans e3; have RR7 := hid R7; have RR8 := hid R8; have BEL8 := hid bel8; clear R7 R8 bel8) | (go_at_call 21; refine (eqPlain_yes S L _ n _ _ m _ _ _ _ _ xs bs HX.out HB.out hn hm _ (((R75.out.drewN _).below BEL8.out).more BEL8.out.size) (((R76.out.drewN _).below BEL8.out).more BEL8.out.size) RR7.out RR8.out).mono ?_; rintro e w9 ⟨rfl, bel9⟩; have BEL9 := hid bel9; clear bel9))
    all_goals
      have BELS := hid (BEL8.out.trans (BEL9.out.mono BEL8.out.size))
      have BELT := hid ((BEL7.out.drew.trans (BELS.out.mono BEL7.out.size)))
      have R90 := hid (rd_step (w := w7.drew) R77.out BELS.out)
      clear BEL8 BEL9 RR7 RR8
      go_wp2_with fail
      refine (toInt64S_calls E q f word HQ.out hqn _ (rd_step HE.out BELT.out)).mono ?_
      rintro e w10 ⟨g8, rfl, own10, bel10⟩
      have R10 := hid (show Rd w10 w10.heap.size (some ⟨g8, 0, none⟩) (i64s word) from Rd.of_own own10)
      have R11 := hid (rd_step R90.out bel10)
      have BELU := hid (BELT.out.trans (bel10.mono BELT.out.size))
      clear own10 bel10 R90 BELT
      go_wp2_with (go_at_call 16; refine (eqInt64S_yes _ _ q _ _ word HQ.out hqn _ R11.out R10.out).mono ?_; rintro e w' ⟨rfl, n8, rfl⟩)
      go_ret
      exact ⟨rfl, below_drewN BELU.out _⟩
end Go.Proofs.Ytlfmcdobiojdlaa.fnExactReadsWord
