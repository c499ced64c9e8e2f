/-
  Valid plain machines, by both texts; equality of plain machines.
-/
import Derived.Test.YtlfmcdobiojdlaaPlain
import Derived.BigQuiet
import Derived.Deep.QuietTactic
namespace Go.Proofs.Ytlfmcdobiojdlaa.Num
open Go.RowKit Go.Proofs.Fl
set_option linter.unusedVariables false
set_option linter.unusedSimpArgs false
theorem eqPlain_yes (S L : Int) (A : Option Addr) (n c : Nat) (B : Option Addr) (m d : Nat) (A' : Option Addr) (c' : Nat) (B' : Option Addr) (d' : Nat) (xs : List Int) (bs : List Bool) (hx : xs.length = n) (hb : bs.length = m) (hn : n ≤ 1048576) (hm : m ≤ 1048576) (w : World)
    (ha : Rd w w.heap.size A (i64s xs)) (hbs : Rd w w.heap.size B (bools bs)) (ha' : Rd w w.heap.size A' (i64s xs)) (hbs' : Rd w w.heap.size B' (bools bs)) :
    Calls Try.prog 21 #[.agg #[.int .i64 S, .int .i64 L, .slice A n c, .slice B m d], .agg #[.int .i64 S, .int .i64 L, .slice A' n c', .slice B' m d']] w (RetG (.bool true) w) := by
  have H1 := hid fun w h h' => eqInt64S_yes A A' n c c' xs hx hn w h h'
  have H2 := hid fun w h h' => eqBoolS_yes B B' m d d' bs hb hm w h h'
  have HA := hid ha
  have HB := hid hbs
  have HA' := hid ha'
  have HB' := hid hbs'
  clear hx hb ha hbs ha' hbs'
  go_enter Try.func21, Try.ntmps21
  go_wp2_with (first | (go_at_call 16; refine (H1.out _ (rd_alloc (rd_alloc HA.out _) _) (rd_alloc (rd_alloc HA'.out _) _)).mono ?_; rintro e w' ⟨rfl, q, rfl⟩) | (go_at_call 50; refine (H2.out _ ((rd_alloc (rd_alloc HB.out _) _).drewN _) ((rd_alloc (rd_alloc HB'.out _) _).drewN _)).mono ?_; rintro e w' ⟨rfl, q2, rfl⟩))
  go_ret
  exact ⟨rfl, below_drewN (((Below.refl _ _).alloc (Nat.le_refl _) _).alloc (by simp) _) _⟩
/-- is it a plain machine? -/
def validP (S L : Int) (n : Nat) (xs : List Int) (m : Nat) : Bool := inB S 1 64 && inB L 1 4 && decide ((n : Int) = S * L) && allIn xs 0 (S - 1) && decide ((m : Int) = S)
theorem inB_iff {x lo hi : Int} (h : inB x lo hi = true) : lo ≤ x ∧ x ≤ hi := by
  unfold inB at h
  simpa using h
theorem mul_small {S L : Int} (h1 : 1 ≤ S ∧ S ≤ 64) (h2 : 1 ≤ L ∧ L ≤ 4) : 0 ≤ S * L ∧ S * L ≤ 256 := by
  refine ⟨Int.mul_nonneg (by omega) (by omega), ?_⟩
  have := Int.mul_le_mul h1.2 h2.2 (by omega) (by omega)
  omega
set_option maxHeartbeats 1600000 in
theorem implValid_calls (S L : Int) (A : Option Addr) (n c : Nat) (B : Option Addr) (m d : Nat) (xs : List Int) (hx : xs.length = n) (hn : n ≤ 1048576) (hm : m ≤ 1048576) (w : World) (ha : Rd w w.heap.size A (i64s xs)) :
    Calls Try.prog 20 #[.agg #[.int .i64 S, .int .i64 L, .slice A n c, .slice B m d]] w (RetG (.bool (validP S L n xs m)) w) := by
  have HX := hid hx
  have HA := hid ha
  clear hx ha
  have done : ∀ (b : Bool) (e : Ending) (w' : World), validP S L n xs m = b → (RetG (.bool b) w e w') → RetG (.bool (validP S L n xs m)) w e w' := fun b e w' h => by rw [h]; exact id
  cases h1 : inB S 1 64
  · have H1 := hid h1
    have HV := hid (show validP S L n xs m = false by simp [validP, h1])
    rw [HV.out]
    clear h1 done
    go_enter Try.func20, Try.ntmps20
    go_wp2_with (go_at_call 44; refine (within_is _ _ _ _ H1.out _).mono ?_; rintro e w' ⟨rfl, q, rfl⟩)
    go_ret
    exact ⟨rfl, below_drewN ((Below.refl _ _).alloc (Nat.le_refl _) _) _⟩
  · have b1 := inB_iff h1
    cases h2 : inB L 1 4
    · have H1 := hid h1
      have H2 := hid h2
      have HV := hid (show validP S L n xs m = false by simp [validP, h2])
      rw [HV.out]
      clear h1 h2 done
      go_enter Try.func20, Try.ntmps20
      go_wp2_with (go_at_call 44; refine (within_calls _ _ _ _).mono ?_; (first | rw [H1.out] | rw [H2.out]); rintro e w' ⟨rfl, q, rfl⟩)
      go_ret
      exact ⟨rfl, below_drewN ((Below.refl _ _).alloc (Nat.le_refl _) _) _⟩
    · have b2 := inB_iff h2
      have b3 := mul_small b1 b2
      have hw : wrap64 (S * L) = S * L := by unfold wrap64; omega
      have hw1 : wrap64 (S - 1) = S - 1 := by unfold wrap64; omega
      have H1 := hid h1
      have H2 := hid h2
      by_cases h3 : (n : Int) = S * L
      · cases h4 : allIn xs 0 (S - 1)
        · have HV := hid (show validP S L n xs m = false by simp [validP, h4])
          have H4 := hid h4
          have e3 : ((n : Int) == wrap64 (S * L)) = true := by rw [hw]; simpa using h3
          rw [HV.out]
          clear h1 h2 h3 h4 done HV hw b3
          go_enter Try.func20, Try.ntmps20
          go_wp2_with (first | (go_at_call 44; refine (within_calls _ _ _ _).mono ?_; (first | rw [H1.out] | rw [H2.out]); rintro e w' ⟨rfl, q, rfl⟩) | (go_at_call 45; refine (areWithin_calls A n c xs _ _ HX.out hn _ ((rd_alloc HA.out _).drewN _)).mono ?_; rw [H4.out]; rintro e w' ⟨rfl, q2, rfl⟩))
          go_ret
          exact ⟨rfl, below_drewN ((Below.refl _ _).alloc (Nat.le_refl _) _) _⟩
        · have H4 := hid h4
          have e3 : ((n : Int) == wrap64 (S * L)) = true := by rw [hw]; simpa using h3
          by_cases h5 : (m : Int) = S
          · have HV := hid (show validP S L n xs m = true by unfold validP; rw [h1, h2, h4, decide_eq_true h3, decide_eq_true h5]; rfl)
            have e5 : ((m : Int) == S) = true := by simpa using h5
            rw [HV.out]
            clear h1 h2 h3 h4 h5 done HV hw b3
            go_enter Try.func20, Try.ntmps20
            go_wp2_with (first | (go_at_call 44; refine (within_calls _ _ _ _).mono ?_; (first | rw [H1.out] | rw [H2.out]); rintro e w' ⟨rfl, q, rfl⟩) | (go_at_call 45; refine (areWithin_calls A n c xs _ _ HX.out hn _ ((rd_alloc HA.out _).drewN _)).mono ?_; rw [H4.out]; rintro e w' ⟨rfl, q2, rfl⟩))
            go_ret
            exact ⟨rfl, below_drewN ((Below.refl _ _).alloc (Nat.le_refl _) _) _⟩
          · have HV := hid (show validP S L n xs m = false by unfold validP; rw [decide_eq_false h5]; simp)
            have e5 : ((m : Int) == S) = false := by simpa using h5
            rw [HV.out]
            clear h1 h2 h3 h4 h5 done HV hw b3
            go_enter Try.func20, Try.ntmps20
            go_wp2_with (first | (go_at_call 44; refine (within_calls _ _ _ _).mono ?_; (first | rw [H1.out] | rw [H2.out]); rintro e w' ⟨rfl, q, rfl⟩) | (go_at_call 45; refine (areWithin_calls A n c xs _ _ HX.out hn _ ((rd_alloc HA.out _).drewN _)).mono ?_; rw [H4.out]; rintro e w' ⟨rfl, q2, rfl⟩))
            go_ret
            exact ⟨rfl, below_drewN ((Below.refl _ _).alloc (Nat.le_refl _) _) _⟩
      · have HV := hid (show validP S L n xs m = false by unfold validP; rw [decide_eq_false h3]; simp)
        have e3 : ((n : Int) == wrap64 (S * L)) = false := by rw [hw]; simpa using h3
        rw [HV.out]
        clear h1 h2 h3 done HV hw b3
        go_enter Try.func20, Try.ntmps20
        go_wp2_with (first | (go_at_call 44; refine (within_calls _ _ _ _).mono ?_; (first | rw [H1.out] | rw [H2.out]); rintro e w' ⟨rfl, q, rfl⟩))
        go_ret
        exact ⟨rfl, below_drewN ((Below.refl _ _).alloc (Nat.le_refl _) _) _⟩
end Go.Proofs.Ytlfmcdobiojdlaa.Num
