/-
  The law on IsWord.
-/
import Derived.Test.YtlfmcdobiojdlaaInts
import Derived.Test.YtlfmcdobiojdlaaToI64
namespace Go.Proofs.Ytlfmcdobiojdlaa.fnExactIsWord
open Go.RowKit Go.Proofs.Fl Go.Proofs.Ytlfmcdobiojdlaa.Num
set_option linter.unusedVariables false
set_option linter.unusedSimpArgs false
def isW (n : Nat) (xs : List Int) (L : Int) : Bool := inB L 1 4 && (allIn xs 0 (L - 1) && decide (n ≤ 12))
theorem inB_iff {x lo hi : Int} (h : inB x lo hi = true) : lo ≤ x ∧ x ≤ hi := by
  unfold inB at h
  simpa using h
theorem spec_calls (A : Option Addr) (n c : Nat) (xs : List Int) (L : Int) (hx : xs.length = n) (hn : n ≤ 1048576) (w : World) (ha : Rd w w.heap.size A (i64s xs)) :
    Calls Try.prog 13 #[.slice A n c, .int .i64 L] w (Ret (.bool (isW n xs L)) w) := by
  have HX := hid hx
  clear hx
  unfold isW
  cases hL : inB L 1 4
  · have HB := hid hL
    go_enter Try.func13, Try.ntmps13
    go_wp2_with (go_at_call 42; refine (l00In_is _ _ _ _ HB.out _).mono ?_; rintro e w' ⟨rfl, q, rfl⟩)
    go_ret
    exact ⟨rfl, _, rfl⟩
  · have HB := hid hL
    have HL := hid (inB_iff hL)
    go_enter Try.func13, Try.ntmps13
    go_wp2_with (first | (go_at_call 42; refine (l00In_is _ _ _ _ HB.out _).mono ?_; rintro e w' ⟨rfl, q, rfl⟩) | (go_at_call 43; refine (l02Word_calls A n c xs L HX.out hn HL.out _ (ha.drewN _)).mono ?_; rintro e w' ⟨rfl, q2, rfl⟩))
    go_ret
    exact ⟨rfl, _, rfl⟩
theorem impl_calls (A : Option Addr) (n c : Nat) (xs : List Int) (L : Int) (hx : xs.length = n) (hn : n ≤ 1048576) (w : World) (ha : Rd w w.heap.size A (i64s xs)) :
    Calls Try.prog 15 #[.slice A n c, .int .i64 L] w (Ret (.bool (isW n xs L)) w) := by
  have HX := hid hx
  clear hx
  unfold isW
  cases hL : inB L 1 4
  · have HB := hid hL
    go_enter Try.func15, Try.ntmps15
    go_wp2_with (go_at_call 44; refine (within_is _ _ _ _ HB.out _).mono ?_; rintro e w' ⟨rfl, q, rfl⟩)
    go_ret
    exact ⟨rfl, _, rfl⟩
  · have HB := hid hL
    have HL := hid (inB_iff hL)
    have HW : wrap64 (L - 1) = L - 1 := by
      have := HL.out
      unfold wrap64
      omega
    by_cases h12 : n ≤ 12
    · go_enter Try.func15, Try.ntmps15
      go_wp2_with (first | (go_at_call 44; refine (within_is _ _ _ _ HB.out _).mono ?_; rintro e w' ⟨rfl, q, rfl⟩) | (go_at_call 45; refine (areWithin_calls A n c xs _ _ HX.out hn _ (ha.drewN _)).mono ?_; rintro e w' ⟨rfl, q2, rfl⟩))
      go_ret
      exact ⟨ret_bool (by simp [h12]), _, rfl⟩
    · go_enter Try.func15, Try.ntmps15
      go_wp2_with (first | (go_at_call 44; refine (within_is _ _ _ _ HB.out _).mono ?_; rintro e w' ⟨rfl, q, rfl⟩))
      go_ret
      exact ⟨ret_bool (by simp [h12]), _, rfl⟩
set_option maxHeartbeats 800000 in
theorem walk (A : Option Addr) (n c : Nat) (xs : List Int) (hx : xs.length = n) (hnc : n ≤ c) (hc : c ≤ maxLen) {w : World} (ha : Rd w w.heap.size A (i64s xs)) (hwf : ∀ z ∈ xs, (Lit.int .i64 z).wf = true) (L : Int) (hL : (Lit.int .i64 L).wf = true) :
    Calls Try.prog 3 #[.slice A n c, .int .i64 L] w fun e w' => e = .returned (.bool true) ∧ Below w.heap.size w w' := by
  have HX := hid hx
  unfold maxLen at hc
  clear hx hwf hL
  have hbb : (isW n xs L != isW n xs L) = false := bne_self_eq_false _
  by_cases hn : n ≤ 1048576
  · go_enter Try.func3, Try.ntmps3
    go_wp2_with fail
    refine (toInt64S_calls A n c xs HX.out hn _ ha).mono ?_
    rintro e w1 ⟨g1, rfl, own1, bel1⟩
    have BEL1 := hid bel1
    have ha1 := hid (show Rd w1 w1.heap.size A (i64s xs) from (ha.below bel1).more bel1.size)
    have hv1 := hid (show Rd w1 w1.heap.size (some ⟨g1, 0, none⟩) (i64s xs) from Rd.of_own own1)
    clear own1 bel1
    go_wp2_with fail
    refine (spec_calls _ n _ xs _ HX.out hn _ hv1.out).mono ?_
    rintro e w' ⟨rfl, n2, rfl⟩
    clear hv1
    go_wp2_with fail
    refine (toInt64S_calls A n c xs HX.out hn _ (ha1.out.drewN _)).mono ?_
    rintro e w3 ⟨g3, rfl, own3, bel3⟩
    have BEL3 := hid (show Below w.heap.size w w3 from BEL1.out.trans (((below_drewN (Below.refl _ _) n2).trans (bel3.mono (Nat.le_refl _))).mono BEL1.out.size))
    have ha3 := hid (show Rd w3 w3.heap.size A (i64s xs) from ((ha1.out.drewN n2).below bel3).more bel3.size)
    have hv3 := hid (show Rd w3 w3.heap.size (some ⟨g3, 0, none⟩) (i64s xs) from Rd.of_own own3)
    clear own3 bel3 BEL1 ha1
    go_wp2_with fail
    refine (impl_calls _ n _ xs _ HX.out hn _ hv3.out).mono ?_
    rintro e w' ⟨rfl, n4, rfl⟩
    go_wp2_with fail
    refine (toInt64S_calls A n c xs HX.out hn _ (ha3.out.drewN _)).mono ?_
    rintro e w6 ⟨g6, rfl, own6, bel6⟩
    have hv6 := hid (show Rd w6 w6.heap.size (some ⟨g6, 0, none⟩) (i64s xs) from Rd.of_own own6)
    have hv7 := hid (show Rd w6 w6.heap.size (some ⟨g3, 0, none⟩) (i64s xs) from ((hv3.out.drewN _).below bel6).more bel6.size)
    have BEL6 := hid (show Below w.heap.size w w6 from (below_drewN BEL3.out _).trans (bel6.mono BEL3.out.size))
    clear own6 bel6
    go_wp2_with (go_at_call 16; refine (eqInt64S_yes _ _ n _ _ xs HX.out hn _ hv7.out hv6.out).mono ?_; rintro e w' ⟨rfl, n8, rfl⟩)
    go_ret
    exact ⟨rfl, below_drewN BEL6.out _⟩
  · go_enter Try.func3, Try.ntmps3
    go_wp2
    go_ret
    exact ⟨rfl, Below.refl _ _⟩
end Go.Proofs.Ytlfmcdobiojdlaa.fnExactIsWord
