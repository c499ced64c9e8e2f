/-
  The law on NumbersText: both texts put the digits together; the argument's copy is left as it was.
-/
import Derived.Test.YtkbfhooiloaokaaDoorNTextI
import Derived.Test.YtkbfhooiloaokaaDoorToF32
import Derived.Test.YtkbfhooiloaokaaDoorEqF32
namespace Go.Proofs.YtkbfhooiloaokaaDoor.fnExactNumbersText
open Go.RowKit Go.Proofs.Fl Go.Proofs.YtkbfhooiloaokaaDoor.Num
set_option linter.unusedVariables false
set_option maxHeartbeats 800000 in
theorem walk (A : Option Addr) (n c : Nat) (xs : List Nat) (hx : xs.length = n) (hnc : n ≤ c) (hc : c ≤ maxLen) {w : World} (ha : Rd w w.heap.size A (f32s xs)) (hwf : ∀ z ∈ xs, (Lit.float .f32 z).wf = true) (hT : Deb w.heap.size w) :
    Calls Tryd.prog 7 #[.slice A n c] w fun e w' => e = .returned (.bool true) ∧ Below w.heap.size w w' := by
  have HX := hid hx
  have HM := hid (fun x (h : x ∈ xs) => wf32 (hwf x h))
  have HTB := hid (fun w' (h : Below w.heap.size w w') => hT.on h)
  unfold maxLen at hc
  clear hx hwf hT
  by_cases hn : n ≤ 1048576
  · go_enter Tryd.func7, Tryd.ntmps7
    go_wp2_with fail
    refine (toFloat32S_calls A n c xs HX.out hn _ ha).mono ?_
    rintro e w1 ⟨g1, rfl, own1, bel1⟩
    have BEL1 := hid bel1
    have ha1 := hid (show Rd w1 w1.heap.size A (f32s xs) from (ha.below bel1).more bel1.size)
    have hv1 := hid (show Rd w1 w1.heap.size (some ⟨g1, 0, none⟩) (f32s xs) from Rd.of_own own1)
    clear own1 bel1
    go_wp2_with fail
    refine (sNumbersText_calls _ n _ xs HX.out HM.out _ hv1.out).mono ?_
    rintro e w2 ⟨rfl, bel2⟩
    have BEL2 := hid (BEL1.out.trans (bel2.mono BEL1.out.size))
    have ha2 := hid (show Rd w2 w2.heap.size A (f32s xs) from (ha1.out.below bel2).more bel2.size)
    clear bel2 hv1 ha1
    go_wp2_with fail
    refine (toFloat32S_calls A n c xs HX.out hn _ ha2.out).mono ?_
    rintro e w3 ⟨g3, rfl, own3, bel3⟩
    have BEL3 := hid (BEL2.out.trans (bel3.mono BEL2.out.size))
    have ha3 := hid (show Rd w3 w3.heap.size A (f32s xs) from (ha2.out.below bel3).more bel3.size)
    have hv3 := hid (show Rd w3 w3.heap.size (some ⟨g3, 0, none⟩) (f32s xs) from Rd.of_own own3)
    clear own3 bel3 BEL1 ha2
    go_wp2_with fail
    refine (NumbersText_calls _ n _ xs HX.out hn HM.out _ (B := w.heap.size) BEL3.out.size hv3.out (HTB.out _ BEL3.out)).mono ?_
    rintro e w4 ⟨rfl, bel4⟩
    have BEL4 := hid (BEL3.out.trans (bel4.mono BEL3.out.size))
    have ha4 := hid (show Rd w4 w4.heap.size A (f32s xs) from (ha3.out.below bel4).more bel4.size)
    have hv4 := hid (show Rd w4 w4.heap.size (some ⟨g3, 0, none⟩) (f32s xs) from (hv3.out.below bel4).more bel4.size)
    clear bel4 hv3 ha3 BEL2 BEL3
    generalize numText xs = r at *
    go_wp2_with fail
    refine (toFloat32S_calls A n c xs HX.out hn _ ha4.out).mono ?_
    rintro e w6 ⟨g6, rfl, own6, bel6⟩
    have hv6 := hid (show Rd w6 w6.heap.size (some ⟨g6, 0, none⟩) (f32s xs) from Rd.of_own own6)
    have hv7 := hid (show Rd w6 w6.heap.size (some ⟨g3, 0, none⟩) (f32s xs) from (hv4.out.below bel6).more bel6.size)
    have BEL6 := hid (BEL4.out.trans (bel6.mono BEL4.out.size))
    clear own6 bel6
    go_wp2_with (go_at_call 25; refine (eqFloat32S_yes _ _ n _ _ xs xs HX.out HX.out hn _ hv7.out hv6.out (fun i h1 h2 => FEq.refl _ _)).mono ?_; rintro e w' ⟨rfl, n8, rfl⟩)
    go_ret
    exact ⟨rfl, below_drewN BEL6.out _⟩
  · go_enter Tryd.func7, Tryd.ntmps7
    go_wp2
    go_ret
    exact ⟨rfl, Below.refl _ _⟩
end Go.Proofs.YtkbfhooiloaokaaDoor.fnExactNumbersText
