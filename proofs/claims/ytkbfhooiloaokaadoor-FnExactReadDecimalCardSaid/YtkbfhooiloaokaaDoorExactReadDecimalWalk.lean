/-
  The law on ReadDecimal: both texts read the number whose numeral the text is.
-/
import Derived.Test.YtkbfhooiloaokaaDoorReadDec
namespace Go.Proofs.YtkbfhooiloaokaaDoor.fnExactReadDecimal
open Go.RowKit Go.Proofs.Fl Go.Proofs.YtkbfhooiloaokaaDoor.Num
set_option linter.unusedVariables false
theorem walk (s : ByteArray) (hs : s.size ≤ maxLen) (w : World) (hT : Tab w.heap.size w) (hE : Errs w.heap.size w) : Calls Tryd.prog 4 #[.string s] w fun e w' => e = .returned (.bool true) ∧ Below w.heap.size w w' := by
  by_cases hlen : s.size ≤ 1048576
  · have HC := hid (sReadDecimal_calls s hlen w)
    have HD := hid (fun w' (h : Below w.heap.size w w') => ReadDecimal_calls s hlen w' h.size (hT.on h) (hE.on h))
    clear hT hE
    unfold maxLen at hs
    generalize Dc.rdDec s.data.toList = r at *
    go_enter Tryd.func4, Tryd.ntmps4
    go_wp2_with (first | (go_at_call 12; refine HC.out.mono ?_; rintro e w1 ⟨rfl, hb⟩; have HB := hid hb; clear hb) | (go_at_call 13; refine (HD.out _ HB.out).mono ?_; rintro e w2 ⟨rfl, hb⟩; have HB2 := hid hb; clear hb))
    go_ret
    exact ⟨rfl, HB.out.trans (HB2.out.mono HB.out.size)⟩
  · unfold maxLen at hs
    go_enter Tryd.func4, Tryd.ntmps4
    go_wp2
    go_ret
    exact ⟨rfl, Below.refl _ _⟩
end Go.Proofs.YtkbfhooiloaokaaDoor.fnExactReadDecimal
