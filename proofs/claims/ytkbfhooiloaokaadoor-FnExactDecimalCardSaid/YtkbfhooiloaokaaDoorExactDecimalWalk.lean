/-
  The law on Decimal: both texts give the decimal numeral.
-/
import Derived.Test.YtkbfhooiloaokaaDoorDecimal
namespace Go.Proofs.YtkbfhooiloaokaaDoor.fnExactDecimal
open Go.RowKit Go.Proofs.Fl Go.Proofs.YtkbfhooiloaokaaDoor.Num
open Go.Lib (itoa)
set_option linter.unusedVariables false
theorem walk (n : Int) (hn : (Lit.int .i64 n).wf = true) (w : World) (hT : Tab w.heap.size w) : Calls Tryd.prog 3 #[.int .i64 n] w fun e w' => e = .returned (.bool true) ∧ Below w.heap.size w w' := by
  have hb : -9223372036854775808 ≤ n ∧ n ≤ 9223372036854775807 := by
    have e1 : IntKind.i64.min = -9223372036854775808 := rfl
    have e2 : IntKind.i64.max = 9223372036854775807 := rfl
    simpa [Lit.wf, e1, e2] using hn
  have HC := hid (sDecimal_calls n hb.1 hb.2)
  have HD := hid (fun w' (h : Below w.heap.size w w') => Decimal_calls n hb.1 hb.2 w' (hT.on h))
  clear hn hb hT
  generalize itoa n = l at *
  go_enter Tryd.func3, Tryd.ntmps3
  go_wp2_with (go_at_call 10; refine (HC.out _).mono ?_; rintro e w1 ⟨rfl, hb1⟩; have HB := hid hb1; clear hb1)
  go_wp2_with (go_at_call 11; refine (HD.out _ HB.out).mono ?_; rintro e w2 ⟨rfl, hb2⟩; have HB2 := hid hb2; clear hb2)
  go_ret
  exact ⟨rfl, HB.out.trans (HB2.out.mono HB.out.size)⟩
end Go.Proofs.YtkbfhooiloaokaaDoor.fnExactDecimal
