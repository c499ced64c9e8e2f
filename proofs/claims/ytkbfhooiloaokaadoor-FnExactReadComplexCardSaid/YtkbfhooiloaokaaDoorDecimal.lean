/-
  The program's decimal numeral (Decimal), by the library's contract; the table that it reads.
-/
import Derived.Test.YtkbfhooiloaokaaDoorDecW
import Derived.Test.YtkbfhooiloaokaaDoorShelfDec
import Derived.Lib.AppendIntMem
namespace Go.Proofs.YtkbfhooiloaokaaDoor.Num
open Go.RowKit Go.Proofs.Fl Go.Proofs.Dc
open Go.Lib (itoa decDigits byteCells byteCells_length byteCells_append)
set_option linter.unusedVariables false
set_option linter.unusedSimpArgs false
/-- the table of the powers of 10 reads as it is laid, whatever is done from block B on -/
def Tab (B : Nat) (w : World) : Prop := Lib.TabBelow Tryd.prog B w "internal/strconv.uint64pow10" .u64 Lib.pow10Tab
theorem Tab.on {B : Nat} {w w1 : World} (h : Tab B w) (hb : Below B w w1) : Tab B w1 := Lib.TabBelow.on h hb
theorem Tab.next {B : Nat} {w w1 : World} (h : Tab B w) (hB : B ≤ w.heap.size) (hb : Below w.heap.size w w1) : Tab B w1 := h.on (hb.mono hB)
theorem Decimal_calls (n : Int) (h0 : -9223372036854775808 ≤ n) (h1 : n ≤ 9223372036854775807) (w : World) {B : Nat} (hT : Tab B w) :
    Calls Tryd.prog 11 #[.int .i64 n] w (RetStr (itoa n) w) := by
  have HC := hid (Tryd.strconv_FormatInt_10 n h0 h1 w hT.here)
  clear hT h0 h1
  go_enter Tryd.func11, Tryd.ntmps11
  go_wp2_with (go_at_call 36; refine HC.out.mono ?_; rintro e w' ⟨rfl, k, os, rfl⟩)
  go_ret
  exact ⟨rfl, Lib.below_grow _ _ (Nat.le_refl _) _ _⟩
theorem sDecimal_calls (n : Int) (h0 : -9223372036854775808 ≤ n) (h1 : n ≤ 9223372036854775807) (w : World) :
    Calls Tryd.prog 10 #[.int .i64 n] w (RetStr (itoa n) w) := by
  have HC := hid (l01Dec_calls n h0 h1 w)
  clear h0 h1
  go_enter Tryd.func10, Tryd.ntmps10
  go_wp2_with (go_at_call 35; refine HC.out.mono ?_; rintro e w' ⟨rfl, hb⟩)
  go_ret
  exact ⟨rfl, hb⟩
end Go.Proofs.YtkbfhooiloaokaaDoor.Num
