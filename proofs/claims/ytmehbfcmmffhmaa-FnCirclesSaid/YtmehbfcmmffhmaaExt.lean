/-
  The entries of package math that have no body here: what a call of each gives.
-/
import Derived.Test.YtmehbfcmmffhmaaChecked
import Derived.Test.YtmehbfcmmffhmaaFloat
import Derived.WalkLawsBesides
import Derived.WalkSpells
import Derived.Below
import Derived.Handy
import Derived.Laws.Externs
import Derived.Laws.BitsAllLaws
namespace Go.Proofs.Ytmehbfcmmffhmaa
open Go.RowKit Go.Proofs.Fl
set_option linter.unusedVariables false

@[go_sem] theorem ext_Float32bits (x : Nat) (w : World) : (callFunc 41 #[.float .f32 x]).run Try.prog w = .ok (.value (.int .u32 x)) w := by rw [run_callFunc_extern (e := Extern.MathFloatBits.float32bits) Try.func41 (by kernel_rfl) (by kernel_rfl) (by kernel_rfl) (by kernel_rfl)]; rfl
@[go_sem] theorem ext_Float64bits (x : Nat) (w : World) : (callFunc 32 #[.float .f64 x]).run Try.prog w = .ok (.value (.int .u64 x)) w := by rw [run_callFunc_extern (e := Extern.MathFloatBits.float64bits) Try.func32 (by kernel_rfl) (by kernel_rfl) (by kernel_rfl) (by kernel_rfl)]; rfl
@[go_sem] theorem ext_Float64frombits (x : Int) (w : World) : (callFunc 31 #[.int .u64 x]).run Try.prog w = .ok (.value (.float .f64 x.toNat)) w := by rw [run_callFunc_extern (e := Extern.MathFloatBits.float64frombits) Try.func31 (by kernel_rfl) (by kernel_rfl) (by kernel_rfl) (by kernel_rfl)]; rfl

namespace Num
end Num
end Go.Proofs.Ytmehbfcmmffhmaa
