/-
  The entries of package math that have no body here: what a call of each gives.
-/
import Derived.Test.YtkbfhooiloaokaaDoorChecked
import Derived.Test.YtkbfhooiloaokaaDoorFloat
import Derived.WalkLawsBesides
import Derived.WalkSpells
import Derived.Below
import Derived.Handy
import Derived.Laws.Externs
import Derived.Laws.BitsAllLaws
namespace Go.Proofs.YtkbfhooiloaokaaDoor
open Go.RowKit Go.Proofs.Fl
set_option linter.unusedVariables false

@[go_sem] theorem ext_Float32bits (x : Nat) (w : World) : (callFunc 82 #[.float .f32 x]).run Tryd.prog w = .ok (.value (.int .u32 x)) w := by rw [run_callFunc_extern (e := Extern.MathFloatBits.float32bits) Tryd.func82 (by kernel_rfl) (by kernel_rfl) (by kernel_rfl) (by kernel_rfl)]; rfl
@[go_sem] theorem ext_Float32frombits (x : Int) (w : World) : (callFunc 71 #[.int .u32 x]).run Tryd.prog w = .ok (.value (.float .f32 x.toNat)) w := by rw [run_callFunc_extern (e := Extern.MathFloatBits.float32frombits) Tryd.func71 (by kernel_rfl) (by kernel_rfl) (by kernel_rfl) (by kernel_rfl)]; rfl

namespace Num
end Num
end Go.Proofs.YtkbfhooiloaokaaDoor
