/-
  Tenths of decibels of 64ths: rows 0 to 4, counted by the kernel. Over no program. (Printed by gen_ten2.py.)
-/
import Derived.Test.YtmehbfcmmffhmaaTenTab
namespace Go.Proofs.Fl
open Go Ieee Go.RowKit
set_option maxRecDepth 100000
theorem rowsTA : (List.range' 0 5).all rowB = true := by decide +kernel
end Go.Proofs.Fl
