/-
  Tenths of decibels of 64ths: rows 11 to 17, counted by the kernel. Over no program. (Printed by gen_ten2.py.)
-/
import Derived.Test.YtmehbfcmmffhmaaTenTab
namespace Go.Proofs.Fl
open Go Ieee Go.RowKit
set_option maxRecDepth 100000
theorem rowsTC : (List.range' 11 7).all rowB = true := by decide +kernel
end Go.Proofs.Fl
