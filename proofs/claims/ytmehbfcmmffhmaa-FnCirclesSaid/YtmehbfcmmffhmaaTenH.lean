/-
  Tenths of decibels of 64ths: rows 70 to 99, counted by the kernel. Over no program. (Printed by gen_ten2.py.)
-/
import Derived.Test.YtmehbfcmmffhmaaTenTab
namespace Go.Proofs.Fl
open Go Ieee Go.RowKit
set_option maxRecDepth 100000
theorem rowsTH : (List.range' 70 30).all rowB = true := by decide +kernel
end Go.Proofs.Fl
