/-
  Tenths of decibels of 64ths: rows 49 to 69, counted by the kernel. Over no program. (Printed by gen_ten2.py.)
-/
import Derived.Test.YtmehbfcmmffhmaaTenTab
namespace Go.Proofs.Fl
open Go Ieee Go.RowKit
set_option maxRecDepth 100000
theorem rowsTG : (List.range' 49 21).all rowB = true := by decide +kernel
end Go.Proofs.Fl
