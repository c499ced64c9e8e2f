/-
  Tenths of decibels of 64ths: rows 5 to 10, counted by the kernel. Over no program. (Printed by gen_ten2.py.)
-/
import Derived.Test.YtmehbfcmmffhmaaTenTab
namespace Go.Proofs.Fl
open Go Ieee Go.RowKit
set_option maxRecDepth 100000
theorem rowsTB : (List.range' 5 6).all rowB = true := by decide +kernel
end Go.Proofs.Fl
