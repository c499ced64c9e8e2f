/-
  Products of points of the unit circle: rows from 43, counted by the kernel. Over no program. (Printed by gen_circp.py.)
-/
import Derived.Test.YtmehbfcmmffhmaaCircT
namespace Go.Proofs.Fl
open Go Ieee Go.RowKit
set_option maxRecDepth 100000
theorem circRC : (List.range' 43 21).all circB = true := by decide +kernel
end Go.Proofs.Fl
