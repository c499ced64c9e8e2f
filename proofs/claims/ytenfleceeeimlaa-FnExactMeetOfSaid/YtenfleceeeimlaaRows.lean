/-
  No cell of these rows narrows 'for every input' (looked for: loops, veiled, ifaces, maps, wideKeys, modest, calm, conditions, laid).
  DERIVED. THE GIVEN ROWS OF THIS SEAT. 5 by the template 'for every input the law returns true; each argument reads behind the call as it read before'; 0 by the template 'total and deterministic' (their statements: YtenfleceeeimlaaTotals.lean).
  GIVEN WITH THE SEED: the statements are not yours to turn. If you find one false, say at which input.
  Laid BY PROGRAM, IN A SANDBOX (cutbox-rows.mjs): the forced cells as the released guide's own fill.sh prints them over the translation c766f5247d5cc78e… (all of the seat's roots in one cut). By AI agents, Wed Nov 11 2026. No macro, syntax, notation, axiom, sorry.
-/
import Derived.Test.YtenfleceeeimlaaChecked
import GoSem.Claim
import GoSem.ClaimJoined
import GoSem.ClaimMapViews
import Derived.JoinedTies
import Derived.KernelRfl
namespace Go.Proofs.Ytenfleceeeimlaa
/- THE CELL 'sum', in the pinned program and in every row, IS THE sha256 OF THE DUMP (.gsa) THAT YtenfleceeeimlaaProg.lean LOADS. Nothing in Lean hashes anything: it is a label: what it is worth is what the hold of that sum in a sandbox is worth. -/
noncomputable def Try.pinned : Pinned := { name := "ytenfleceeeimlaa", sum := "c766f5247d5cc78e29d8b02cdcf41376f31b2d8998a7e3c726df7c13761fac62", checked := Try.checked }
namespace Rows
def none {H : Type} : Left H := { results := [], args := [] }

/-- 'laws.FnExactSameMachine': WHATEVER THE INPUT: true; the input reads as it did. -/
def fnExactSameMachineSpec : ChangeSpec := { name := "fnExactSameMachine", fn := fun _ => fun
  | [d1, d2] => { results := [.lit (.bool true)], args := [d1, d2] }
  | _ => none }
def fnExactSameMachineRow : OpenClaim := { program := "ytenfleceeeimlaa", sum := "c766f5247d5cc78e29d8b02cdcf41376f31b2d8998a7e3c726df7c13761fac62", func := "loop.example/g01357/laws.FnExactSameMachine", spec := "fnExactSameMachine", apart := false }
def FnExactSameMachineSaid : Prop := fnExactSameMachineRow.holds Try.pinned (OpenSpec.ofChange fnExactSameMachineSpec)

/-- ITS FALSE NEIGHBOUR: 'it returns false'. Refute it at one input. -/
def fnExactSameMachineWrong : ChangeSpec := { name := "fnExactSameMachine", fn := fun _ => fun
  | [d1, d2] => { results := [.lit (.bool false)], args := [d1, d2] }
  | _ => none }
def FnExactSameMachineWrongFalsely : Prop := fnExactSameMachineRow.holds Try.pinned (OpenSpec.ofChange fnExactSameMachineWrong)

/-- 'laws.FnExactValidMachine': WHATEVER THE INPUT: true; the input reads as it did. -/
def fnExactValidMachineSpec : ChangeSpec := { name := "fnExactValidMachine", fn := fun _ => fun
  | [d] => { results := [.lit (.bool true)], args := [d] }
  | _ => none }
def fnExactValidMachineRow : OpenClaim := { program := "ytenfleceeeimlaa", sum := "c766f5247d5cc78e29d8b02cdcf41376f31b2d8998a7e3c726df7c13761fac62", func := "loop.example/g01357/laws.FnExactValidMachine", spec := "fnExactValidMachine", apart := false }
def FnExactValidMachineSaid : Prop := fnExactValidMachineRow.holds Try.pinned (OpenSpec.ofChange fnExactValidMachineSpec)

/-- ITS FALSE NEIGHBOUR: 'it returns false'. Refute it at one input. -/
def fnExactValidMachineWrong : ChangeSpec := { name := "fnExactValidMachine", fn := fun _ => fun
  | [d] => { results := [.lit (.bool false)], args := [d] }
  | _ => none }
def FnExactValidMachineWrongFalsely : Prop := fnExactValidMachineRow.holds Try.pinned (OpenSpec.ofChange fnExactValidMachineWrong)

/-- 'laws.FnExactBackOf': WHATEVER THE INPUT: true; the input reads as it did. -/
def fnExactBackOfSpec : ChangeSpec := { name := "fnExactBackOf", fn := fun _ => fun
  | [d] => { results := [.lit (.bool true)], args := [d] }
  | _ => none }
def fnExactBackOfRow : OpenClaim := { program := "ytenfleceeeimlaa", sum := "c766f5247d5cc78e29d8b02cdcf41376f31b2d8998a7e3c726df7c13761fac62", func := "loop.example/g01357/laws.FnExactBackOf", spec := "fnExactBackOf", apart := false }
def FnExactBackOfSaid : Prop := fnExactBackOfRow.holds Try.pinned (OpenSpec.ofChange fnExactBackOfSpec)

/-- ITS FALSE NEIGHBOUR: 'it returns false'. Refute it at one input. -/
def fnExactBackOfWrong : ChangeSpec := { name := "fnExactBackOf", fn := fun _ => fun
  | [d] => { results := [.lit (.bool false)], args := [d] }
  | _ => none }
def FnExactBackOfWrongFalsely : Prop := fnExactBackOfRow.holds Try.pinned (OpenSpec.ofChange fnExactBackOfWrong)

/-- 'laws.FnExactEndCosts': WHATEVER THE INPUT: true; the input reads as it did. -/
def fnExactEndCostsSpec : ChangeSpec := { name := "fnExactEndCosts", fn := fun _ => fun
  | [d] => { results := [.lit (.bool true)], args := [d] }
  | _ => none }
def fnExactEndCostsRow : OpenClaim := { program := "ytenfleceeeimlaa", sum := "c766f5247d5cc78e29d8b02cdcf41376f31b2d8998a7e3c726df7c13761fac62", func := "loop.example/g01357/laws.FnExactEndCosts", spec := "fnExactEndCosts", apart := false }
def FnExactEndCostsSaid : Prop := fnExactEndCostsRow.holds Try.pinned (OpenSpec.ofChange fnExactEndCostsSpec)

/-- ITS FALSE NEIGHBOUR: 'it returns false'. Refute it at one input. -/
def fnExactEndCostsWrong : ChangeSpec := { name := "fnExactEndCosts", fn := fun _ => fun
  | [d] => { results := [.lit (.bool false)], args := [d] }
  | _ => none }
def FnExactEndCostsWrongFalsely : Prop := fnExactEndCostsRow.holds Try.pinned (OpenSpec.ofChange fnExactEndCostsWrong)

/-- 'laws.FnExactMeetOf': WHATEVER THE INPUT: true; the input reads as it did. -/
def fnExactMeetOfSpec : ChangeSpec := { name := "fnExactMeetOf", fn := fun _ => fun
  | [d1, d2] => { results := [.lit (.bool true)], args := [d1, d2] }
  | _ => none }
def fnExactMeetOfRow : OpenClaim := { program := "ytenfleceeeimlaa", sum := "c766f5247d5cc78e29d8b02cdcf41376f31b2d8998a7e3c726df7c13761fac62", func := "loop.example/g01357/laws.FnExactMeetOf", spec := "fnExactMeetOf", unfollowed := true, recurses := true, apart := false }
def FnExactMeetOfSaid : Prop := fnExactMeetOfRow.holds Try.pinned (OpenSpec.ofChange fnExactMeetOfSpec)

/-- ITS FALSE NEIGHBOUR: 'it returns false'. Refute it at one input. -/
def fnExactMeetOfWrong : ChangeSpec := { name := "fnExactMeetOf", fn := fun _ => fun
  | [d1, d2] => { results := [.lit (.bool false)], args := [d1, d2] }
  | _ => none }
def FnExactMeetOfWrongFalsely : Prop := fnExactMeetOfRow.holds Try.pinned (OpenSpec.ofChange fnExactMeetOfWrong)

/- THE SECOND FORM. 'bulk': how many values and letters a reading holds, each counted each time it is reached (what is shared counts as often as it is met; a slice's spare places count too). A statement '..UptoSaid' is the law's where the arguments, and the package variables that the reading takes, are together of bulk at most 1048576: NARROWER than '..Said'. Prove '..Said' where nothing that the law and all that it calls make is longer than what came in: it says more and counts as full. Else prove '..UptoSaid'. A law counts once. -/
mutual
def uptoBulk {H : Type} : DataW H → Nat
  | .lit (.string bytes) => bytes.length + 1
  | .lit _ => 1
  | .nil => 1
  | .ptr d => uptoBulk d + 1
  | .slice elems spare => uptoBulkAll elems + uptoBulkAll spare + 1
  | .agg parts => uptoBulkAll parts + 1
  | .iface _ d => uptoBulk d + 1
  | .map entries => uptoBulkEntries entries + 1
  | .held _ => 1
def uptoBulkAll {H : Type} : List (DataW H) → Nat
  | [] => 0
  | d :: r => uptoBulk d + uptoBulkAll r
def uptoBulkEntries {H : Type} : List (Lit × DataW H) → Nat
  | [] => 0
  | x :: r => uptoBulkEntry x + uptoBulkEntries r
def uptoBulkEntry {H : Type} : Lit × DataW H → Nat
  | (.string bytes, d) => bytes.length + uptoBulk d + 1
  | (_, d) => uptoBulk d + 1
 end
def uptoSmall : (H : Type) → List (DataW H) → Bool := fun _ ds => decide (uptoBulkAll ds ≤ 1048576)
def OpenSpec.upto (s : _root_.Go.ChangeSpec) : _root_.Go.OpenSpec := { _root_.Go.OpenSpec.ofChange s with cond := some uptoSmall }

/-- 'laws.FnExactSameMachine', WHERE WHAT IT READS IS OF BULK AT MOST 1048576: true; the input reads as it did. -/
def fnExactSameMachineUptoRow : OpenClaim := { program := "ytenfleceeeimlaa", sum := "c766f5247d5cc78e29d8b02cdcf41376f31b2d8998a7e3c726df7c13761fac62", func := "loop.example/g01357/laws.FnExactSameMachine", spec := "fnExactSameMachine", apart := false, narrowed := true }
def FnExactSameMachineUptoSaid : Prop := fnExactSameMachineUptoRow.holds Try.pinned (OpenSpec.upto fnExactSameMachineSpec)

/-- 'laws.FnExactValidMachine', WHERE WHAT IT READS IS OF BULK AT MOST 1048576: true; the input reads as it did. -/
def fnExactValidMachineUptoRow : OpenClaim := { program := "ytenfleceeeimlaa", sum := "c766f5247d5cc78e29d8b02cdcf41376f31b2d8998a7e3c726df7c13761fac62", func := "loop.example/g01357/laws.FnExactValidMachine", spec := "fnExactValidMachine", apart := false, narrowed := true }
def FnExactValidMachineUptoSaid : Prop := fnExactValidMachineUptoRow.holds Try.pinned (OpenSpec.upto fnExactValidMachineSpec)

/-- 'laws.FnExactBackOf', WHERE WHAT IT READS IS OF BULK AT MOST 1048576: true; the input reads as it did. -/
def fnExactBackOfUptoRow : OpenClaim := { program := "ytenfleceeeimlaa", sum := "c766f5247d5cc78e29d8b02cdcf41376f31b2d8998a7e3c726df7c13761fac62", func := "loop.example/g01357/laws.FnExactBackOf", spec := "fnExactBackOf", apart := false, narrowed := true }
def FnExactBackOfUptoSaid : Prop := fnExactBackOfUptoRow.holds Try.pinned (OpenSpec.upto fnExactBackOfSpec)

/-- 'laws.FnExactEndCosts', WHERE WHAT IT READS IS OF BULK AT MOST 1048576: true; the input reads as it did. -/
def fnExactEndCostsUptoRow : OpenClaim := { program := "ytenfleceeeimlaa", sum := "c766f5247d5cc78e29d8b02cdcf41376f31b2d8998a7e3c726df7c13761fac62", func := "loop.example/g01357/laws.FnExactEndCosts", spec := "fnExactEndCosts", apart := false, narrowed := true }
def FnExactEndCostsUptoSaid : Prop := fnExactEndCostsUptoRow.holds Try.pinned (OpenSpec.upto fnExactEndCostsSpec)

/-- 'laws.FnExactMeetOf', WHERE WHAT IT READS IS OF BULK AT MOST 1048576: true; the input reads as it did. -/
def fnExactMeetOfUptoRow : OpenClaim := { program := "ytenfleceeeimlaa", sum := "c766f5247d5cc78e29d8b02cdcf41376f31b2d8998a7e3c726df7c13761fac62", func := "loop.example/g01357/laws.FnExactMeetOf", spec := "fnExactMeetOf", unfollowed := true, recurses := true, apart := false, narrowed := true }
def FnExactMeetOfUptoSaid : Prop := fnExactMeetOfUptoRow.holds Try.pinned (OpenSpec.upto fnExactMeetOfSpec)

end Rows
end Go.Proofs.Ytenfleceeeimlaa
