/-
  No cell of these rows narrows 'for every input' (looked for: loops, veiled, ifaces, maps, wideKeys, modest, calm, conditions, laid).
  DERIVED. THE GIVEN ROWS OF THIS SEAT. 10 by the template 'for every input the law returns true; each argument reads behind the call as it read before'; 0 by the template 'total and deterministic' (their statements: YtlfmcdobiojdlaaTotals.lean).
  GIVEN WITH THE SEED: the statements are not yours to turn. If you find one false, say at which input.
  Laid BY PROGRAM, IN A SANDBOX (cutbox-rows.mjs): the forced cells as the released guide's own fill.sh prints them over the translation 1c33c298f2985270… (all of the seat's roots in one cut). By AI agents, Wed Nov 11 2026. No macro, syntax, notation, axiom, sorry.
-/
import Derived.Test.YtlfmcdobiojdlaaChecked
import GoSem.Claim
import GoSem.ClaimJoined
import GoSem.ClaimMapViews
import Derived.JoinedTies
import Derived.KernelRfl
namespace Go.Proofs.Ytlfmcdobiojdlaa
/- THE CELL 'sum', in the pinned program and in every row, IS THE sha256 OF THE DUMP (.gsa) THAT YtlfmcdobiojdlaaProg.lean LOADS. Nothing in Lean hashes anything: it is a label: what it is worth is what the hold of that sum in a sandbox is worth. -/
noncomputable def Try.pinned : Pinned := { name := "ytlfmcdobiojdlaa", sum := "1c33c298f29852709b3d35a3b79f249665134274d2aeabee602753fa8eeb1393", checked := Try.checked }
namespace Rows
def none {H : Type} : Left H := { results := [], args := [] }

/-- 'laws.FnExactIsWord': WHATEVER THE INPUT: true; the input reads as it did. -/
def fnExactIsWordSpec : ChangeSpec := { name := "fnExactIsWord", fn := fun _ => fun
  | [d1, d2] => { results := [.lit (.bool true)], args := [d1, d2] }
  | _ => none }
def fnExactIsWordRow : OpenClaim := { program := "ytlfmcdobiojdlaa", sum := "1c33c298f29852709b3d35a3b79f249665134274d2aeabee602753fa8eeb1393", func := "loop.example/g01357/laws.FnExactIsWord", spec := "fnExactIsWord", plainKeys := false, apart := false }
def FnExactIsWordSaid : Prop := fnExactIsWordRow.holds Try.pinned (OpenSpec.ofChange fnExactIsWordSpec)

/-- ITS FALSE NEIGHBOUR: 'it returns false'. Refute it at one input. -/
def fnExactIsWordWrong : ChangeSpec := { name := "fnExactIsWord", fn := fun _ => fun
  | [d1, d2] => { results := [.lit (.bool false)], args := [d1, d2] }
  | _ => none }
def FnExactIsWordWrongFalsely : Prop := fnExactIsWordRow.holds Try.pinned (OpenSpec.ofChange fnExactIsWordWrong)

/-- 'laws.FnExactValidPlain': WHATEVER THE INPUT: true; the input reads as it did. -/
def fnExactValidPlainSpec : ChangeSpec := { name := "fnExactValidPlain", fn := fun _ => fun
  | [d] => { results := [.lit (.bool true)], args := [d] }
  | _ => none }
def fnExactValidPlainRow : OpenClaim := { program := "ytlfmcdobiojdlaa", sum := "1c33c298f29852709b3d35a3b79f249665134274d2aeabee602753fa8eeb1393", func := "loop.example/g01357/laws.FnExactValidPlain", spec := "fnExactValidPlain", plainKeys := false, apart := false }
def FnExactValidPlainSaid : Prop := fnExactValidPlainRow.holds Try.pinned (OpenSpec.ofChange fnExactValidPlainSpec)

/-- ITS FALSE NEIGHBOUR: 'it returns false'. Refute it at one input. -/
def fnExactValidPlainWrong : ChangeSpec := { name := "fnExactValidPlain", fn := fun _ => fun
  | [d] => { results := [.lit (.bool false)], args := [d] }
  | _ => none }
def FnExactValidPlainWrongFalsely : Prop := fnExactValidPlainRow.holds Try.pinned (OpenSpec.ofChange fnExactValidPlainWrong)

/-- 'laws.FnExactSamePlain': WHATEVER THE INPUT: true; the input reads as it did. -/
def fnExactSamePlainSpec : ChangeSpec := { name := "fnExactSamePlain", fn := fun _ => fun
  | [d1, d2] => { results := [.lit (.bool true)], args := [d1, d2] }
  | _ => none }
def fnExactSamePlainRow : OpenClaim := { program := "ytlfmcdobiojdlaa", sum := "1c33c298f29852709b3d35a3b79f249665134274d2aeabee602753fa8eeb1393", func := "loop.example/g01357/laws.FnExactSamePlain", spec := "fnExactSamePlain", plainKeys := false, apart := false }
def FnExactSamePlainSaid : Prop := fnExactSamePlainRow.holds Try.pinned (OpenSpec.ofChange fnExactSamePlainSpec)

/-- ITS FALSE NEIGHBOUR: 'it returns false'. Refute it at one input. -/
def fnExactSamePlainWrong : ChangeSpec := { name := "fnExactSamePlain", fn := fun _ => fun
  | [d1, d2] => { results := [.lit (.bool false)], args := [d1, d2] }
  | _ => none }
def FnExactSamePlainWrongFalsely : Prop := fnExactSamePlainRow.holds Try.pinned (OpenSpec.ofChange fnExactSamePlainWrong)

/-- 'laws.FnExactReadsWord': WHATEVER THE INPUT: true; the input reads as it did. -/
def fnExactReadsWordSpec : ChangeSpec := { name := "fnExactReadsWord", fn := fun _ => fun
  | [d1, d2] => { results := [.lit (.bool true)], args := [d1, d2] }
  | _ => none }
def fnExactReadsWordRow : OpenClaim := { program := "ytlfmcdobiojdlaa", sum := "1c33c298f29852709b3d35a3b79f249665134274d2aeabee602753fa8eeb1393", func := "loop.example/g01357/laws.FnExactReadsWord", spec := "fnExactReadsWord", plainKeys := false, apart := false }
def FnExactReadsWordSaid : Prop := fnExactReadsWordRow.holds Try.pinned (OpenSpec.ofChange fnExactReadsWordSpec)

/-- ITS FALSE NEIGHBOUR: 'it returns false'. Refute it at one input. -/
def fnExactReadsWordWrong : ChangeSpec := { name := "fnExactReadsWord", fn := fun _ => fun
  | [d1, d2] => { results := [.lit (.bool false)], args := [d1, d2] }
  | _ => none }
def FnExactReadsWordWrongFalsely : Prop := fnExactReadsWordRow.holds Try.pinned (OpenSpec.ofChange fnExactReadsWordWrong)

/-- 'laws.FnExactCountWords': WHATEVER THE INPUT: true; the input reads as it did. -/
def fnExactCountWordsSpec : ChangeSpec := { name := "fnExactCountWords", fn := fun _ => fun
  | [d1, d2] => { results := [.lit (.bool true)], args := [d1, d2] }
  | _ => none }
def fnExactCountWordsRow : OpenClaim := { program := "ytlfmcdobiojdlaa", sum := "1c33c298f29852709b3d35a3b79f249665134274d2aeabee602753fa8eeb1393", func := "loop.example/g01357/laws.FnExactCountWords", spec := "fnExactCountWords", plainKeys := false, apart := false }
def FnExactCountWordsSaid : Prop := fnExactCountWordsRow.holds Try.pinned (OpenSpec.ofChange fnExactCountWordsSpec)

/-- ITS FALSE NEIGHBOUR: 'it returns false'. Refute it at one input. -/
def fnExactCountWordsWrong : ChangeSpec := { name := "fnExactCountWords", fn := fun _ => fun
  | [d1, d2] => { results := [.lit (.bool false)], args := [d1, d2] }
  | _ => none }
def FnExactCountWordsWrongFalsely : Prop := fnExactCountWordsRow.holds Try.pinned (OpenSpec.ofChange fnExactCountWordsWrong)

/-- 'laws.FnExactOtherPlain': WHATEVER THE INPUT: true; the input reads as it did. -/
def fnExactOtherPlainSpec : ChangeSpec := { name := "fnExactOtherPlain", fn := fun _ => fun
  | [d] => { results := [.lit (.bool true)], args := [d] }
  | _ => none }
def fnExactOtherPlainRow : OpenClaim := { program := "ytlfmcdobiojdlaa", sum := "1c33c298f29852709b3d35a3b79f249665134274d2aeabee602753fa8eeb1393", func := "loop.example/g01357/laws.FnExactOtherPlain", spec := "fnExactOtherPlain", plainKeys := false, apart := false }
def FnExactOtherPlainSaid : Prop := fnExactOtherPlainRow.holds Try.pinned (OpenSpec.ofChange fnExactOtherPlainSpec)

/-- ITS FALSE NEIGHBOUR: 'it returns false'. Refute it at one input. -/
def fnExactOtherPlainWrong : ChangeSpec := { name := "fnExactOtherPlain", fn := fun _ => fun
  | [d] => { results := [.lit (.bool false)], args := [d] }
  | _ => none }
def FnExactOtherPlainWrongFalsely : Prop := fnExactOtherPlainRow.holds Try.pinned (OpenSpec.ofChange fnExactOtherPlainWrong)

/-- 'laws.FnExactApartWord': WHATEVER THE INPUT: true; the input reads as it did. -/
def fnExactApartWordSpec : ChangeSpec := { name := "fnExactApartWord", fn := fun _ => fun
  | [d1, d2] => { results := [.lit (.bool true)], args := [d1, d2] }
  | _ => none }
def fnExactApartWordRow : OpenClaim := { program := "ytlfmcdobiojdlaa", sum := "1c33c298f29852709b3d35a3b79f249665134274d2aeabee602753fa8eeb1393", func := "loop.example/g01357/laws.FnExactApartWord", spec := "fnExactApartWord", plainKeys := false, apart := false }
def FnExactApartWordSaid : Prop := fnExactApartWordRow.holds Try.pinned (OpenSpec.ofChange fnExactApartWordSpec)

/-- ITS FALSE NEIGHBOUR: 'it returns false'. Refute it at one input. -/
def fnExactApartWordWrong : ChangeSpec := { name := "fnExactApartWord", fn := fun _ => fun
  | [d1, d2] => { results := [.lit (.bool false)], args := [d1, d2] }
  | _ => none }
def FnExactApartWordWrongFalsely : Prop := fnExactApartWordRow.holds Try.pinned (OpenSpec.ofChange fnExactApartWordWrong)

/-- 'laws.FnExactFirstWord': WHATEVER THE INPUT: true; the input reads as it did. -/
def fnExactFirstWordSpec : ChangeSpec := { name := "fnExactFirstWord", fn := fun _ => fun
  | [d] => { results := [.lit (.bool true)], args := [d] }
  | _ => none }
def fnExactFirstWordRow : OpenClaim := { program := "ytlfmcdobiojdlaa", sum := "1c33c298f29852709b3d35a3b79f249665134274d2aeabee602753fa8eeb1393", func := "loop.example/g01357/laws.FnExactFirstWord", spec := "fnExactFirstWord", plainKeys := false, apart := false }
def FnExactFirstWordSaid : Prop := fnExactFirstWordRow.holds Try.pinned (OpenSpec.ofChange fnExactFirstWordSpec)

/-- ITS FALSE NEIGHBOUR: 'it returns false'. Refute it at one input. -/
def fnExactFirstWordWrong : ChangeSpec := { name := "fnExactFirstWord", fn := fun _ => fun
  | [d] => { results := [.lit (.bool false)], args := [d] }
  | _ => none }
def FnExactFirstWordWrongFalsely : Prop := fnExactFirstWordRow.holds Try.pinned (OpenSpec.ofChange fnExactFirstWordWrong)

/-- 'laws.FnExactMeetPlain': WHATEVER THE INPUT: true; the input reads as it did. -/
def fnExactMeetPlainSpec : ChangeSpec := { name := "fnExactMeetPlain", fn := fun _ => fun
  | [d1, d2] => { results := [.lit (.bool true)], args := [d1, d2] }
  | _ => none }
def fnExactMeetPlainRow : OpenClaim := { program := "ytlfmcdobiojdlaa", sum := "1c33c298f29852709b3d35a3b79f249665134274d2aeabee602753fa8eeb1393", func := "loop.example/g01357/laws.FnExactMeetPlain", spec := "fnExactMeetPlain", unfollowed := true, recurses := true, plainKeys := false, apart := false }
def FnExactMeetPlainSaid : Prop := fnExactMeetPlainRow.holds Try.pinned (OpenSpec.ofChange fnExactMeetPlainSpec)

/-- ITS FALSE NEIGHBOUR: 'it returns false'. Refute it at one input. -/
def fnExactMeetPlainWrong : ChangeSpec := { name := "fnExactMeetPlain", fn := fun _ => fun
  | [d1, d2] => { results := [.lit (.bool false)], args := [d1, d2] }
  | _ => none }
def FnExactMeetPlainWrongFalsely : Prop := fnExactMeetPlainRow.holds Try.pinned (OpenSpec.ofChange fnExactMeetPlainWrong)

/-- 'laws.FnExactLeastPlain': WHATEVER THE INPUT: true; the input reads as it did. -/
def fnExactLeastPlainSpec : ChangeSpec := { name := "fnExactLeastPlain", fn := fun _ => fun
  | [d] => { results := [.lit (.bool true)], args := [d] }
  | _ => none }
def fnExactLeastPlainRow : OpenClaim := { program := "ytlfmcdobiojdlaa", sum := "1c33c298f29852709b3d35a3b79f249665134274d2aeabee602753fa8eeb1393", func := "loop.example/g01357/laws.FnExactLeastPlain", spec := "fnExactLeastPlain", unfollowed := true, recurses := true, plainKeys := false, apart := false }
def FnExactLeastPlainSaid : Prop := fnExactLeastPlainRow.holds Try.pinned (OpenSpec.ofChange fnExactLeastPlainSpec)

/-- ITS FALSE NEIGHBOUR: 'it returns false'. Refute it at one input. -/
def fnExactLeastPlainWrong : ChangeSpec := { name := "fnExactLeastPlain", fn := fun _ => fun
  | [d] => { results := [.lit (.bool false)], args := [d] }
  | _ => none }
def FnExactLeastPlainWrongFalsely : Prop := fnExactLeastPlainRow.holds Try.pinned (OpenSpec.ofChange fnExactLeastPlainWrong)

/- THE SECOND FORM. 'bulk': how many values and letters a reading holds, each counted each time it is reached (what is shared counts as often as it is met; a slice's spare places count too). A statement '..UptoSaid' is the law's where the arguments, and the package variables that the reading takes, are together of bulk at most 1048576: NARROWER than '..Said'. Prove '..Said' where nothing that the law and all that it calls make is longer than what came in: it says more and counts as full. Else prove '..UptoSaid'. A law counts once. -/
mutual
def uptoBulk {H : Type} : DataW H → Nat
  | .lit (.string bytes) => bytes.length + 1
  | .lit _ => 1
  | .nil => 1
  | .ptr d => uptoBulk d + 1
  | .slice elems spare => uptoBulkAll elems + uptoBulkAll spare + 1
  | .agg parts => uptoBulkAll parts + 1
  | .iface _ d => uptoBulk d + 1
  | .map entries => uptoBulkEntries entries + 1
  | .held _ => 1
def uptoBulkAll {H : Type} : List (DataW H) → Nat
  | [] => 0
  | d :: r => uptoBulk d + uptoBulkAll r
def uptoBulkEntries {H : Type} : List (Lit × DataW H) → Nat
  | [] => 0
  | x :: r => uptoBulkEntry x + uptoBulkEntries r
def uptoBulkEntry {H : Type} : Lit × DataW H → Nat
  | (.string bytes, d) => bytes.length + uptoBulk d + 1
  | (_, d) => uptoBulk d + 1
 end
def uptoSmall : (H : Type) → List (DataW H) → Bool := fun _ ds => decide (uptoBulkAll ds ≤ 1048576)
def OpenSpec.upto (s : _root_.Go.ChangeSpec) : _root_.Go.OpenSpec := { _root_.Go.OpenSpec.ofChange s with cond := some uptoSmall }

/-- 'laws.FnExactIsWord', WHERE WHAT IT READS IS OF BULK AT MOST 1048576: true; the input reads as it did. -/
def fnExactIsWordUptoRow : OpenClaim := { program := "ytlfmcdobiojdlaa", sum := "1c33c298f29852709b3d35a3b79f249665134274d2aeabee602753fa8eeb1393", func := "loop.example/g01357/laws.FnExactIsWord", spec := "fnExactIsWord", plainKeys := false, apart := false, narrowed := true }
def FnExactIsWordUptoSaid : Prop := fnExactIsWordUptoRow.holds Try.pinned (OpenSpec.upto fnExactIsWordSpec)

/-- 'laws.FnExactValidPlain', WHERE WHAT IT READS IS OF BULK AT MOST 1048576: true; the input reads as it did. -/
def fnExactValidPlainUptoRow : OpenClaim := { program := "ytlfmcdobiojdlaa", sum := "1c33c298f29852709b3d35a3b79f249665134274d2aeabee602753fa8eeb1393", func := "loop.example/g01357/laws.FnExactValidPlain", spec := "fnExactValidPlain", plainKeys := false, apart := false, narrowed := true }
def FnExactValidPlainUptoSaid : Prop := fnExactValidPlainUptoRow.holds Try.pinned (OpenSpec.upto fnExactValidPlainSpec)

/-- 'laws.FnExactSamePlain', WHERE WHAT IT READS IS OF BULK AT MOST 1048576: true; the input reads as it did. -/
def fnExactSamePlainUptoRow : OpenClaim := { program := "ytlfmcdobiojdlaa", sum := "1c33c298f29852709b3d35a3b79f249665134274d2aeabee602753fa8eeb1393", func := "loop.example/g01357/laws.FnExactSamePlain", spec := "fnExactSamePlain", plainKeys := false, apart := false, narrowed := true }
def FnExactSamePlainUptoSaid : Prop := fnExactSamePlainUptoRow.holds Try.pinned (OpenSpec.upto fnExactSamePlainSpec)

/-- 'laws.FnExactReadsWord', WHERE WHAT IT READS IS OF BULK AT MOST 1048576: true; the input reads as it did. -/
def fnExactReadsWordUptoRow : OpenClaim := { program := "ytlfmcdobiojdlaa", sum := "1c33c298f29852709b3d35a3b79f249665134274d2aeabee602753fa8eeb1393", func := "loop.example/g01357/laws.FnExactReadsWord", spec := "fnExactReadsWord", plainKeys := false, apart := false, narrowed := true }
def FnExactReadsWordUptoSaid : Prop := fnExactReadsWordUptoRow.holds Try.pinned (OpenSpec.upto fnExactReadsWordSpec)

/-- 'laws.FnExactCountWords', WHERE WHAT IT READS IS OF BULK AT MOST 1048576: true; the input reads as it did. -/
def fnExactCountWordsUptoRow : OpenClaim := { program := "ytlfmcdobiojdlaa", sum := "1c33c298f29852709b3d35a3b79f249665134274d2aeabee602753fa8eeb1393", func := "loop.example/g01357/laws.FnExactCountWords", spec := "fnExactCountWords", plainKeys := false, apart := false, narrowed := true }
def FnExactCountWordsUptoSaid : Prop := fnExactCountWordsUptoRow.holds Try.pinned (OpenSpec.upto fnExactCountWordsSpec)

/-- 'laws.FnExactOtherPlain', WHERE WHAT IT READS IS OF BULK AT MOST 1048576: true; the input reads as it did. -/
def fnExactOtherPlainUptoRow : OpenClaim := { program := "ytlfmcdobiojdlaa", sum := "1c33c298f29852709b3d35a3b79f249665134274d2aeabee602753fa8eeb1393", func := "loop.example/g01357/laws.FnExactOtherPlain", spec := "fnExactOtherPlain", plainKeys := false, apart := false, narrowed := true }
def FnExactOtherPlainUptoSaid : Prop := fnExactOtherPlainUptoRow.holds Try.pinned (OpenSpec.upto fnExactOtherPlainSpec)

/-- 'laws.FnExactApartWord', WHERE WHAT IT READS IS OF BULK AT MOST 1048576: true; the input reads as it did. -/
def fnExactApartWordUptoRow : OpenClaim := { program := "ytlfmcdobiojdlaa", sum := "1c33c298f29852709b3d35a3b79f249665134274d2aeabee602753fa8eeb1393", func := "loop.example/g01357/laws.FnExactApartWord", spec := "fnExactApartWord", plainKeys := false, apart := false, narrowed := true }
def FnExactApartWordUptoSaid : Prop := fnExactApartWordUptoRow.holds Try.pinned (OpenSpec.upto fnExactApartWordSpec)

/-- 'laws.FnExactFirstWord', WHERE WHAT IT READS IS OF BULK AT MOST 1048576: true; the input reads as it did. -/
def fnExactFirstWordUptoRow : OpenClaim := { program := "ytlfmcdobiojdlaa", sum := "1c33c298f29852709b3d35a3b79f249665134274d2aeabee602753fa8eeb1393", func := "loop.example/g01357/laws.FnExactFirstWord", spec := "fnExactFirstWord", plainKeys := false, apart := false, narrowed := true }
def FnExactFirstWordUptoSaid : Prop := fnExactFirstWordUptoRow.holds Try.pinned (OpenSpec.upto fnExactFirstWordSpec)

/-- 'laws.FnExactMeetPlain', WHERE WHAT IT READS IS OF BULK AT MOST 1048576: true; the input reads as it did. -/
def fnExactMeetPlainUptoRow : OpenClaim := { program := "ytlfmcdobiojdlaa", sum := "1c33c298f29852709b3d35a3b79f249665134274d2aeabee602753fa8eeb1393", func := "loop.example/g01357/laws.FnExactMeetPlain", spec := "fnExactMeetPlain", unfollowed := true, recurses := true, plainKeys := false, apart := false, narrowed := true }
def FnExactMeetPlainUptoSaid : Prop := fnExactMeetPlainUptoRow.holds Try.pinned (OpenSpec.upto fnExactMeetPlainSpec)

/-- 'laws.FnExactLeastPlain', WHERE WHAT IT READS IS OF BULK AT MOST 1048576: true; the input reads as it did. -/
def fnExactLeastPlainUptoRow : OpenClaim := { program := "ytlfmcdobiojdlaa", sum := "1c33c298f29852709b3d35a3b79f249665134274d2aeabee602753fa8eeb1393", func := "loop.example/g01357/laws.FnExactLeastPlain", spec := "fnExactLeastPlain", unfollowed := true, recurses := true, plainKeys := false, apart := false, narrowed := true }
def FnExactLeastPlainUptoSaid : Prop := fnExactLeastPlainUptoRow.holds Try.pinned (OpenSpec.upto fnExactLeastPlainSpec)

end Rows
end Go.Proofs.Ytlfmcdobiojdlaa
