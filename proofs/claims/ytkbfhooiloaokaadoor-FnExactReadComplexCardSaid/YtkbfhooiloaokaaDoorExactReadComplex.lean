/-
  FnExactReadComplex: whatever the input, the law returns true and leaves its arguments as they were (statement Rows.FnExactReadComplexSaid). No condition of its own.
-/
import Derived.Test.YtkbfhooiloaokaaDoorExactReadComplexWalk
import Derived.Test.YtkbfhooiloaokaaDoorRows
import Derived.Test.YtkbfhooiloaokaaDoorCards
import Derived.Test.YtkbfhooiloaokaaDoorTie
import Derived.Stop.LaidErr
import Derived.LaidMore
import Derived.Test.YtkbfhooiloaokaaDoorShapedAnd
import Derived.SevenTiedAt
import Derived.Lib.LaidTab
import Derived.WalkKit
import Derived.ProofKit
import Derived.OpenShut
import Derived.ShutString
import Derived.Laws.Cover2
import Derived.ChangeOld
import Derived.Below
namespace Go.Proofs.YtkbfhooiloaokaaDoor.fnExactReadComplex
open Go.ChangeShapes Go.WideShapes Go.ChangeAt Go.RowKit
open Go.ChangeMaps (open_string shut_string)
set_option linter.unusedVariables false
theorem own : ownKnob Tryd.prog.godebug = none := by kernel_rfl
abbrev laid0 : List (String × DataW Unit) := Rows.fnExactReadComplexRow.laid
/-- the heap that the door's run leaves, the pinned table laid in it -/
noncomputable def start (os : Os) : World :=
  { World.doorLaid Tryd.prog 400 os with heap := (World.doorLaid Tryd.prog 400 os).heap.modify 7 fun
      | .cells _ t frozen => .cells (Go.Pinned.utf8FirstZ.map fun (z : Nat) => Value.int .u8 (z : Int)).toArray t frozen
      | o => o }
theorem door_met (os : Os) (args : Array Value) : laidMet Tryd.prog laid0 ((start os).forCall (fun _ _ => 0) ⟨#[], args, []⟩).memory :=
  laidMet_of_run' 8 (by kernel_rfl) (by kernel_rfl)
theorem gPow : Tryd.prog.globalNamed "internal/strconv.uint64pow10" = some 1 := by kernel_rfl
theorem tPow : (Tryd.prog.globals[1]?).map (·.type) = some 110 := by kernel_rfl
theorem hT_of {W : World} (h : laidMet Tryd.prog laid0 W) : Go.Proofs.YtkbfhooiloaokaaDoor.Num.Tab W.heap.size W :=
  Lib.tabBelow_of_tabIs (Lib.tabIs_of_head gPow tPow Tryd.underlying110 Tryd.underlying77 (by kernel_rfl) (by kernel_rfl) h.tail.tail)
theorem gDeb : Tryd.prog.globalNamed "math/bits.deBruijn64tab" = some 5 := by kernel_rfl
theorem tDeb : (Tryd.prog.globals[5]?).map (·.type) = some 138 := by kernel_rfl
theorem hD_of {W : World} (h : laidMet Tryd.prog laid0 W) : Go.Proofs.YtkbfhooiloaokaaDoor.Num.Deb W.heap.size W :=
  Go.Proofs.YtkbfhooiloaokaaDoor.Num.Deb.of ((Lib.tabIs_of_head (zs := [0, 1, 56, 2, 57, 49, 28, 3, 61, 58, 42, 50, 38, 29, 17, 4, 62, 47, 59, 36, 45, 43, 51, 22, 53, 39, 33, 30, 24, 18, 12, 5, 63, 55, 48, 27, 60, 41, 37, 16, 46, 35, 44, 21, 52, 32, 23, 11, 54, 26, 40, 15, 34, 20, 31, 10, 25, 14, 19, 9, 13, 8, 7, 6]) gDeb tDeb Tryd.underlying138 Tryd.underlying5 (by kernel_rfl) (by kernel_rfl) h.tail).cell gDeb 15 (by decide))
theorem gErrSyntax : Tryd.prog.globalNamed "strconv.ErrSyntax" = some 2 := by kernel_rfl
theorem tErrSyntax : (Tryd.prog.globals[2]?).map (·.type) = some 51 := by kernel_rfl
theorem gErrRange : Tryd.prog.globalNamed "strconv.ErrRange" = some 3 := by kernel_rfl
theorem tErrRange : (Tryd.prog.globals[3]?).map (·.type) = some 51 := by kernel_rfl
theorem star : "*" ++ "errors.errorString" = "*errors.errorString" := by decide
theorem rowES (u : TypeId) (h : Tryd.prog.typeName? 3 u = some "*errors.errorString") : u = 127 :=
  typeName_ptr_named (nm := "errors.errorString") (by rw [star]; kernel_rfl) (by kernel_rfl) (by decide) u (by rw [star]; exact h)
theorem hErrSyntax_of {W : World} (h : laidMet Tryd.prog laid0 W) : ∃ a : Addr, W.var? Tryd.prog "strconv.ErrSyntax" = some #[.iface 127 (.pointer (some a))] :=
  let ⟨a, _, hv, _⟩ := laid_sentinel (h.tail.tail.tail.tail.tail) gErrSyntax tErrSyntax Tryd.underlying51 rowES Tryd.underlying127 Tryd.underlying129 rfl rfl Tryd.underlying9 (by kernel_rfl) (by kernel_rfl)
  ⟨a, hv⟩
theorem hErrRange_of {W : World} (h : laidMet Tryd.prog laid0 W) : ∃ a : Addr, W.var? Tryd.prog "strconv.ErrRange" = some #[.iface 127 (.pointer (some a))] :=
  let ⟨a, _, hv, _⟩ := laid_sentinel (h.tail.tail.tail.tail) gErrRange tErrRange Tryd.underlying51 rowES Tryd.underlying127 Tryd.underlying129 rfl rfl Tryd.underlying9 (by kernel_rfl) (by kernel_rfl)
  ⟨a, hv⟩
theorem hE_of {W : World} (h : laidMet Tryd.prog laid0 W) : Go.Proofs.YtkbfhooiloaokaaDoor.Num.Errs W.heap.size W := Go.Proofs.YtkbfhooiloaokaaDoor.Num.Errs.of (hErrSyntax_of h) (hErrRange_of h)
theorem hM_of {W : World} (h : W.ShapedOpen Tryd.prog) : Go.Proofs.YtkbfhooiloaokaaDoor.Num.MaxL W.heap.size W :=
  Go.Proofs.YtkbfhooiloaokaaDoor.Num.MaxL.of (Go.Proofs.cell_of_shapedOpen_int (zero := #[.int .i64 0]) (t := 3) h (of_decide_eq_true (by kernel_rfl)) (by kernel_rfl) rfl (by kernel_rfl) (by kernel_rfl) Tryd.underlying3)
set_option maxRecDepth 100000 in
theorem lifted (os : Os) (started : os.Started) (H : Type) (enc : TypeId × Value → H) :
    ReturnsInHanded {} Tryd.checked os 9 .any (fun w args => (Rows.fnExactReadComplexSpec.pre enc Tryd.prog Tryd.f9 Rows.fnExactReadComplexRow.domain false w args ∧ laidMet Tryd.prog laid0 w) ∧ sizedMet enc Tryd.prog Tryd.f9 (OpenSpec.ofChange Rows.fnExactReadComplexSpec) false w args) (Rows.fnExactReadComplexSpec.post enc Tryd.prog Tryd.f9 false true false false) := by
  refine Go.Proofs.Fl.returns_and_shaped (C := Tryd.checked) (X := fun w _ => laidMet Tryd.prog laid0 w) (fun _ _ _ hh h => h.of_heap hh) own started (by kernel_rfl) Tryd.func9
    (ChangeSpec.witness_shaped (enc := enc) (C := Tryd.checked) (os := os) (X := fun w _ => laidMet Tryd.prog laid0 w) false (start os) #[.string ByteArray.empty] 8 rfl (World.shaped_of_RefB (by kernel_rfl) (by kernel_rfl)) (by kernel_rfl) (by kernel_rfl) (by kernel_rfl) (door_met os _)) ?_
  intro W base args ds gs before hval0 hW hcnd hL hS
  have hval : ∀ (j : Nat) t v, Tryd.f9.params[j]? = some t → args[j]? = some v → Value.okWide Tryd.prog W .any base t v := hval0
  have hW' := hW
  obtain ⟨p, q, hA0, hV, rfl, hfz, hnd⟩ := hW
  have hA : DataW.TrodAll enc Tryd.prog W 0 (fun _ => true) true Tryd.f9.params.toList args.toList ds p := hA0
  rw [Tryd.params9] at hA hval
  obtain ⟨v0, vs0, d0, ds0, p0, q0, hargs, rfl, rfl, h0, r0⟩ := trodAll_cons hA
  obtain ⟨rfl, rfl, rfl⟩ := trodAll_nil r0
  obtain rfl : args = #[v0] := by cases args; simp_all
  obtain ⟨rfl, rfl⟩ := trodVars_none hV
  obtain ⟨a0, rfl, rfl, rfl, w0⟩ := open_string Tryd.underlying9 (hval 0 9 v0 rfl rfl) h0
  clear hA0 hval0
  simp only [List.append_nil] at hW'
  refine (walk a0 w0 W ⟨hD_of hL, hE_of hL, hM_of hS⟩).mono fun e W' ⟨he, bel⟩ => ?_
  subst he
  exact ⟨_, rfl, _, _, _, [], _, [], hW', trodAll_mk1 (shut_bool Tryd.underlying4 _), (trodAll_cons_mk (shut_string Tryd.underlying9 w0) trodAll_mk0), rfl, bel.frame _, fun h => by cases h⟩
theorem over : Rows.fnExactReadComplexRow.holds Tryd.pinned (OpenSpec.ofChange Rows.fnExactReadComplexSpec) :=
  OpenClaim.holds_of_wide 9 Tryd.f9 rfl rfl rfl rfl rfl rfl rfl ⟨rfl, rfl, rfl, rfl, rfl⟩ rfl rfl rfl rfl rfl (by kernel_rfl) Tryd.func9 (by kernel_rfl)
    (of_decide_eq_true (by kernel_rfl)) (by unfold Func.isWrapper; first | (rw [if_pos (by decide +kernel)]; kernel_rfl) | (rw [if_neg (by decide +kernel)]; exact ⟨rfl, rfl⟩))
    (fun os started H enc _ => lifted os started H enc)
theorem said : Rows.FnExactReadComplexSaid := over
theorem proved : Rows.FnExactReadComplexCardSaid :=
  Claim7.holds_tied_plain_at .later [] [.data, .data, .data, .data, .sentinel, .sentinel, .pinned] true (true, "27a012cc74d4e1f140d93379a1b96f720e91f7672b8c1fa71c4c7f3bb23f4a97") true
    said (fun _ h => by cases h) (by kernel_rfl) (fun _ h => by cases h) fnExactReadComplex_row_tie rfl ⟨rfl, rfl⟩ (by kernel_rfl) rfl
    (fun f fn hf hfn => by
      obtain rfl : f = 9 := Option.some.inj ((show Tryd.prog.funcNamed "loop.example/g01357/laws.FnExactReadComplex" = some 9 by kernel_rfl).symm.trans hf) |>.symm
      obtain rfl : fn = Tryd.f9 := (Option.some.inj (Tryd.func9.symm.trans hfn)).symm
      exact ⟨by kernel_rfl, fun j t ht => by
        rw [Tryd.params9] at ht
        have hm : t ∈ [9] := by simpa using Array.mem_of_getElem? ht
        have hall : ([9].all fun u => !Tryd.prog.wantsStandIn u) = true := by kernel_rfl
        exact (show Tryd.prog.wantsStandIn t = false by simpa using List.all_eq_true.1 hall t hm)⟩)
    (by kernel_rfl)
#print axioms proved
end Go.Proofs.YtkbfhooiloaokaaDoor.fnExactReadComplex
