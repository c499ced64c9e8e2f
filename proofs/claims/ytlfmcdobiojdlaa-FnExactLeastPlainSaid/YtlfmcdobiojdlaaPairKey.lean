/-
  Pairs as keys of a map.
-/
import Derived.Test.YtlfmcdobiojdlaaApSpec
import Derived.Test.YtlfmcdobiojdlaaRawMap
import Derived.DeepKeys4
import Derived.WideKeyPair
namespace Go.Proofs.Ytlfmcdobiojdlaa.fnExactApartWord
open Go.RowKit Go.Proofs.Fl Go.Proofs.Ytlfmcdobiojdlaa.Num Go.Proofs.Bfs
open Go.Maps (Keyed)
set_option linter.unusedVariables false
set_option linter.unusedSimpArgs false
theorem laidK : laidOutB Try.prog = true := by kernel_rfl
theorem rowK : (65 : TypeId) < Try.prog.types.size := of_decide_eq_true (by kernel_rfl)
theorem wideK : (match Try.prog.underlying 65 with | some (.array _ _) | some (.struct _) => true | _ => false) = true := by rw [Try.underlying65]
theorem pairKeyed : Keyed Try.prog 65 := Keyed.of_law (deep_law_laid laidK (m := 2) (by omega) rowK (by kernel_rfl) wideK)
theorem arrK : Go.WideMaps.ArrKey Try.prog 65 2 2 := ⟨Try.underlying65, by kernel_rfl, by kernel_rfl, by kernel_rfl⟩
theorem szK : ∃ m, Try.prog.types.size = m + 1 := ⟨Try.prog.types.size - 1, by have h : (0 : Nat) < Try.prog.types.size := Nat.lt_of_le_of_lt (Nat.zero_le _) rowK; omega⟩
theorem wfI {x : Int} (h : -9223372036854775808 ≤ x ∧ x ≤ 9223372036854775807) : (Lit.int .i64 x).wf = true := by
  simp [Lit.wf, IntKind.min, IntKind.max, IntKind.bits, IntKind.signed]
  omega
def pairV (x y : Int) : Value := .agg #[.int .i64 x, .int .i64 y]
theorem pair_key (x y : Int) (hx : -9223372036854775808 ≤ x ∧ x ≤ 9223372036854775807) (hy : -9223372036854775808 ≤ y ∧ y ≤ 9223372036854775807) : ∃ l, keyOf Try.prog 65 (pairV x y) = some l := by
  exact ⟨_, Go.WideMaps.keyOf_pair arrK Try.underlying2 szK (wfI hx) (wfI hy)⟩
theorem pair_inj {x y x' y' : Int} (h : pairV x y = pairV x' y') : x = x' ∧ y = y' := by
  unfold pairV at h
  simp at h
  exact h
end Go.Proofs.Ytlfmcdobiojdlaa.fnExactApartWord
