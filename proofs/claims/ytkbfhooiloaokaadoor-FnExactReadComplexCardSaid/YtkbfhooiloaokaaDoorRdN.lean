/-
  The list of float32 with a text, as a plain function: what both texts read.
-/
import Derived.Test.YtkbfhooiloaokaaDoorNTextS
import Derived.Test.YtkbfhooiloaokaaDoorCutLaw
import Derived.Test.YtkbfhooiloaokaaDoorOwnV
namespace Go.Proofs.YtkbfhooiloaokaaDoor.Num
open Go.RowKit Go.Proofs.Fl Go.Proofs.Hx Go.Proofs.Tx
set_option linter.unusedVariables false
set_option linter.unusedSimpArgs false
/-- the number with 8 digits, if they are those of its bits -/
def rdNum (p : List UInt8) : Option Nat := if p.length = 8 then (rdL p).filter fun n => decide (cn .f32 n = n) else none
/-- the list with a text -/
def readN (l : List UInt8) : Option (List Nat) := if l = none4 then some [] else if (cut l).length ≤ 256 ∧ okAll rdNum (cut l) = true then some (vals rdNum 0 (cut l)) else none
theorem readN_none {l : List UInt8} (h : l = none4) : readN l = some [] := by unfold readN; rw [if_pos h]
theorem readN_long {l : List UInt8} (h : l ≠ none4) (h64 : ¬ (cut l).length ≤ 256) : readN l = none := by unfold readN; rw [if_neg h, if_neg (fun e => h64 e.1)]
theorem readN_bad {l : List UInt8} (h : l ≠ none4) (hb : okAll rdNum (cut l) = false) : readN l = none := by unfold readN; rw [if_neg h, if_neg (fun e => by rw [hb] at e; cases e.2)]
theorem readN_yes {l : List UInt8} (h : l ≠ none4) (h64 : (cut l).length ≤ 256) (hb : okAll rdNum (cut l) = true) : readN l = some (vals rdNum 0 (cut l)) := by unfold readN; rw [if_neg h, if_pos ⟨h64, hb⟩]
theorem rdNum_len {p : List UInt8} (h : p.length ≠ 8) : rdNum p = none := by unfold rdNum; rw [if_neg h]
theorem rdNum_bad {p : List UInt8} (h : rdL p = none) : rdNum p = none := by unfold rdNum; split <;> simp [h, Option.filter]
theorem rdNum_ne {p : List UInt8} {n : Nat} (h : rdL p = some n) (hc : cn .f32 n ≠ n) : rdNum p = none := by unfold rdNum; split <;> simp [h, Option.filter, hc]
theorem rdNum_eq {p : List UInt8} {n : Nat} (h8 : p.length = 8) (h : rdL p = some n) (hc : cn .f32 n = n) : rdNum p = some n := by unfold rdNum; rw [if_pos h8, h]; simp [Option.filter, hc]
theorem rdNum_some {p : List UInt8} {n : Nat} (h : rdNum p = some n) : p.length = 8 ∧ rdL p = some n ∧ cn .f32 n = n ∧ n < 4294967296 := by
  unfold rdNum at h
  split at h
  · rename_i h8
    obtain ⟨h1, h2⟩ := Option.filter_eq_some_iff.1 h
    exact ⟨h8, h1, of_decide_eq_true h2, rdL_lt h8 h1⟩
  · cases h
theorem cn_cn (x : Nat) : cn .f32 (cn .f32 x) = cn .f32 x := by
  unfold cn
  by_cases h : nan .f32 x = true
  · rw [if_pos h, nan_qn]; rfl
  · rw [if_neg h, if_neg h]
theorem rdNum_hexT (x : Nat) (hx : x < 4294967296) : rdNum (hexT x) = some (cn .f32 x) := rdNum_eq (hexT_len x) (rdL_hex8 _ (cn_lt hx)) (cn_cn x)
/-- a piece that is read is the text of its number -/
theorem hexT_rdNum {p : List UInt8} {n : Nat} (h : rdNum p = some n) : hexT n = p := by
  obtain ⟨h8, h1, hc, _⟩ := rdNum_some h
  unfold hexT
  rw [hc]
  exact rdL_eq h8 h1
end Go.Proofs.YtkbfhooiloaokaaDoor.Num
