/-
  The list of float32 with a text, by the program (ReadNumbers).
-/
import Derived.Test.YtkbfhooiloaokaaDoorRdN
import Derived.Test.YtkbfhooiloaokaaDoorReadHex
import Derived.Test.YtkbfhooiloaokaaDoorNTextI
import Derived.Test.YtkbfhooiloaokaaDoorPieces
import Derived.Test.YtkbfhooiloaokaaDoorRdLS
namespace Go.Proofs.YtkbfhooiloaokaaDoor.Num
open Go.RowKit Go.Proofs.Fl Go.Proofs.Hx Go.Proofs.Tx
set_option linter.unusedVariables false
set_option linter.unusedSimpArgs false
/-- what the program reads of the library's variables stands, whatever is done from block B on -/
structure Lib4 (B : Nat) (w : World) : Prop where
  deb : Deb B w
  errs : Errs B w
  maxl : MaxL B w
theorem Lib4.on {B : Nat} {w w1 : World} (h : Lib4 B w) (hb : Below B w w1) : Lib4 B w1 := ⟨h.deb.on hb, h.errs.on hb, h.maxl.on hb⟩
/-- the program's number of a piece of 8 bytes, whatever they are -/
def anyNum (p : List UInt8) : Nat := (rdU p).getD 0
theorem anyNum_lt {p : List UInt8} (h8 : p.length = 8) : anyNum p < 4294967296 := by
  unfold anyNum
  cases hr : rdU p with
  | some u => exact rdU_lt h8 hr
  | none => exact Nat.zero_lt_of_lt (by decide : 0 < 4294967296)
theorem anyNum_of {p : List UInt8} {n : Nat} (h : rdNum p = some n) : anyNum p = n := by
  obtain ⟨_, h1, _, _⟩ := rdNum_some h
  unfold anyNum
  rw [rdU_of h1]
  rfl
theorem rdNum_of_hexT {p : List UInt8} (h8 : p.length = 8) (h : hexT (anyNum p) = p) : rdNum p = some (anyNum p) := by
  have h1 := rdNum_hexT (anyNum p) (anyNum_lt h8)
  rw [h] at h1
  obtain ⟨_, h2, _, _⟩ := rdNum_some h1
  have h3 : anyNum p = cn .f32 (anyNum p) := by
    conv => lhs; unfold anyNum
    rw [rdU_of h2]
    rfl
  rw [h1, ← h3]
/-- all pieces are of 8 bytes -/
def all8 (ps : List (List UInt8)) : Bool := ps.all fun p => p.length == 8
theorem all8_take {ps : List (List UInt8)} {k : Nat} (hk : k < ps.length) (h : all8 (ps.take k) = true) (h8 : ps[k].length = 8) : all8 (ps.take (k + 1)) = true := by
  unfold all8 at *
  rw [List.take_succ_eq_append_getElem hk, List.all_append, h]
  simp [h8]
theorem all8_mem {ps : List (List UInt8)} (h : all8 ps = true) : ∀ p ∈ ps, p.length = 8 := by
  intro p hp
  have := List.all_eq_true.1 h p hp
  simpa using this
theorem any_take {ps : List (List UInt8)} {k : Nat} (hk : k < ps.length) : (ps.take (k + 1)).map anyNum = (ps.take k).map anyNum ++ [anyNum ps[k]] := by
  rw [List.take_succ_eq_append_getElem hk, List.map_append]
  rfl
/-- what the program answers for the numbers of all pieces: theirs is the text, or it is not -/
theorem join_cut (l : List UInt8) : Go.Lib.join (cut l) [44] = l := by
  induction l with
  | nil => rfl
  | cons b l ih =>
    cases hc : cut l with
    | nil => exact absurd hc (cut_ne l)
    | cons x r =>
      rw [hc] at ih
      rw [Go.Lib.join_cons] at ih
      by_cases h : b = 44
      · simp only [cut, h, if_true, hc]
        rw [Go.Lib.join_cons]
        simp only [Go.Lib.joinTail, List.map_cons, List.flatten_cons, List.nil_append] at ih ⊢
        rw [← ih]
        rfl
      · simp only [cut, h, if_false, hc, glue]
        rw [Go.Lib.join_cons, List.cons_append, ih]
theorem readN_ps (l : List UInt8) (h8 : all8 (ps l) = true) (h256 : (ps l).length ≤ 256) :
    readN l = if textJ (((ps l).map anyNum).map hexT) = l then some ((ps l).map anyNum) else none := by
  unfold ps at *
  by_cases hn : l = none4
  · rw [if_pos hn] at h8 h256 ⊢
    rw [readN_none hn, if_pos (by rw [hn]; rfl)]
    rfl
  · rw [if_neg hn] at h8 h256 ⊢
    have hm := all8_mem h8
    by_cases hok : okAll rdNum (cut l) = true
    · rw [readN_yes hn h256 hok]
      have hv : ∀ p ∈ cut l, rdNum p = some (anyNum p) ∧ hexT (anyNum p) = p := by
        intro p hp
        have h1 := List.all_eq_true.1 hok p hp
        obtain ⟨n, hn2⟩ := Option.isSome_iff_exists.1 h1
        have := anyNum_of hn2
        rw [this]
        exact ⟨hn2, hexT_rdNum hn2⟩
      have e1 : vals rdNum 0 (cut l) = (cut l).map anyNum := by
        unfold vals
        refine List.map_congr_left fun p hp => ?_
        rw [(hv p hp).1]
        rfl
      have e2 : ((cut l).map anyNum).map hexT = cut l := by
        rw [List.map_map]
        conv => rhs; rw [← List.map_id (cut l)]
        refine List.map_congr_left fun p hp => ?_
        exact (hv p hp).2
      rw [e1, e2, if_pos]
      unfold textJ
      rw [if_neg (cut_ne l), join_cut]
    · have hf : okAll rdNum (cut l) = false := by simpa using hok
      rw [readN_bad hn hf, if_neg]
      intro ht
      refine hok (List.all_eq_true.2 fun p hp => ?_)
      have hne : ((cut l).map anyNum).map hexT ≠ [] := by
        intro e
        simp at e
        exact cut_ne l e
      unfold textJ at ht
      rw [if_neg hne] at ht
      have hj := join_inj 8 [44] _ (cut l) (fun t ht2 => by
        obtain ⟨z, _, rfl⟩ := List.mem_map.1 ht2
        exact hexT_len z) hm (by simp) (ht.trans (join_cut l).symm)
      rw [List.map_map] at hj
      have hq : hexT (anyNum p) = p := by
        have := (List.map_inj_left (f := hexT ∘ anyNum) (g := id) (l := cut l)).1 (by rw [hj, List.map_id]) p hp
        exact this
      rw [rdNum_of_hexT (hm p hp) hq]
      rfl
/-- a piece that is not of 8 bytes: none -/
theorem readN_not8 (l : List UInt8) {k : Nat} (hk : k < (ps l).length) (h8 : (ps l)[k].length ≠ 8) : readN l = none := by
  by_cases hn : l = none4
  · have e : ps l = [] := by unfold ps; rw [if_pos hn]
    simp [e] at hk
  · have e : ps l = cut l := by unfold ps; rw [if_neg hn]
    refine readN_bad hn ?_
    unfold okAll
    rw [List.all_eq_false]
    refine ⟨(ps l)[k], ?_, by rw [rdNum_len h8]; decide⟩
    rw [← e]
    exact List.getElem_mem hk
/-- more than 256 pieces: none -/
theorem readN_many (l : List UInt8) (h : 256 < (ps l).length) : readN l = none := by
  by_cases hn : l = none4
  · have e : ps l = [] := by unfold ps; rw [if_pos hn]
    simp [e] at h
  · have e : ps l = cut l := by unfold ps; rw [if_neg hn]
    exact readN_long hn (by rw [← e]; omega)
end Go.Proofs.YtkbfhooiloaokaaDoor.Num
