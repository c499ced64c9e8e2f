/-
  The list of complex64 with a text, as a plain function: what both texts read, and what the program reads back.
-/
import Derived.Test.YtkbfhooiloaokaaDoorRdNI
import Derived.Test.YtkbfhooiloaokaaDoorRdNS
namespace Go.Proofs.YtkbfhooiloaokaaDoor.Num
open Go.RowKit Go.Proofs.Fl Go.Proofs.Hx Go.Proofs.Tx
set_option linter.unusedVariables false
set_option linter.unusedSimpArgs false
/-- complex numbers as values -/
def c64s (zs : List (Nat × Nat)) : List Value := zs.map fun z => .complex .f32 z.1 z.2
theorem c64s_length (zs : List (Nat × Nat)) : (c64s zs).length = zs.length := by simp [c64s]
theorem c64s_snoc (xs : List (Nat × Nat)) (z : Nat × Nat) : c64s xs ++ [.complex .f32 z.1 z.2] = c64s (xs ++ [z]) := by simp [c64s]
theorem c64s_oneCell (xs : List (Nat × Nat)) : ∀ u ∈ c64s xs, u.oneCell' = true := by
  intro u hu
  obtain ⟨b, _, rfl⟩ := List.mem_map.1 hu
  rfl
theorem c64_info : (Tryd.prog.info? 64).map (fun i => (i.zero, i.size, i.bytes)) = some (some (Value.complex .f32 0 0), 1, 8) := by kernel_rfl
theorem c64s_at {w : World} {A : Option Addr} {zs : List (Nat × Nat)} (h : Rd w w.heap.size A (c64s zs)) {k : Nat} (hk : k < zs.length) :
    ∃ b o, A = some ⟨b, o, none⟩ ∧ b < w.heap.size ∧ w.cell? ⟨b, o + k, none⟩ = some (.complex .f32 zs[k].1 zs[k].2) := by
  rcases h with h0 | ⟨b, o, rfl, hb, hc⟩
  · have : (c64s zs).length = 0 := by rw [h0]; rfl
    rw [c64s_length] at this
    omega
  · exact ⟨b, o, rfl, hb, hc k _ (by unfold c64s; rw [List.getElem?_map, List.getElem?_eq_getElem hk]; rfl)⟩
/-- the digits of both parts -/
def hexP (z : Nat × Nat) : List UInt8 := hexT z.1 ++ hexT z.2
theorem hexP_len (z : Nat × Nat) : (hexP z).length = 16 := by unfold hexP; rw [List.length_append, hexT_len, hexT_len]
theorem hexP_le (xs : List (Nat × Nat)) : ∀ t ∈ xs.map hexP, t.length ≤ 16 := by
  intro t ht
  obtain ⟨z, _, rfl⟩ := List.mem_map.1 ht
  exact Nat.le_of_eq (hexP_len z)
def cplxText (xs : List (Nat × Nat)) : Option (List UInt8) := if xs.length ≤ 256 then some (textJ (xs.map hexP)) else none
/-- the complex number with 16 digits -/
def rdPair (p : List UInt8) : Option (Nat × Nat) := if p.length = 16 then (rdNum (p.take 8)).bind fun a => (rdNum (p.drop 8)).map fun b => (a, b) else none
def readC (l : List UInt8) : Option (List (Nat × Nat)) := if l = none4 then some [] else if (cut l).length ≤ 256 ∧ okAll rdPair (cut l) = true then some (vals rdPair (0, 0) (cut l)) else none
theorem readC_none {l : List UInt8} (h : l = none4) : readC l = some [] := by unfold readC; rw [if_pos h]
theorem readC_long {l : List UInt8} (h : l ≠ none4) (h64 : ¬ (cut l).length ≤ 256) : readC l = none := by unfold readC; rw [if_neg h, if_neg (fun e => h64 e.1)]
theorem readC_bad {l : List UInt8} (h : l ≠ none4) (hb : okAll rdPair (cut l) = false) : readC l = none := by unfold readC; rw [if_neg h, if_neg (fun e => by rw [hb] at e; cases e.2)]
theorem readC_yes {l : List UInt8} (h : l ≠ none4) (h64 : (cut l).length ≤ 256) (hb : okAll rdPair (cut l) = true) : readC l = some (vals rdPair (0, 0) (cut l)) := by unfold readC; rw [if_neg h, if_pos ⟨h64, hb⟩]
theorem readC_len (l : List UInt8) : ((readC l).getD []).length ≤ 256 := by
  unfold readC
  split
  · exact Nat.zero_le _
  · split
    · rename_i h
      simp only [Option.getD_some]
      unfold vals
      rw [List.length_map]
      exact h.1
    · exact Nat.zero_le _
theorem rdPair_len {p : List UInt8} (h : p.length ≠ 16) : rdPair p = none := by unfold rdPair; rw [if_neg h]
theorem rdPair_fst {p : List UInt8} (h : rdNum (p.take 8) = none) : rdPair p = none := by unfold rdPair; split <;> simp [h]
theorem rdPair_snd {p : List UInt8} (h : rdNum (p.drop 8) = none) : rdPair p = none := by
  unfold rdPair
  split
  · cases rdNum (p.take 8) <;> simp [h]
  · rfl
theorem rdPair_eq {p : List UInt8} {a b : Nat} (h : p.length = 16) (h1 : rdNum (p.take 8) = some a) (h2 : rdNum (p.drop 8) = some b) : rdPair p = some (a, b) := by
  unfold rdPair
  rw [if_pos h, h1, h2]
  rfl
theorem rdPair_some {p : List UInt8} {z : Nat × Nat} (h : rdPair p = some z) : p.length = 16 ∧ rdNum (p.take 8) = some z.1 ∧ rdNum (p.drop 8) = some z.2 := by
  unfold rdPair at h
  split at h
  · rename_i h16
    cases h1 : rdNum (p.take 8) with
    | none => rw [h1] at h; cases h
    | some a =>
      cases h2 : rdNum (p.drop 8) with
      | none => rw [h1, h2] at h; cases h
      | some b => rw [h1, h2] at h; cases h; exact ⟨h16, rfl, rfl⟩
  · cases h
theorem rdPair_hexP (z : Nat × Nat) (h1 : z.1 < 4294967296) (h2 : z.2 < 4294967296) : rdPair (hexP z) = some (cn .f32 z.1, cn .f32 z.2) := by
  refine rdPair_eq (hexP_len z) ?_ ?_
  · unfold hexP
    rw [List.take_append_of_le_length (by rw [hexT_len]; exact Nat.le_refl _), List.take_of_length_le (by rw [hexT_len]; exact Nat.le_refl _)]
    exact rdNum_hexT _ h1
  · unfold hexP
    rw [List.drop_append_of_le_length (by rw [hexT_len]; exact Nat.le_refl _), List.drop_eq_nil_of_le (by rw [hexT_len]; exact Nat.le_refl _)]
    exact rdNum_hexT _ h2
theorem hexP_rdPair {p : List UInt8} {z : Nat × Nat} (h : rdPair p = some z) : hexP z = p := by
  obtain ⟨_, h1, h2⟩ := rdPair_some h
  unfold hexP
  rw [hexT_rdNum h1, hexT_rdNum h2, List.take_append_drop]
/-- the program's number of a piece of 16 bytes, whatever they are -/
def anyPair (p : List UInt8) : Nat × Nat := (anyNum (p.take 8), anyNum (p.drop 8))
theorem anyPair_lt {p : List UInt8} (h : p.length = 16) : (anyPair p).1 < 4294967296 ∧ (anyPair p).2 < 4294967296 :=
  ⟨anyNum_lt (by rw [List.length_take]; omega), anyNum_lt (by rw [List.length_drop]; omega)⟩
theorem anyPair_of {p : List UInt8} {z : Nat × Nat} (h : rdPair p = some z) : anyPair p = z := by
  obtain ⟨_, h1, h2⟩ := rdPair_some h
  unfold anyPair
  rw [anyNum_of h1, anyNum_of h2]
theorem rdPair_of_hexP {p : List UInt8} (h16 : p.length = 16) (h : hexP (anyPair p) = p) : rdPair p = some (anyPair p) := by
  obtain ⟨ha, hb⟩ := List.append_inj (h.trans (List.take_append_drop 8 p).symm) (by rw [hexT_len, List.length_take]; omega)
  exact rdPair_eq h16 (rdNum_of_hexT (by rw [List.length_take]; omega) ha) (rdNum_of_hexT (by rw [List.length_drop]; omega) hb)
def all16 (ps : List (List UInt8)) : Bool := ps.all fun p => p.length == 16
theorem all16_take {ps : List (List UInt8)} {k : Nat} (hk : k < ps.length) (h : all16 (ps.take k) = true) (h8 : ps[k].length = 16) : all16 (ps.take (k + 1)) = true := by
  unfold all16 at *
  rw [List.take_succ_eq_append_getElem hk, List.all_append, h]
  simp [h8]
theorem all16_mem {ps : List (List UInt8)} (h : all16 ps = true) : ∀ p ∈ ps, p.length = 16 := by
  intro p hp
  have := List.all_eq_true.1 h p hp
  simpa using this
theorem anyP_take {ps : List (List UInt8)} {k : Nat} (hk : k < ps.length) : (ps.take (k + 1)).map anyPair = (ps.take k).map anyPair ++ [anyPair ps[k]] := by
  rw [List.take_succ_eq_append_getElem hk, List.map_append]
  rfl
theorem readC_ps (l : List UInt8) (h8 : all16 (ps l) = true) (h256 : (ps l).length ≤ 256) :
    readC l = if textJ (((ps l).map anyPair).map hexP) = l then some ((ps l).map anyPair) else none := by
  unfold ps at *
  by_cases hn : l = none4
  · rw [if_pos hn] at h8 h256 ⊢
    rw [readC_none hn, if_pos (by rw [hn]; rfl)]
    rfl
  · rw [if_neg hn] at h8 h256 ⊢
    have hm := all16_mem h8
    by_cases hok : okAll rdPair (cut l) = true
    · rw [readC_yes hn h256 hok]
      have hv : ∀ p ∈ cut l, rdPair p = some (anyPair p) ∧ hexP (anyPair p) = p := by
        intro p hp
        have h1 := List.all_eq_true.1 hok p hp
        obtain ⟨n, hn2⟩ := Option.isSome_iff_exists.1 h1
        have := anyPair_of hn2
        rw [this]
        exact ⟨hn2, hexP_rdPair hn2⟩
      have e1 : vals rdPair (0, 0) (cut l) = (cut l).map anyPair := by
        unfold vals
        refine List.map_congr_left fun p hp => ?_
        rw [(hv p hp).1]
        rfl
      have e2 : ((cut l).map anyPair).map hexP = cut l := by
        rw [List.map_map]
        conv => rhs; rw [← List.map_id (cut l)]
        refine List.map_congr_left fun p hp => ?_
        exact (hv p hp).2
      rw [e1, e2, if_pos]
      unfold textJ
      rw [if_neg (cut_ne l), join_cut]
    · have hf : okAll rdPair (cut l) = false := by simpa using hok
      rw [readC_bad hn hf, if_neg]
      intro ht
      refine hok (List.all_eq_true.2 fun p hp => ?_)
      have hne : ((cut l).map anyPair).map hexP ≠ [] := by
        intro e
        simp at e
        exact cut_ne l e
      unfold textJ at ht
      rw [if_neg hne] at ht
      have hj := join_inj 16 [44] _ (cut l) (fun t ht2 => by
        obtain ⟨z, _, rfl⟩ := List.mem_map.1 ht2
        exact hexP_len z) hm (by simp) (ht.trans (join_cut l).symm)
      rw [List.map_map] at hj
      have hq : hexP (anyPair p) = p := by
        have := (List.map_inj_left (f := hexP ∘ anyPair) (g := id) (l := cut l)).1 (by rw [hj, List.map_id]) p hp
        exact this
      rw [rdPair_of_hexP (hm p hp) hq]
      rfl
/-- a piece that is not of 16 bytes: none -/
theorem readC_not16 (l : List UInt8) {k : Nat} (hk : k < (ps l).length) (h8 : (ps l)[k].length ≠ 16) : readC l = none := by
  by_cases hn : l = none4
  · have e : ps l = [] := by unfold ps; rw [if_pos hn]
    simp [e] at hk
  · have e : ps l = cut l := by unfold ps; rw [if_neg hn]
    refine readC_bad hn ?_
    unfold okAll
    rw [List.all_eq_false]
    refine ⟨(ps l)[k], ?_, by rw [rdPair_len h8]; decide⟩
    rw [← e]
    exact List.getElem_mem hk
/-- more than 256 pieces: none -/
theorem readC_many (l : List UInt8) (h : 256 < (ps l).length) : readC l = none := by
  by_cases hn : l = none4
  · have e : ps l = [] := by unfold ps; rw [if_pos hn]
    simp [e] at h
  · have e : ps l = cut l := by unfold ps; rw [if_neg hn]
    exact readC_long hn (by rw [← e]; omega)
/-- the two halves of a piece -/
theorem half_fst (S : ByteArray) : (S.extract 0 8).data.toList = S.data.toList.take 8 := by simp
theorem half_snd (S : ByteArray) (h : S.size = 16) : (S.extract 8 S.size).data.toList = S.data.toList.drop 8 := by
  have : S.data.toList.length = S.size := by simp
  simp only [ByteArray.data_extract, Array.toList_extract, List.extract_eq_take_drop]
  rw [List.take_of_length_le (by rw [List.length_drop]; omega)]
end Go.Proofs.YtkbfhooiloaokaaDoor.Num
