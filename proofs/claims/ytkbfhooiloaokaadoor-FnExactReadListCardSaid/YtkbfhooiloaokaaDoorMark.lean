/-
  The laws' marks in a list of whole numbers, and their reading.
-/
import Derived.Test.YtkbfhooiloaokaaDoorOwnL
namespace Go.Proofs.YtkbfhooiloaokaaDoor.Num
open Go.RowKit Go.Proofs.Fl
set_option linter.unusedVariables false
set_option linter.unusedSimpArgs false
/-- the numbers from k on -/
def seqI (k n : Nat) : List Int := (List.range n).map fun j => ((k + j : Nat) : Int)
theorem seqI_len (k n : Nat) : (seqI k n).length = n := by simp [seqI]
theorem seqI_get (k n j : Nat) (h : j < n) : (seqI k n)[j]'(by rw [seqI_len]; exact h) = ((k + j : Nat) : Int) := by simp [seqI]
/-- marked up to a place -/
def mixS (zs : List Int) (k n i : Nat) : List Int := (List.range n).map fun j => if j < i then ((k + j : Nat) : Int) else zs.getD j 0
theorem mixS_zero (zs : List Int) (k n : Nat) (hz : zs.length = n) : mixS zs k n 0 = zs := by
  apply List.ext_getElem?
  intro j
  by_cases hj : j < n
  · have : j < zs.length := by omega
    simp [mixS, hj, this]
  · simp [mixS, hj, hz]
theorem mixS_all (zs : List Int) (k n i : Nat) (hi : n ≤ i) : mixS zs k n i = seqI k n := by
  apply List.ext_getElem?
  intro j
  by_cases hj : j < n
  · simp [mixS, seqI, hj, show j < i by omega]
  · simp [mixS, seqI, hj]
theorem mixS_set (zs : List Int) (k n i : Nat) (hi : i < n) : (mixS zs k n i).set i ((k + i : Nat) : Int) = mixS zs k n (i + 1) := by
  apply List.ext_getElem?
  intro j
  simp only [List.getElem?_set, mixS, List.getElem?_map, List.length_map, List.length_range]
  by_cases hj : j < n
  · rw [List.getElem?_range hj]
    by_cases h : i = j
    · subst h; simp [hj]
    · by_cases hl : j < i
      · simp [h, hl, show j < i + 1 by omega]
      · simp [h, hl, show ¬ j < i + 1 by omega]
  · have h : ¬ i = j := by omega
    simp [h, hj]
theorem mixS_len (zs : List Int) (k n i : Nat) : (mixS zs k n i).length = n := by simp [mixS]
/-- returned a number, the list marked -/
def RetMark (A : Option Addr) (n c k : Nat) (w : World) (e : Ending) (w' : World) : Prop := e = .returned (.int .i64 ((k + n : Nat) : Int)) ∧ OwnL w' 2 1 A n c (seqI k n) ∧ Kept w w' [rowN n A] ∧ w'.heap.size = w.heap.size
set_option maxHeartbeats 800000 in
theorem markInt64S_calls (A : Option Addr) (n c : Nat) (zs : List Int) (k : Nat) (hn : n ≤ 1048576) (hk : k ≤ 1073741824) (w : World) (h : OwnL w 2 1 A n c zs) :
    Calls Tryd.prog 20 #[.slice A n c, .int .i64 (k : Int)] w (RetMark A n c k w) := by
  by_cases hn0 : n = 0
  · subst hn0
    have HO := hid (show OwnL w 2 1 A 0 c (seqI k 0) from ⟨by simp [seqI], .inl rfl⟩)
    clear h
    go_enter Tryd.func20, Tryd.ntmps20
    go_wp2
    go_loopw [1, 5] (fun q i wr => i = .int .i64 0 ∧ q = .int .i64 (k : Int) ∧ wr = w) (fun _ i _ => 0)
    case atStart => exact ⟨rfl, rfl, rfl⟩
    case round =>
      obtain ⟨rfl, rfl, rfl⟩ := hrel
      go_wp2
      go_ret
      exact ⟨rfl, HO.out, Kept.refl _ _, rfl⟩
  · have hz : zs.length = n := by have := h.1; omega
    rcases h.2 with h0 | ⟨g, rfl, ho⟩
    · exact absurd h0 hn0
    have HO := hid ho
    have HZ := hid hz
    clear h ho hz
    go_enter Tryd.func20, Tryd.ntmps20
    go_wp2
    go_loopw [1, 5] (fun q i wr => ∃ j : Nat, j ≤ n ∧ i = .int .i64 j ∧ q = .int .i64 ((k + j : Nat) : Int) ∧ Hid (wr.ownsRow g 2 1 (.slice (some ⟨g, 0, none⟩) n c) n (i64s (mixS zs k n j))) ∧ Hid (Kept w wr [some g] ∧ wr.heap.size = w.heap.size)) (fun _ i _ => n - (intOf i).toNat)
    case atStart => exact ⟨0, Nat.zero_le _, rfl, rfl, by rw [mixS_zero _ _ _ HZ.out]; exact HO, ⟨Kept.refl _ _, rfl⟩⟩
    case round =>
      obtain ⟨j, hj, rfl, rfl, hown, hkept⟩ := hrel
      by_cases hlt : j < n
      · have hold : ∃ u, wr.cell? ⟨g, j, none⟩ = some u := by
          rw [World.ownsRow.cellAt hown.out j (by omega)]
          exact ⟨_, List.getElem?_eq_getElem (by rw [i64s_length, mixS_len]; exact hlt)⟩
        obtain ⟨u, hold⟩ := hold
        have hfr := World.ownsRow.frozenAt hown.out j
        have hst := (World.ownsRow.stored hown.out j (.int .i64 ((k + j : Nat) : Int))).1
        have e : (i64s (mixS zs k n j)).set j (.int .i64 ((k + j : Nat) : Int)) = i64s (mixS zs k n (j + 1)) := by rw [← mixS_set zs k n j hlt]; unfold i64s; rw [List.map_set]
        rw [e] at hst
        have HS := hid hst
        have HK := hid (show Kept w (wr.setCell ⟨g, j, none⟩ (.int .i64 ((k + j : Nat) : Int))) [some g] ∧ (wr.setCell ⟨g, j, none⟩ (.int .i64 ((k + j : Nat) : Int))).heap.size = w.heap.size from ⟨hkept.out.1.set (by simp) _, by simp [World.setCell]; exact hkept.out.2⟩)
        clear hst e hown hkept
        generalize hq : k + j = q at *
        have hqb : q ≤ 1075838976 := by omega
        go_wp2
        go_roundw
        case rel => exact ⟨j + 1, hlt, by go_num, by rw [show k + (j + 1) = q + 1 by omega]; go_num, HS, HK⟩
        case measure => simp [intOf]; omega
      · have he : j = n := by omega
        subst he
        have HO2 := hid (show OwnL wr 2 1 (some ⟨g, 0, none⟩) j c (seqI k j) from ⟨by rw [seqI_len]; omega, .inr ⟨g, rfl, by rw [← mixS_all zs k j j (Nat.le_refl _)]; exact hown.out⟩⟩)
        clear hown
        go_wp2
        go_ret
        exact ⟨rfl, HO2.out, by rw [rowN_some hn0]; exact hkept.out.1, hkept.out.2⟩
set_option maxHeartbeats 800000 in
theorem heldInt64S_calls (A : Option Addr) (n c : Nat) (k : Nat) (hn : n ≤ 1048576) (hk : k ≤ 1073741824) (w : World) (h : Rd w w.heap.size A (i64s (seqI k n))) :
    Calls Tryd.prog 21 #[.slice A n c, .int .i64 (k : Int)] w (Ret (.int .i64 ((k + n : Nat) : Int)) w) := by
  have HR := hid h
  clear h
  go_enter Tryd.func21, Tryd.ntmps21
  go_wp2
  go_loopw [1, 5] (fun q i wr => ∃ j : Nat, j ≤ n ∧ i = .int .i64 j ∧ q = .int .i64 ((k + j : Nat) : Int) ∧ wr = w) (fun _ i _ => n - (intOf i).toNat)
  case atStart => exact ⟨0, Nat.zero_le _, rfl, rfl, rfl⟩
  case round =>
    obtain ⟨j, hj, rfl, rfl, rfl⟩ := hrel
    by_cases hlt : j < n
    · obtain ⟨b1, o1, rfl, hb1, hc1⟩ := i64s_at HR.out (k := j) (by rw [seqI_len]; exact hlt)
      rw [seqI_get _ _ _ hlt] at hc1
      generalize hq : k + j = q at *
      have hqb : q ≤ 1075838976 := by omega
      have hqq : ((q : Int) != (q : Int)) = false := bne_self_eq_false _
      go_wp2
      go_roundw
      case rel => exact ⟨j + 1, hlt, by go_num, by rw [show k + (j + 1) = q + 1 by omega]; go_num, trivial⟩
      case measure => simp [intOf]; omega
    · have he : j = n := by omega
      subst he
      go_wp2
      go_ret
      exact ⟨rfl, 0, rfl⟩
end Go.Proofs.YtkbfhooiloaokaaDoor.Num
