/-
  The laws' marks in a list of float32, and their reading.
-/
import Derived.Test.YtkbfhooiloaokaaDoorOwnV
import Derived.LoopTactic
namespace Go.Proofs.YtkbfhooiloaokaaDoor.Num
open Go.RowKit Go.Proofs.Fl
set_option linter.unusedVariables false
set_option linter.unusedSimpArgs false
theorem mark_nn_fin : ∀ m : Fin 1024, nan .f32 (floatOfInt .f32 ((m.val : Nat) : Int)) = false := by decide +kernel
theorem mark_nn {m : Nat} (h : m < 1024) : nan .f32 (floatOfInt .f32 (m : Int)) = false := mark_nn_fin ⟨m, h⟩
/-- the numbers from k on, as float32 -/
def seqF (k n : Nat) : List Nat := (List.range n).map fun j => floatOfInt .f32 ((k + j : Nat) : Int)
theorem seqF_len (k n : Nat) : (seqF k n).length = n := by simp [seqF]
theorem seqF_get (k n j : Nat) (h : j < n) : (seqF k n)[j]'(by rw [seqF_len]; exact h) = floatOfInt .f32 ((k + j : Nat) : Int) := by simp [seqF]
def mixF (xs : List Nat) (k n i : Nat) : List Nat := (List.range n).map fun j => if j < i then floatOfInt .f32 ((k + j : Nat) : Int) else xs.getD j 0
theorem mixF_len (xs : List Nat) (k n i : Nat) : (mixF xs k n i).length = n := by simp [mixF]
theorem mixF_zero (xs : List Nat) (k n : Nat) (hz : xs.length = n) : mixF xs k n 0 = xs := by
  apply List.ext_getElem?
  intro j
  by_cases hj : j < n
  · have : j < xs.length := by omega
    simp [mixF, hj, this]
  · simp [mixF, hj, hz]
theorem mixF_all (xs : List Nat) (k n i : Nat) (hi : n ≤ i) : mixF xs k n i = seqF k n := by
  apply List.ext_getElem?
  intro j
  by_cases hj : j < n
  · simp [mixF, seqF, hj, show j < i by omega]
  · simp [mixF, seqF, hj]
theorem mixF_set (xs : List Nat) (k n i : Nat) (hi : i < n) : (mixF xs k n i).set i (floatOfInt .f32 ((k + i : Nat) : Int)) = mixF xs k n (i + 1) := by
  apply List.ext_getElem?
  intro j
  simp only [List.getElem?_set, mixF, List.getElem?_map, List.length_map, List.length_range]
  by_cases hj : j < n
  · rw [List.getElem?_range hj]
    by_cases h : i = j
    · subst h; simp [hj]
    · by_cases hl : j < i
      · simp [h, hl, show j < i + 1 by omega]
      · simp [h, hl, show ¬ j < i + 1 by omega]
  · have h : ¬ i = j := by omega
    simp [h, hj]
def RetMarkF (A : Option Addr) (n c k : Nat) (w : World) (e : Ending) (w' : World) : Prop := e = .returned (.int .i64 ((k + n : Nat) : Int)) ∧ OwnV w' 56 A n c (f32s (seqF k n)) ∧ Kept w w' [rowN n A] ∧ w'.heap.size = w.heap.size
set_option maxHeartbeats 800000 in
theorem markFloat32S_calls (A : Option Addr) (n c : Nat) (xs : List Nat) (k : Nat) (hn : n ≤ 256) (hk : k ≤ 256) (w : World) (h : OwnV w 56 A n c (f32s xs)) :
    Calls Tryd.prog 28 #[.slice A n c, .int .i64 (k : Int)] w (RetMarkF A n c k w) := by
  by_cases hn0 : n = 0
  · subst hn0
    have HO := hid (show OwnV w 56 A 0 c (f32s (seqF k 0)) from ⟨by simp [seqF], .inl rfl⟩)
    clear h
    go_enter Tryd.func28, Tryd.ntmps28
    go_wp2
    go_loopw [1, 5] (fun q i wr => i = .int .i64 0 ∧ q = .int .i64 (k : Int) ∧ wr = w) (fun _ i _ => 0)
    case atStart => exact ⟨rfl, rfl, rfl⟩
    case round =>
      obtain ⟨rfl, rfl, rfl⟩ := hrel
      go_wp2
      go_ret
      exact ⟨rfl, HO.out, Kept.refl _ _, rfl⟩
  · have hz : xs.length = n := by have := h.1; rwa [f32s_length] at this
    rcases h.2 with h0 | ⟨g, rfl, ho⟩
    · exact absurd h0 hn0
    have HO := hid ho
    have HZ := hid hz
    clear h ho hz
    go_enter Tryd.func28, Tryd.ntmps28
    go_wp2
    go_loopw [1, 5] (fun q i wr => ∃ j : Nat, j ≤ n ∧ i = .int .i64 j ∧ q = .int .i64 ((k + j : Nat) : Int) ∧ Hid (wr.ownsRow g 56 1 (.slice (some ⟨g, 0, none⟩) n c) n (f32s (mixF xs k n j))) ∧ Hid (Kept w wr [some g] ∧ wr.heap.size = w.heap.size)) (fun _ i _ => n - (intOf i).toNat)
    case atStart => exact ⟨0, Nat.zero_le _, rfl, rfl, by rw [mixF_zero _ _ _ HZ.out]; exact HO, ⟨Kept.refl _ _, rfl⟩⟩
    case round =>
      obtain ⟨j, hj, rfl, rfl, hown, hkept⟩ := hrel
      by_cases hlt : j < n
      · have hold : ∃ u, wr.cell? ⟨g, j, none⟩ = some u := by
          rw [World.ownsRow.cellAt hown.out j (by omega)]
          exact ⟨_, List.getElem?_eq_getElem (by rw [f32s_length, mixF_len]; exact hlt)⟩
        obtain ⟨u, hold⟩ := hold
        have hfr := World.ownsRow.frozenAt hown.out j
        have hst := (World.ownsRow.stored hown.out j (.float .f32 (floatOfInt .f32 ((k + j : Nat) : Int)))).1
        have e : (f32s (mixF xs k n j)).set j (.float .f32 (floatOfInt .f32 ((k + j : Nat) : Int))) = f32s (mixF xs k n (j + 1)) := by rw [← mixF_set xs k n j hlt]; unfold f32s; rw [List.map_set]
        rw [e] at hst
        have HS := hid hst
        have HK := hid (show Kept w (wr.setCell ⟨g, j, none⟩ (.float .f32 (floatOfInt .f32 ((k + j : Nat) : Int)))) [some g] ∧ (wr.setCell ⟨g, j, none⟩ (.float .f32 (floatOfInt .f32 ((k + j : Nat) : Int)))).heap.size = w.heap.size from ⟨hkept.out.1.set (by simp) _, by simp [World.setCell]; exact hkept.out.2⟩)
        clear hst e hown hkept
        obtain ⟨q, hq⟩ : ∃ q, k + j = q := ⟨_, rfl⟩
        rw [hq] at HS HK
        have hq1 : k + (j + 1) = q + 1 := by omega
        have hqb : q ≤ 1024 := by omega
        simp only [hq]
        clear hq
        go_wp2
        go_roundw
        case rel => exact ⟨j + 1, hlt, by go_num, by rw [hq1]; go_num, HS, HK⟩
        case measure => simp [intOf]; omega
      · have he : j = n := by omega
        subst he
        have HO2 := hid (show OwnV wr 56 (some ⟨g, 0, none⟩) j c (f32s (seqF k j)) from ⟨by rw [f32s_length, seqF_len], .inr ⟨g, rfl, by rw [← mixF_all xs k j j (Nat.le_refl _)]; exact hown.out⟩⟩)
        clear hown
        go_wp2
        go_ret
        exact ⟨rfl, HO2.out, by rw [rowN_some hn0]; exact hkept.out.1, hkept.out.2⟩
set_option maxHeartbeats 800000 in
theorem heldFloat32S_calls (A : Option Addr) (n c : Nat) (k : Nat) (hn : n ≤ 256) (hk : k ≤ 256) (w : World) (h : Rd w w.heap.size A (f32s (seqF k n))) :
    Calls Tryd.prog 29 #[.slice A n c, .int .i64 (k : Int)] w (Ret (.int .i64 ((k + n : Nat) : Int)) w) := by
  have HR := hid h
  clear h
  go_enter Tryd.func29, Tryd.ntmps29
  go_wp2
  go_loopw [1, 5] (fun q i wr => ∃ j m : Nat, j ≤ n ∧ i = .int .i64 j ∧ q = .int .i64 ((k + j : Nat) : Int) ∧ wr = w.drewN m) (fun _ i _ => n - (intOf i).toNat)
  case atStart => exact ⟨0, 0, Nat.zero_le _, rfl, rfl, rfl⟩
  case round =>
    obtain ⟨j, m, hj, rfl, rfl, rfl⟩ := hrel
    by_cases hlt : j < n
    · obtain ⟨b1, o1, rfl, hb1, hc1⟩ := f32s_at HR.out (k := j) (by rw [seqF_len]; exact hlt)
      rw [seqF_get _ _ _ hlt] at hc1
      obtain ⟨q, hq⟩ : ∃ q, k + j = q := ⟨_, rfl⟩
      rw [hq] at hc1
      have hq1 : k + (j + 1) = q + 1 := by omega
      have hqb : q < 1024 := by omega
      simp only [hq]
      clear hq
      have hnn := mark_nn hqb
      have hos := order_self .f32 (floatOfInt .f32 (q : Int))
      rw [hnn] at hos
      go_wp2
      go_roundw
      case rel => exact ⟨j + 1, _, hlt, by go_num, by rw [hq1]; go_num, rfl⟩
      case measure => simp [intOf]; omega
    · have he : j = n := by omega
      subst he
      go_wp2
      go_ret
      exact ⟨rfl, _, rfl⟩
end Go.Proofs.YtkbfhooiloaokaaDoor.Num
