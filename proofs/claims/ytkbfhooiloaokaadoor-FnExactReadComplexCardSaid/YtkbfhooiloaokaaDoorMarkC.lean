/-
  The laws' marks in a list of complex64, and their reading.
-/
import Derived.Test.YtkbfhooiloaokaaDoorMarkF
import Derived.Test.YtkbfhooiloaokaaDoorRdC
import Derived.LoopTactic
namespace Go.Proofs.YtkbfhooiloaokaaDoor.Num
open Go.RowKit Go.Proofs.Fl
set_option linter.unusedVariables false
set_option linter.unusedSimpArgs false
theorem mark_conv_fin : ∀ m : Fin 1024, floatToFloatBits .f64 (floatOfInt .f64 ((m.val : Nat) : Int)) .f32 = some (floatOfInt .f32 ((m.val : Nat) : Int)) := by decide +kernel
theorem run_ftn (w : World) {x y : Nat} (h : floatToFloatBits .f64 x .f32 = some y) : (Conv.floatToFloat .f64 x .f32).run Tryd.prog w = .ok (.float .f32 y) w := by
  have hr := run_convert_float_float (P := Tryd.prog) w 61 56 .f64 .f32 x _ (by kernel_rfl) Tryd.underlying56 h
  have e : (convert 61 56 (.float .f64 x)).run Tryd.prog w = (Conv.floatToFloat .f64 x .f32).run Tryd.prog w := by
    simp [convert, run_underlying Tryd.underlying56, run_underlying Tryd.underlying61]
  rw [← e]
  exact hr
theorem run_markC {q : Nat} (hq : q < 1024) (w : World) : (convert 67 64 (.complex .f64 (floatOfInt .f64 (q : Int)) 4607182418800017408)).run Tryd.prog w = .ok (.complex .f32 (floatOfInt .f32 (q : Int)) 1065353216) w := by
  have h1 := run_ftn w (mark_conv_fin ⟨q, hq⟩)
  have h2 := run_ftn w (show floatToFloatBits .f64 4607182418800017408 .f32 = some 1065353216 by decide +kernel)
  simp only at h1
  simp [convert, run_underlying Tryd.underlying64, run_underlying Tryd.underlying67, Conv.complexToComplex, h1, h2]
/-- the numbers from k on, as float32 -/
def seqC (k n : Nat) : List (Nat × Nat) := (List.range n).map fun j => (floatOfInt .f32 ((k + j : Nat) : Int), 1065353216)
theorem seqC_len (k n : Nat) : (seqC k n).length = n := by simp [seqC]
theorem seqC_get (k n j : Nat) (h : j < n) : (seqC k n)[j]'(by rw [seqC_len]; exact h) = (floatOfInt .f32 ((k + j : Nat) : Int), 1065353216) := by simp [seqC]
def mixC (xs : List (Nat × Nat)) (k n i : Nat) : List (Nat × Nat) := (List.range n).map fun j => if j < i then (floatOfInt .f32 ((k + j : Nat) : Int), 1065353216) else xs.getD j (0, 0)
theorem mixC_len (xs : List (Nat × Nat)) (k n i : Nat) : (mixC xs k n i).length = n := by simp [mixC]
theorem mixC_zero (xs : List (Nat × Nat)) (k n : Nat) (hz : xs.length = n) : mixC xs k n 0 = xs := by
  apply List.ext_getElem?
  intro j
  by_cases hj : j < n
  · have : j < xs.length := by omega
    simp [mixC, hj, this]
  · simp [mixC, hj, hz]
theorem mixC_all (xs : List (Nat × Nat)) (k n i : Nat) (hi : n ≤ i) : mixC xs k n i = seqC k n := by
  apply List.ext_getElem?
  intro j
  by_cases hj : j < n
  · simp [mixC, seqC, hj, show j < i by omega]
  · simp [mixC, seqC, hj]
theorem mixC_set (xs : List (Nat × Nat)) (k n i : Nat) (hi : i < n) : (mixC xs k n i).set i ((floatOfInt .f32 ((k + i : Nat) : Int), 1065353216)) = mixC xs k n (i + 1) := by
  apply List.ext_getElem?
  intro j
  simp only [List.getElem?_set, mixC, List.getElem?_map, List.length_map, List.length_range]
  by_cases hj : j < n
  · rw [List.getElem?_range hj]
    by_cases h : i = j
    · subst h; simp [hj]
    · by_cases hl : j < i
      · simp [h, hl, show j < i + 1 by omega]
      · simp [h, hl, show ¬ j < i + 1 by omega]
  · have h : ¬ i = j := by omega
    simp [h, hj]
def RetMarkC (A : Option Addr) (n c k : Nat) (w : World) (e : Ending) (w' : World) : Prop := e = .returned (.int .i64 ((k + n : Nat) : Int)) ∧ OwnV w' 64 A n c (c64s (seqC k n)) ∧ Kept w w' [rowN n A] ∧ w'.heap.size = w.heap.size
set_option maxHeartbeats 800000 in
theorem markComplex64S_calls (A : Option Addr) (n c : Nat) (xs : List (Nat × Nat)) (k : Nat) (hn : n ≤ 256) (hk : k ≤ 256) (w : World) (h : OwnV w 64 A n c (c64s xs)) :
    Calls Tryd.prog 33 #[.slice A n c, .int .i64 (k : Int)] w (RetMarkC A n c k w) := by
  by_cases hn0 : n = 0
  · subst hn0
    have HO := hid (show OwnV w 64 A 0 c (c64s (seqC k 0)) from ⟨by simp [seqC, c64s], .inl rfl⟩)
    clear h
    go_enter Tryd.func33, Tryd.ntmps33
    go_wp2
    go_loopw [1, 5] (fun q i wr => i = .int .i64 0 ∧ q = .int .i64 (k : Int) ∧ wr = w) (fun _ i _ => 0)
    case atStart => exact ⟨rfl, rfl, rfl⟩
    case round =>
      obtain ⟨rfl, rfl, rfl⟩ := hrel
      go_wp2
      go_ret
      exact ⟨rfl, HO.out, Kept.refl _ _, rfl⟩
  · have hz : xs.length = n := by have := h.1; rwa [c64s_length] at this
    rcases h.2 with h0 | ⟨g, rfl, ho⟩
    · exact absurd h0 hn0
    have HO := hid ho
    have HZ := hid hz
    clear h ho hz
    go_enter Tryd.func33, Tryd.ntmps33
    go_wp2
    go_loopw [1, 5] (fun q i wr => ∃ j : Nat, j ≤ n ∧ i = .int .i64 j ∧ q = .int .i64 ((k + j : Nat) : Int) ∧ Hid (wr.ownsRow g 64 1 (.slice (some ⟨g, 0, none⟩) n c) n (c64s (mixC xs k n j))) ∧ Hid (Kept w wr [some g] ∧ wr.heap.size = w.heap.size)) (fun _ i _ => n - (intOf i).toNat)
    case atStart => exact ⟨0, Nat.zero_le _, rfl, rfl, by rw [mixC_zero _ _ _ HZ.out]; exact HO, ⟨Kept.refl _ _, rfl⟩⟩
    case round =>
      obtain ⟨j, hj, rfl, rfl, hown, hkept⟩ := hrel
      by_cases hlt : j < n
      · have hold : ∃ u, wr.cell? ⟨g, j, none⟩ = some u := by
          rw [World.ownsRow.cellAt hown.out j (by omega)]
          exact ⟨_, List.getElem?_eq_getElem (by rw [c64s_length, mixC_len]; exact hlt)⟩
        obtain ⟨u, hold⟩ := hold
        have hfr := World.ownsRow.frozenAt hown.out j
        have hst := (World.ownsRow.stored hown.out j (.complex .f32 (floatOfInt .f32 ((k + j : Nat) : Int)) 1065353216)).1
        have e : (c64s (mixC xs k n j)).set j (.complex .f32 (floatOfInt .f32 ((k + j : Nat) : Int)) 1065353216) = c64s (mixC xs k n (j + 1)) := by rw [← mixC_set xs k n j hlt]; unfold c64s; rw [List.map_set]
        rw [e] at hst
        have HS := hid hst
        have HK := hid (show Kept w (wr.setCell ⟨g, j, none⟩ (.complex .f32 (floatOfInt .f32 ((k + j : Nat) : Int)) 1065353216)) [some g] ∧ (wr.setCell ⟨g, j, none⟩ (.complex .f32 (floatOfInt .f32 ((k + j : Nat) : Int)) 1065353216)).heap.size = w.heap.size from ⟨hkept.out.1.set (by simp) _, by simp [World.setCell]; exact hkept.out.2⟩)
        clear hst e hown hkept
        obtain ⟨q, hq⟩ : ∃ q, k + j = q := ⟨_, rfl⟩
        rw [hq] at HS HK
        have hq1 : k + (j + 1) = q + 1 := by omega
        have hqb : q ≤ 1024 := by omega
        simp only [hq]
        clear hq
        have hrun := fun w => run_markC (show q < 1024 by omega) w
        go_wp2
        go_roundw
        case rel => exact ⟨j + 1, hlt, by go_num, by rw [hq1]; go_num, HS, HK⟩
        case measure => simp [intOf]; omega
      · have he : j = n := by omega
        subst he
        have HO2 := hid (show OwnV wr 64 (some ⟨g, 0, none⟩) j c (c64s (seqC k j)) from ⟨by rw [c64s_length, seqC_len], .inr ⟨g, rfl, by rw [← mixC_all xs k j j (Nat.le_refl _)]; exact hown.out⟩⟩)
        clear hown
        go_wp2
        go_ret
        exact ⟨rfl, HO2.out, by rw [rowN_some hn0]; exact hkept.out.1, hkept.out.2⟩
set_option maxHeartbeats 800000 in
theorem heldComplex64S_calls (A : Option Addr) (n c : Nat) (k : Nat) (hn : n ≤ 256) (hk : k ≤ 256) (w : World) (h : Rd w w.heap.size A (c64s (seqC k n))) :
    Calls Tryd.prog 34 #[.slice A n c, .int .i64 (k : Int)] w (Ret (.int .i64 ((k + n : Nat) : Int)) w) := by
  have HR := hid h
  clear h
  go_enter Tryd.func34, Tryd.ntmps34
  go_wp2
  go_loopw [1, 5] (fun q i wr => ∃ j m : Nat, j ≤ n ∧ i = .int .i64 j ∧ q = .int .i64 ((k + j : Nat) : Int) ∧ wr = w.drewN m) (fun _ i _ => n - (intOf i).toNat)
  case atStart => exact ⟨0, 0, Nat.zero_le _, rfl, rfl, rfl⟩
  case round =>
    obtain ⟨j, m, hj, rfl, rfl, rfl⟩ := hrel
    by_cases hlt : j < n
    · obtain ⟨b1, o1, rfl, hb1, hc1⟩ := c64s_at HR.out (k := j) (by rw [seqC_len]; exact hlt)
      rw [seqC_get _ _ _ hlt] at hc1
      simp only at hc1
      obtain ⟨q, hq⟩ : ∃ q, k + j = q := ⟨_, rfl⟩
      rw [hq] at hc1
      have hq1 : k + (j + 1) = q + 1 := by omega
      have hqb : q < 1024 := by omega
      simp only [hq]
      clear hq
      have hnn := mark_nn hqb
      have hos := order_self .f32 (floatOfInt .f32 (q : Int))
      rw [hnn] at hos
      have hos2 : (FloatKind.f32.format.order (floatOfInt .f32 (q : Int)) (floatOfInt .f32 (q : Int)) == some Ordering.eq) = true := by simpa using hos
      clear hos
      have ho1 : (FloatKind.f32.format.order 1065353216 1065353216 == some Ordering.eq) = true := by decide +kernel
      have hrun := fun w => run_markC hqb w
      go_wp2
      go_roundw
      case rel => exact ⟨j + 1, _, hlt, by go_num, by rw [hq1]; go_num, rfl⟩
      case measure => simp [intOf]; omega
    · have he : j = n := by omega
      subst he
      go_wp2
      go_ret
      exact ⟨rfl, _, rfl⟩
end Go.Proofs.YtkbfhooiloaokaaDoor.Num
