/-
  The laws' toInt64S: a copy of a slice.
-/
import Derived.Test.YtkbfhooiloaokaaDoorExt
import Derived.Test.YtkbfhooiloaokaaDoorMem
import Derived.LoopTactic
import Derived.OwnWalk
namespace Go.Proofs.YtkbfhooiloaokaaDoor.Num
open Go.RowKit Go.Proofs.Fl
set_option linter.unusedVariables false

theorem toInt64S_info : (Tryd.prog.info? 2).map (fun i => (i.zero, i.size, i.bytes)) = some (some (Value.int .i64 0), 1, 8) := by kernel_rfl

set_option maxHeartbeats 400000 in
theorem toInt64S_calls (A : Option Addr) (n c : Nat) (xs : List Int) (hn : xs.length = n) (hb : n ≤ 1048576) (w : World) (h : Rd w w.heap.size A (xs.map (Value.int .i64))) :
    Calls Tryd.prog 15 #[.slice A n c] w (RetOwn 2 n (xs.map (Value.int .i64)) w) := by
  obtain ⟨i0, hi0, hz0, hz1, hz2⟩ := info_parts toInt64S_info
  have HN := hid hn
  clear hn
  have Hz := hid (toList_madeCells_one (Value.int .i64 0) n)
  have Hmul := hid (Nat.mul_one n)
  go_enter Tryd.func15, Tryd.ntmps15
  go_wp2_with (at_make; refine wpList_make_full _ rfl _ _ 27 rfl w.heap.size 2 i0 (Value.int .i64 0) 1 Tryd.underlying27 hi0 hz0 hz1 _ _ _ _ n rfl rfl rfl rfl (by rw [hz2]; omega) (by simp only [maxLen]; omega) (Nat.le_refl _) ?_; intro w1 hown hgrow)
  have hbel : Below w.heap.size w w1 := (Below.refl _ _).grown hgrow (Nat.le_refl _) (by simp)
  clear hgrow
  rw [Hmul.out] at hown
  simp only [Value.cells] at hown
  rw [Hz.out, ← copied_zero (Value.int .i64) (Value.int .i64 0) xs n] at hown
  clear Hz Hmul
  have Hown := hid hown
  have Hbel := hid hbel
  clear hown hbel
  go_loopw [4] (fun i wr => ∃ k : Nat, k ≤ n ∧ i = .int .i64 k ∧ Hid (wr.ownsRow w.heap.size 2 1 (.slice (some ⟨w.heap.size, 0, none⟩) n n) n (copied (Value.int .i64) (Value.int .i64 0) xs n k)) ∧ Hid (Below w.heap.size w wr)) (fun i _ => n - (intOf i).toNat)
  case atStart => exact ⟨0, Nat.zero_le _, rfl, Hown, Hbel⟩
  case round =>
    obtain ⟨k, hk, rfl, hown, hbel⟩ := hrel
    by_cases hlt : k < n
    · have hkx : k < xs.length := by have := HN.out; omega
      obtain ⟨b, off, rfl, hbb, hcell⟩ := (h.below hbel.out).at_ (k := k) (by simpa using hkx)
      rw [List.getElem_map] at hcell
      have hold : ∃ u, wr.cell? ⟨w.heap.size, k, none⟩ = some u := by
        have := hown.out.cellAt k (by omega)
        rw [this]
        exact ⟨_, List.getElem?_eq_getElem (by rw [copied_length _ _ _ _ _ HN.out hk]; exact hlt)⟩
      obtain ⟨u, hold⟩ := hold
      have hfr := hown.out.frozenAt k
      have hst := hown.out.stored k ((Value.int .i64) xs[k])
      rw [copied_set _ _ _ _ _ HN.out hkx] at hst
      have Hst := hid hst.1
      have Hg := hid (hbel.out.setCell (p := ⟨w.heap.size, k, none⟩) (Nat.le_refl _) ((Value.int .i64) xs[k]))
      clear hst
      go_wp2
      go_roundw
      case rel => exact ⟨k + 1, hlt, by go_num, Hst, Hg⟩
      case measure => simp [intOf]; omega
    · have Hall := hid (copied_all (Value.int .i64) (Value.int .i64 0) xs n k HN.out (by omega))
      have hown2 := hown.out
      rw [Hall.out] at hown2
      have Hown2 := hid hown2
      clear hown2
      go_wp2
      go_ret
      exact ⟨_, rfl, Hown2.out, hbel.out⟩
end Go.Proofs.YtkbfhooiloaokaaDoor.Num
