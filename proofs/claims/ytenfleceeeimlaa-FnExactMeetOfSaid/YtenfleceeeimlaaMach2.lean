/-
  Machines of the laws: equality of lists of arcs, sizes of machines, copies of machines.
-/
import Derived.Test.YtenfleceeeimlaaMach
import Derived.BigQuiet
import Derived.Deep.QuietTactic
import Derived.Deep.RegionWith
import Derived.Deep.CutRange
namespace Go.Proofs.Ytenfleceeeimlaa.Num
open Go.RowKit Go.Proofs.Fl
set_option linter.unusedVariables false
set_option linter.unusedSimpArgs false
theorem eqArc_yes (f t l c : Int) (w : World) : Calls Try.prog 53 #[.agg #[.int .i64 f, .int .i64 t, .int .i64 l, .int .i64 c], .agg #[.int .i64 f, .int .i64 t, .int .i64 l, .int .i64 c]] w (RetG (.bool true) w) := by
  have h1 : (f != f) = false := bne_self_eq_false _
  have h2 : (t != t) = false := bne_self_eq_false _
  have h3 : (l != l) = false := bne_self_eq_false _
  have h4 : (c != c) = false := bne_self_eq_false _
  go_enter Try.func53, Try.ntmps53
  go_wp2_with fail
  go_ret
  exact ⟨rfl, (((Below.refl _ _).alloc (Nat.le_refl _) _).alloc (by simp) _)⟩
set_option maxHeartbeats 1600000 in
theorem eqArcS_yes (A B : Option Addr) (n c d : Nat) (zs : List Int) (hz : zs.length = n * 4) (hn : n ≤ 1048576) (w : World)
    (ha : Rd w w.heap.size A (i64s zs)) (hb : Rd w w.heap.size B (i64s zs)) :
    Calls Try.prog 33 #[.slice A n c, .slice B n d] w (RetG (.bool true) w) := by
  have HZ := hid hz
  clear hz
  go_enter Try.func33, Try.ntmps33
  go_wp2
  go_loopw [5] (fun i wr => ∃ k : Nat, k ≤ n ∧ i = .int .i64 k ∧ Hid (Below w.heap.size w wr)) (fun i _ => n - (intOf i).toNat)
  case atStart => exact ⟨0, Nat.zero_le _, rfl, Below.refl _ _⟩
  case round =>
    obtain ⟨k, hk, rfl, hbel⟩ := hrel
    by_cases hlt : k < n
    · obtain ⟨b1, o1, rfl, hb1, p0, p1, p2, p3⟩ := arcs_at (rd_step ha hbel.out) HZ.out hlt
      obtain ⟨b2, o2, rfl, hb2, q0, q1, q2, q3⟩ := arcs_at (rd_step hb hbel.out) HZ.out hlt
      have p0' := show wr.drew.cell? _ = _ from p0
      have p1' := show wr.drew.cell? _ = _ from p1
      have p2' := show wr.drew.cell? _ = _ from p2
      have p3' := show wr.drew.cell? _ = _ from p3
      have q0' := show wr.drew.cell? _ = _ from q0
      have q1' := show wr.drew.cell? _ = _ from q1
      have q2' := show wr.drew.cell? _ = _ from q2
      have q3' := show wr.drew.cell? _ = _ from q3
      generalize ga zs (k * 4) = x0 at *
      generalize ga zs (k * 4 + 1) = x1 at *
      generalize ga zs (k * 4 + 2) = x2 at *
      generalize ga zs (k * 4 + 3) = x3 at *
      go_wp2_with fail
      go_cut [26] from 17 to 26 (fun v wx => v = .bool false ∧ Hid (Below wr.heap.size wr wx))
      case first =>
        go_region_with (go_at_call 53; refine (eqArc_yes x0 x1 x2 x3 _).mono ?_; rintro e w3 ⟨rfl, bel3⟩; have BEL3 := hid bel3; clear bel3)
        all_goals
          go_wp2_with fail
          go_meet
          case rel => exact ⟨rfl, (Below.refl wr.heap.size wr).drew.trans BEL3.out⟩
      case rest =>
        obtain ⟨rfl, bel3⟩ := hcut
        have B3 := hid (hbel.out.trans (bel3.out.mono hbel.out.size))
        clear bel3
        go_wp2_with fail
        go_roundw
        case rel => exact ⟨k + 1, hlt, by go_num, B3⟩
        case measure => simp [intOf]; omega
    · go_wp2
      go_ret
      exact ⟨rfl, hbel.out⟩
def leftM (n m q : Nat) (l : Int) : Int := if leftI n l < 0 then -1 else if leftI m (leftI n l) < 0 then -1 else if leftI q (leftI m (leftI n l)) < 0 then -1 else leftI q (leftI m (leftI n l))
theorem leftI_range {n : Nat} {l : Int} (hl : l ≤ 1048576) (h : ¬ leftI n l < 0) : 0 ≤ leftI n l ∧ leftI n l ≤ 1048576 ∧ n ≤ 1048576 := by
  unfold leftI at *
  split at h
  · omega
  · rename_i h1
    rw [if_neg h1]
    omega
theorem szMachine_calls (S L : Int) (A : Option Addr) (n c : Nat) (B : Option Addr) (m d : Nat) (C : Option Addr) (q f : Nat) (l : Int) (hn : n ≤ 9223372036854775807) (hm : m ≤ 9223372036854775807) (hq : q ≤ 9223372036854775807) (hl : 0 ≤ l ∧ l ≤ 1048576) (w : World) :
    Calls Try.prog 8 #[.agg #[.int .i64 S, .int .i64 L, .slice A n c, .slice B m d, .slice C q f], .int .i64 l] w (RetG (.int .i64 (leftM n m q l)) w) := by
  have H1 := hid (szArcS_calls A n c l hn hl)
  unfold leftM
  by_cases h1 : leftI n l < 0
  · rw [if_pos h1]
    generalize leftI n l = l1 at *
    go_enter Try.func8, Try.ntmps8
    go_wp2_with (go_at_call 26; refine (H1.out _).mono ?_; rintro e w' ⟨rfl, j, rfl⟩)
    go_ret
    exact ⟨rfl, below_drewN ((Below.refl _ _).alloc (Nat.le_refl _) _) _⟩
  · rw [if_neg h1]
    have r1 := leftI_range hl.2 h1
    have H2 := hid (szInt64S_calls B m d (leftI n l) hm ⟨r1.1, r1.2.1⟩)
    generalize leftI n l = l1 at *
    by_cases h2 : leftI m l1 < 0
    · rw [if_pos h2]
      generalize leftI m l1 = l2 at *
      go_enter Try.func8, Try.ntmps8
      go_wp2_with (first | (go_at_call 26; refine (H1.out _).mono ?_; rintro e w' ⟨rfl, j, rfl⟩) | (go_at_call 27; refine (H2.out _).mono ?_; rintro e w' ⟨rfl, j, rfl⟩))
      go_ret
      exact ⟨rfl, below_drewN ((Below.refl _ _).alloc (Nat.le_refl _) _) _⟩
    · rw [if_neg h2]
      have r2 := leftI_range r1.2.1 h2
      have H3 := hid (szInt64S_calls C q f (leftI m l1) hq ⟨r2.1, r2.2.1⟩)
      generalize leftI m l1 = l2 at *
      by_cases h3 : leftI q l2 < 0
      all_goals
        first | rw [if_pos h3] | rw [if_neg h3]
        generalize leftI q l2 = l3 at *
        go_enter Try.func8, Try.ntmps8
        go_wp2_with fail
        refine (H1.out _).mono ?_
        rintro e w' ⟨rfl, j, rfl⟩
        go_wp2_with fail
        refine (H2.out _).mono ?_
        rintro e w' ⟨rfl, j, rfl⟩
        go_wp2_with fail
        refine (H3.out _).mono ?_
        rintro e w' ⟨rfl, j, rfl⟩
        go_wp2_with fail
        go_ret
        exact ⟨rfl, below_drewN ((Below.refl _ _).alloc (Nat.le_refl _) _) _⟩
theorem leftM_range {n m q : Nat} {l : Int} (hl : l ≤ 1048576) (h : ¬ leftM n m q l < 0) : 0 ≤ leftM n m q l ∧ leftM n m q l ≤ 1048576 ∧ n ≤ 1048576 ∧ m ≤ 1048576 ∧ q ≤ 1048576 := by
  unfold leftM at *
  by_cases h1 : leftI n l < 0
  · rw [if_pos h1] at h; omega
  · rw [if_neg h1] at h ⊢
    have r1 := leftI_range hl h1
    by_cases h2 : leftI m (leftI n l) < 0
    · rw [if_pos h2] at h; omega
    · rw [if_neg h2] at h ⊢
      have r2 := leftI_range r1.2.1 h2
      by_cases h3 : leftI q (leftI m (leftI n l)) < 0
      · rw [if_pos h3] at h; omega
      · rw [if_neg h3] at h ⊢
        have r3 := leftI_range r2.2.1 h3
        exact ⟨r3.1, r3.2.1, r1.2.2, r2.2.2, r3.2.2⟩
end Go.Proofs.Ytenfleceeeimlaa.Num
