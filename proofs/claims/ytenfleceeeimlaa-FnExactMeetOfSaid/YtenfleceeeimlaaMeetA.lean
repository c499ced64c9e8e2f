/-
  What MeetOf asks of its arguments, by both texts.
-/
import Derived.Test.YtenfleceeeimlaaPairs
namespace Go.Proofs.Ytenfleceeeimlaa.fnExactMeetOf
open Go.RowKit Go.Proofs.Fl Go.Proofs.Ytenfleceeeimlaa.Num
set_option linter.unusedVariables false
set_option linter.unusedSimpArgs false
/-- no empty arc among the first ones -/
def noE (zs : List Int) : Nat → Bool
  | 0 => true
  | k + 1 => noE zs k && decide (0 ≤ ga zs (k * 4 + 2))
theorem noE_not {zs : List Int} {k : Nat} (h : ga zs (k * 4 + 2) < 0) : ∀ n, k < n → noE zs n = false
  | 0, hn => by omega
  | n + 1, hn => by
    by_cases hk : k = n
    · subst hk; rw [noE, decide_eq_false (by omega), Bool.and_false]
    · rw [noE, noE_not h n (by omega), Bool.false_and]
theorem noE_snoc {zs : List Int} {k : Nat} (h : noE zs k = true) (h2 : 0 ≤ ga zs (k * 4 + 2)) : noE zs (k + 1) = true := by rw [noE, h, decide_eq_true h2]; rfl
set_option maxHeartbeats 1600000 in
theorem l02Lettered_calls (b : Nat) (S L : Int) (A : Option Addr) (n c : Nat) (B : Option Addr) (m d : Nat) (C : Option Addr) (q f : Nat) (zs : List Int) (hz : zs.length = n * 4) (hn : n ≤ 1048576) (w : World) (hp : MachAt w b S L A n c B m d C q f) (ha : Rd w w.heap.size A (i64s zs)) :
    Calls Try.prog 45 #[.pointer (some ⟨b, 0, none⟩)] w (Ret (.bool (noE zs n)) w) := by
  have HZ := hid hz
  have HA := hid ha
  have c2 := hp.c2
  clear hz ha hp
  go_enter Try.func45, Try.ntmps45
  go_wp2_with fail
  go_loopw [3] (fun i wr => ∃ k : Nat, k ≤ n ∧ i = .int .i64 k ∧ wr = w ∧ Hid (noE zs k = true)) (fun i _ => n - (intOf i).toNat)
  case atStart => exact ⟨0, Nat.zero_le _, rfl, rfl, rfl⟩
  case round =>
    obtain ⟨k, hk, rfl, rfl, hok⟩ := hrel
    by_cases hlt : k < n
    · obtain ⟨b1, o1, rfl, hb1, p0, p1, p2, p3⟩ := arcs_at HA.out HZ.out hlt
      have HN := hid (fun h => noE_not (zs := zs) (k := k) h n hlt)
      have HS := hid (fun h => noE_snoc (zs := zs) (k := k) hok.out h)
      generalize ga zs (k * 4 + 2) = x at *
      by_cases hx : x < 0
      · have HR := hid (HN.out hx)
        go_wp2_with fail
        go_ret
        exact ⟨ret_bool HR.out.symm, 0, rfl⟩
      · have HR := hid (HS.out (by omega))
        go_wp2_with fail
        go_roundw
        case rel => exact ⟨k + 1, hlt, by go_num, trivial, HR⟩
        case measure => simp [intOf]; omega
    · have he : k = n := by omega
      subst he
      have hlk : ¬ (k : Int) < (k : Int) := by omega
      go_wp2_with fail
      go_ret
      exact ⟨ret_bool hok.out.symm, 0, rfl⟩
theorem isEmpty_calls (f t l c : Int) (w : World) : Calls Try.prog 59 #[.agg #[.int .i64 f, .int .i64 t, .int .i64 l, .int .i64 c]] w (RetG (.bool (decide (l < 0))) w) := by
  go_enter Try.func59, Try.ntmps59
  go_wp2_with fail
  go_ret
  exact ⟨rfl, (Below.refl _ _).alloc (Nat.le_refl _) _⟩
def RetIdx (ok : Bool) (w : World) (e : Ending) (w' : World) : Prop := ∃ r : Int, e = .returned (.int .i64 r) ∧ decide (0 ≤ r) = ok ∧ Below w.heap.size w w'
set_option maxHeartbeats 1600000 in
theorem index_calls (A : Option Addr) (n c : Nat) (zs : List Int) (hz : zs.length = n * 4) (hn : n ≤ 1048576) (w : World) (ha : Rd w w.heap.size A (i64s zs)) :
    Calls Try.prog 60 #[.slice A n c, .func (.func 59) #[] #[]] w (RetIdx (!noE zs n) w) := by
  have HZ := hid hz
  have HA := hid ha
  clear hz ha
  go_enter Try.func60, Try.ntmps60
  go_wp2_with fail
  go_loopw [5, 8] (fun v i wr => ∃ k : Nat, k ≤ n ∧ i = .int .i64 k ∧ Hid (noE zs k = true) ∧ Hid (Below w.heap.size w wr)) (fun _ i _ => n - (intOf i).toNat)
  case atStart => exact ⟨0, Nat.zero_le _, rfl, rfl, Below.refl _ _⟩
  case round =>
    obtain ⟨k, hk, rfl, hok, hbel⟩ := hrel
    by_cases hlt : k < n
    · obtain ⟨b1, o1, rfl, hb1, p0, p1, p2, p3⟩ := arcs_at (rd_step HA.out hbel.out) HZ.out hlt
      have HN := hid (fun h => noE_not (zs := zs) (k := k) h n hlt)
      have HS := hid (fun h => noE_snoc (zs := zs) (k := k) hok.out h)
      generalize ga zs (k * 4) = x0 at *
      generalize ga zs (k * 4 + 1) = x1 at *
      generalize ga zs (k * 4 + 2) = x at *
      generalize ga zs (k * 4 + 3) = x3 at *
      go_wp2_with fail
      refine (isEmpty_calls x0 x1 x x3 _).mono ?_
      rintro e w3 ⟨rfl, bel3⟩
      have B3 := hid (hbel.out.trans (bel3.mono hbel.out.size))
      clear hbel bel3
      by_cases hx : x < 0
      · have HR := hid (HN.out hx)
        go_wp2_with fail
        go_ret
        exact ⟨_, rfl, by rw [HR.out]; simp, B3.out⟩
      · have HR := hid (HS.out (by omega))
        go_wp2_with fail
        go_roundw
        case rel => exact ⟨k + 1, hlt, by go_num, HR, B3⟩
        case measure => simp [intOf]; omega
    · have he : k = n := by omega
      subst he
      have hlk : ¬ (k : Int) < (k : Int) := by omega
      go_wp2_with fail
      go_ret
      exact ⟨_, rfl, by rw [hok.out]; simp, hbel.out⟩
theorem contains_calls (A : Option Addr) (n c : Nat) (zs : List Int) (hz : zs.length = n * 4) (hn : n ≤ 1048576) (w : World) (ha : Rd w w.heap.size A (i64s zs)) :
    Calls Try.prog 58 #[.slice A n c, .func (.func 59) #[] #[]] w (RetG (.bool (!noE zs n)) w) := by
  have T := hid (index_calls A n c zs hz hn w ha)
  clear hz ha
  go_enter Try.func58, Try.ntmps58
  go_wp2_with fail
  refine T.out.mono ?_
  rintro e w1 ⟨r, rfl, hr, bel1⟩
  have HR := hid hr
  have BEL := hid bel1
  clear hr bel1
  go_wp2_with fail
  go_ret
  exact ⟨ret_bool HR.out, BEL.out⟩
theorem hasEmpty_calls (S L : Int) (A : Option Addr) (n c : Nat) (B : Option Addr) (m d : Nat) (C : Option Addr) (q f : Nat) (zs : List Int) (hz : zs.length = n * 4) (hn : n ≤ 1048576) (w : World) (ha : Rd w w.heap.size A (i64s zs)) :
    Calls Try.prog 48 #[.agg #[.int .i64 S, .int .i64 L, .slice A n c, .slice B m d, .slice C q f]] w (RetG (.bool (!noE zs n)) w) := by
  have T := hid (contains_calls A n c zs hz hn)
  have HA := hid ha
  clear hz ha
  go_enter Try.func48, Try.ntmps48
  go_wp2_with fail
  refine (T.out _ (rd_alloc HA.out _)).mono ?_
  rintro e w1 ⟨rfl, bel1⟩
  have BEL := hid (((Below.refl w.heap.size w).alloc (Nat.le_refl _) _).trans (bel1.mono (by simp)))
  clear bel1
  go_wp2_with fail
  go_ret
  exact ⟨rfl, BEL.out⟩
def twoOk (S L : Int) (n : Nat) (zs : List Int) (m : Nat) (xs : List Int) (q : Nat) (ys : List Int) (S' L' : Int) (n' : Nat) (zs' : List Int) (m' : Nat) (xs' : List Int) (q' : Nat) (ys' : List Int) : Bool := validM S L n zs m xs q ys && validM S' L' n' zs' m' xs' q' ys' && decide (L = L')
end Go.Proofs.Ytenfleceeeimlaa.fnExactMeetOf
