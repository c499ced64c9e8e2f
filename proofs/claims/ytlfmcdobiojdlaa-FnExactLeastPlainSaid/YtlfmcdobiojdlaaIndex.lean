/-
  The place of a number in a list that the caller owns, the list with it behind if it is not there, by the reference.
-/
import Derived.Test.YtlfmcdobiojdlaaAlike
import Derived.Maps.AppendAt
namespace Go.Proofs.Ytlfmcdobiojdlaa.Num
open Go.RowKit Go.Proofs.Fl
set_option linter.unusedVariables false
set_option linter.unusedSimpArgs false
def nats (q : List Nat) : List Int := q.map fun c : Nat => (c : Int)
theorem nats_len (q : List Nat) : (nats q).length = q.length := by simp [nats]
def place (q : List Nat) (c : Nat) : Nat := q.findIdx (· == c)
/-- behind an append to a row at block g -/
structure Grew (w w' : World) (g g' : Nat) : Prop where
  kept : Kept w w' [some g]
  at_ : g' = g ∨ w.heap.size ≤ g'
theorem Kept.of_grown {w w' : World} {row : Option Nat} (h : w.grownBy w' row) : Kept w w' [row] := ⟨h.os, h.tape, h.output, h.size, fun b hb hr => h.block b hb (hr row (by simp))⟩
theorem grew_of {w w' : World} {X : Obj} {g g' k c k' c' : Nat} (hg : (w.alloc X).grownBy w' (Value.slice (some ⟨g, 0, none⟩) k c).ownBlock)
    (hat : (Value.slice (some ⟨g', 0, none⟩) k' c').ownBlock = (Value.slice (some ⟨g, 0, none⟩) k c).ownBlock ∨ (Value.slice (some ⟨g', 0, none⟩) k' c').ownBlock = some (w.alloc X).heap.size) : Grew w w' g g' := by
  refine ⟨(Kept.of_below ((Below.refl w.heap.size w).alloc (Nat.le_refl _) X) [some g]).trans (Kept.of_grown hg), ?_⟩
  rcases hat with h | h
  · simp [Value.ownBlock] at h; exact .inl h
  · simp [Value.ownBlock] at h; exact .inr (by omega)
theorem own_ints {w : World} {base g n c : Nat} {zs : List Int} (ho : w.ownsRow base 2 1 (.slice (some ⟨g, 0, none⟩) n c) n (i64s zs)) {k : Nat} (hk : k < n) : ∃ x, zs[k]? = some x ∧ w.cell? ⟨g, k, none⟩ = some (.int .i64 x) := by
  have hl : zs.length = n := by have := ho.1; rw [i64s_length] at this; omega
  refine ⟨zs[k]'(by omega), List.getElem?_eq_getElem _, ?_⟩
  rw [World.ownsRow.cellAt ho _ (by omega)]
  unfold i64s
  rw [List.getElem?_map, List.getElem?_eq_getElem (by omega)]
  rfl
theorem own_nats {w : World} {base g n c : Nat} {q : List Nat} (ho : w.ownsRow base 2 1 (.slice (some ⟨g, 0, none⟩) n c) n (i64s (nats q))) {k : Nat} (hk : k < n) : ∃ x : Nat, q[k]? = some x ∧ w.cell? ⟨g, k, none⟩ = some (.int .i64 (x : Int)) := by
  obtain ⟨x, hx, hc⟩ := own_ints ho hk
  unfold nats at hx
  rw [List.getElem?_map] at hx
  cases hq : q[k]? with
  | none => rw [hq] at hx; cases hx
  | some y => rw [hq] at hx; cases hx; exact ⟨y, rfl, hc⟩
theorem own_succ' {w : World} {base e size : Nat} {v : Value} {k : Nat} {xs : List Value} (h : w.ownsRow base e size v (k + 1) xs) : ∃ g cap, v = .slice (some ⟨g, 0, none⟩) (k + 1) cap := by
  rcases h.2 with ⟨_, h0⟩ | ⟨g, cap, _, rfl, _⟩
  · omega
  · exact ⟨g, cap, rfl⟩
def RetAt (v : Value) (w : World) (e : Ending) (w' : World) : Prop := e = .returned v ∧ w' = w
set_option maxHeartbeats 800000 in
theorem l02Index_found (base g k cap : Nat) (q : List Nat) (x : Nat) (hkb : k ≤ 1048576) (hin : q.contains x = true) (w : World) (ho : w.ownsRow base 2 1 (.slice (some ⟨g, 0, none⟩) k cap) k (i64s (nats q))) :
    Calls Try.prog 64 #[.slice (some ⟨g, 0, none⟩) k cap, .int .i64 (x : Int)] w (RetAt (.tuple #[.int .i64 ((place q x : Nat) : Int), .slice (some ⟨g, 0, none⟩) k cap]) w) := by
  have hlq : q.length = k := by have := ho.1; rw [i64s_length, nats_len] at this; omega
  have hpl : place q x < k := by rw [← hlq]; exact List.findIdx_lt_length_of_exists (by simpa using hin)
  have HO := hid ho
  have HI := hid hlq
  clear ho hlq hin
  go_enter Try.func64, Try.ntmps64
  go_wp2_with fail
  go_loopw [6] (fun i wr => ∃ j : Nat, j ≤ place q x ∧ i = .int .i64 j ∧ wr = w) (fun i _ => k - (intOf i).toNat)
  case atStart => exact ⟨0, Nat.zero_le _, rfl, rfl⟩
  case round =>
    obtain ⟨j, hj, rfl, rfl⟩ := hrel
    obtain ⟨y, hy, hc⟩ := own_nats HO.out (show j < k by omega)
    have hjk : (j : Int) < (k : Int) := by omega
    by_cases hjp : j = place q x
    · have hyx : y = x := by
        have h1 := List.findIdx_getElem (xs := q) (p := (· == x)) (w := by rw [HI.out]; exact hpl)
        have h2 : q[j]? = some (q[place q x]'(by rw [HI.out]; exact hpl)) := by rw [hjp]; exact List.getElem?_eq_getElem _
        rw [hy] at h2
        have h3 := Option.some.inj h2
        rw [h3]
        exact eq_of_beq h1
      subst hyx
      clear hy
      have HP := hid hjp
      rw [← HP.out]
      clear hjp
      have xx : ((y : Int) == (y : Int)) = true := beq_self_eq_true _
      go_wp2_with fail
      go_ret2
      exact ⟨rfl, rfl⟩
    · have hyx : ¬ y = x := by
        have h1 := List.not_of_lt_findIdx (xs := q) (p := (· == x)) (i := j) (show j < place q x by omega)
        have h2 : q[j]? = some (q[j]'(by rw [HI.out]; omega)) := List.getElem?_eq_getElem _
        rw [hy] at h2
        have h3 := Option.some.inj h2
        rw [h3]
        simpa using h1
      have xx : ((y : Int) == (x : Int)) = false := by simp; omega
      clear hy hyx
      go_wp2_with fail
      go_roundw
      case rel => exact ⟨j + 1, by omega, by go_num, trivial⟩
      case measure => simp [intOf]; omega
def RetAdd (base g k : Nat) (q : List Nat) (x : Nat) (w : World) (e : Ending) (w' : World) : Prop :=
  ∃ g' cap', e = .returned (.tuple #[.int .i64 (k : Int), .slice (some ⟨g', 0, none⟩) (k + 1) cap']) ∧ w'.ownsRow base 2 1 (.slice (some ⟨g', 0, none⟩) (k + 1) cap') (k + 1) (i64s (nats (q ++ [x]))) ∧ Grew w w' g g'
set_option maxHeartbeats 1600000 in
theorem l02Index_add (base g k cap : Nat) (q : List Nat) (x : Nat) (hkb : k ≤ 1048576) (hin : q.contains x = false) (w : World) (hbw : base ≤ w.heap.size) (ho : w.ownsRow base 2 1 (.slice (some ⟨g, 0, none⟩) k cap) k (i64s (nats q))) :
    Calls Try.prog 64 #[.slice (some ⟨g, 0, none⟩) k cap, .int .i64 (x : Int)] w (RetAdd base g k q x w) := by
  obtain ⟨j0, hj0, hw0, hw1, hw2⟩ := info_parts toInt64S_info
  have hlq : q.length = k := by have := ho.1; rw [i64s_length, nats_len] at this; omega
  have HO := hid ho
  have HI := hid hlq
  have HN := hid hin
  clear ho hlq hin
  go_enter Try.func64, Try.ntmps64
  go_wp2_with fail
  go_loopw [6] (fun i wr => ∃ j : Nat, j ≤ k ∧ i = .int .i64 j ∧ wr = w) (fun i _ => k - (intOf i).toNat)
  case atStart => exact ⟨0, Nat.zero_le _, rfl, rfl⟩
  case round =>
    obtain ⟨j, hj, rfl, rfl⟩ := hrel
    by_cases hlt : j < k
    · obtain ⟨y, hy, hc⟩ := own_nats HO.out hlt
      have hyx : ¬ y = x := fun e => by
        subst e
        have h := HN.out
        rw [List.contains_eq_mem, decide_eq_false_iff_not] at h
        exact h (List.mem_of_getElem? hy)
      have xx : ((y : Int) == (x : Int)) = false := by simp; omega
      clear hy hyx
      go_wp2_with fail
      go_roundw
      case rel => exact ⟨j + 1, hlt, by go_num, trivial⟩
      case measure => simp [intOf]; omega
    · obtain rfl : j = k := by omega
      have HL := hid (show i64s (nats q) ++ [Value.int .i64 (x : Int)] = i64s (nats (q ++ [x])) by unfold i64s nats; simp)
      have hlj : ¬ (j : Int) < (j : Int) := by omega
      go_wp2_with (at_builtin; refine wpList_append_own_at _ rfl _ _ 22 rfl base 2 j0 (Value.int .i64 0) 1 8 Try.underlying22 hj0 hw0 hw1 hw2 rfl (by decide) (.slice (some ⟨g, 0, none⟩) j cap) j (i64s (nats q)) rfl (HO.out.alloc _) ⟨wr.heap.size, 0, none⟩ 1 1 [.int .i64 (x : Int)] rfl rfl (cell_one_new _ _ _) (ints_oneCell .i64 [(x : Int)]) (by unfold maxLen; omega) (by omega) (by simp; omega) ?_; intro v' w5 hown' hgrow hnil hat; rw [HL.out] at hown'; obtain ⟨g6, c6, rfl⟩ := own_succ' hown'; have OW6 := hid hown'; have GR := hid (grew_of hgrow hat); clear hgrow hat hnil hown')
      go_ret2
      exact ⟨g6, c6, rfl, OW6.out, GR.out⟩
end Go.Proofs.Ytlfmcdobiojdlaa.Num
