/-
  The law on IsName: both texts go through the bytes and then look at the length.
-/
import Derived.Test.YtjmgkoccplenpaaExt
import Derived.LoopTactic
namespace Go.Proofs.Ytjmgkoccplenpaa.fnExactIsName
open Go.RowKit Go.Proofs.Fl Go.Proofs.Ytjmgkoccplenpaa.Num
set_option linter.unusedVariables false

def lower (c : UInt8) : Bool := decide (97 ≤ (c.toNat : Int)) && decide ((c.toNat : Int) ≤ 122)
def isName (s : ByteArray) : Bool := s.data.toList.all lower && decide (1 ≤ s.size) && decide (s.size ≤ 8)

theorem all_take (s : ByteArray) (k : Nat) (h : k < s.size) : (s.data.toList.take (k + 1)).all lower = ((s.data.toList.take k).all lower && lower s[k]) := by
  rw [List.take_succ_eq_append_getElem (by simpa using h)]
  rw [List.all_append]
  simp
  rfl
theorem not_name (s : ByteArray) (k : Nat) (h : k < s.size) (hb : lower s[k] = false) : isName s = false := by
  have : s.data.toList.all lower = false := by
    rw [List.all_eq_false]
    exact ⟨s[k], by simp [ByteArray.getElem_eq_getElem_data], by simp [hb]⟩
  simp [isName, this]

theorem low (s : ByteArray) (k : Nat) (h : k < s.size) (hc : ((s[k].toNat : Nat) : Int) < 97 ∨ 122 < ((s[k].toNat : Nat) : Int)) : lower s[k] = false := by
  unfold lower
  rcases hc with h1 | h1
  · rw [decide_eq_false (by omega)]; rfl
  · rw [decide_eq_false (p := ((s[k].toNat : Nat) : Int) ≤ 122) (by omega)]; simp
theorem high (s : ByteArray) (k : Nat) (h : k < s.size) (hc : 97 ≤ ((s[k].toNat : Nat) : Int) ∧ ((s[k].toNat : Nat) : Int) ≤ 122) : lower s[k] = true := by
  unfold lower
  simp [hc.1, hc.2]
theorem at_end (s : ByteArray) (k : Nat) (h : ¬ k < s.size) (hk : k ≤ s.size) (ha : (s.data.toList.take k).all lower = true) : isName s = (decide (1 ≤ s.size) && decide (s.size ≤ 8)) := by
  rw [List.take_of_length_le (by simp; omega)] at ha
  simp [isName, ha]

set_option maxHeartbeats 400000 in
theorem spec_calls (s : ByteArray) (hs : s.size ≤ maxLen) (w : World) : Calls Try.prog 18 #[.string s] w (Ret (.bool (isName s)) w) := by
  unfold maxLen at hs
  go_enter Try.func18, Try.ntmps18
  go_wp2
  go_loop [3] (fun i => ∃ k : Nat, k ≤ s.size ∧ i = .int .i64 k ∧ (s.data.toList.take k).all lower = true) (fun i => s.size - (intOf i).toNat)
  case atStart => exact ⟨0, Nat.zero_le _, rfl, rfl⟩
  case round =>
    obtain ⟨k, hk, rfl, hall⟩ := hrel
    have Hall := hid hall
    clear hall
    by_cases hlt : k < s.size
    · have Hn := hid (not_name s k hlt)
      have Ht := hid (all_take s k hlt)
      have Hl := hid (low s k hlt)
      have Hh := hid (high s k hlt)
      go_wp2
      · go_ret
        exact ⟨ret_bool (Hn.out (Hl.out (by omega))).symm, 0, rfl⟩
      · exact ⟨⟨k + 1, hlt, by go_num, by rw [Ht.out, Hall.out, Hh.out (by omega)]; rfl⟩, by simp [intOf]; omega⟩
      · go_ret
        exact ⟨ret_bool (Hn.out (Hl.out (by omega))).symm, 0, rfl⟩
    · have He := hid (at_end s k hlt hk Hall.out)
      obtain rfl : k = s.size := by omega
      by_cases h1 : 1 ≤ s.size
      · go_wp2
        go_ret
        exact ⟨ret_bool (by rw [He.out, Bool.eq_iff_iff]; simp; omega), 0, rfl⟩
      · go_wp2
        go_ret
        exact ⟨ret_bool (by rw [He.out, Bool.eq_iff_iff]; simp; omega), 0, rfl⟩

set_option maxHeartbeats 400000 in
theorem impl_calls (s : ByteArray) (hs : s.size ≤ maxLen) (w : World) : Calls Try.prog 19 #[.string s] w (Ret (.bool (isName s)) w) := by
  unfold maxLen at hs
  go_enter Try.func19, Try.ntmps19
  go_wp2
  go_loop [6] (fun i => ∃ k : Nat, k ≤ s.size ∧ i = .int .i64 k ∧ (s.data.toList.take k).all lower = true) (fun i => s.size - (intOf i).toNat)
  case atStart => exact ⟨0, Nat.zero_le _, rfl, rfl⟩
  case round =>
    obtain ⟨k, hk, rfl, hall⟩ := hrel
    have Hall := hid hall
    clear hall
    by_cases hlt : k < s.size
    · have Hn := hid (not_name s k hlt)
      have Ht := hid (all_take s k hlt)
      have Hl := hid (low s k hlt)
      have Hh := hid (high s k hlt)
      go_wp2
      · go_ret
        exact ⟨ret_bool (Hn.out (Hl.out (by omega))).symm, 0, rfl⟩
      · exact ⟨⟨k + 1, hlt, by go_num, by rw [Ht.out, Hall.out, Hh.out (by omega)]; rfl⟩, by simp [intOf]; omega⟩
      · go_ret
        exact ⟨ret_bool (Hn.out (Hl.out (by omega))).symm, 0, rfl⟩
    · have He := hid (at_end s k hlt hk Hall.out)
      obtain rfl : k = s.size := by omega
      by_cases h1 : 1 ≤ s.size
      · go_wp2
        go_ret
        exact ⟨ret_bool (by rw [He.out, Bool.eq_iff_iff]; simp; omega), 0, rfl⟩
      · go_wp2
        go_ret
        exact ⟨ret_bool (by rw [He.out, Bool.eq_iff_iff]; simp; omega), 0, rfl⟩
theorem walk (s : ByteArray) (hs : s.size ≤ maxLen) (w : World) : Calls Try.prog 7 #[.string s] w fun e w' => e = .returned (.bool true) ∧ Below w.heap.size w w' := by
  have Hs := hid hs
  unfold maxLen at hs
  go_enter Try.func7, Try.ntmps7
  go_wp2_with (first | (go_at_call 18; refine (spec_calls _ Hs.out _).mono ?_; rintro e w' ⟨rfl, n, rfl⟩) | (go_at_call 19; refine (impl_calls _ Hs.out _).mono ?_; rintro e w' ⟨rfl, n, rfl⟩))
  · go_ret
    exact ⟨rfl, Below.refl _ _⟩
  · go_ret
    exact ⟨rfl, below_drewN (Below.refl _ _) _⟩
end Go.Proofs.Ytjmgkoccplenpaa.fnExactIsName
