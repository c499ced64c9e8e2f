/-
  The law on CheckOf: both texts fold the bytes into the number.
-/
import Derived.Test.YtjmgkoccplenpaaWithin
import Derived.LoopTactic
namespace Go.Proofs.Ytjmgkoccplenpaa.fnExactCheckOf
open Go.RowKit Go.Proofs.Fl Go.Proofs.Ytjmgkoccplenpaa.Num
set_option linter.unusedVariables false

def step (n : Int) (c : UInt8) : Int := (919 * n + (c.toNat : Int) + 191) % 65003
def check (n : Int) (l : List UInt8) : Int := l.foldl step n
theorem step_told (n : Int) (c : UInt8) (h0 : 0 ≤ n) (h1 : n < 65003) : Value.int .i64 ((wrap64 (wrap64 (919 * n + wrap64 (c.toNat : Int)) + 191)).tmod 65003) = .int .i64 (step n c) := by
  have hc := c.toNat_lt
  have hw : ∀ m : Int, 0 ≤ m → m < 9223372036854775808 → wrap64 m = m := by intro m h1 h2; unfold wrap64; omega
  unfold step
  rw [hw (c.toNat : Int) (by omega) (by omega), hw (919 * n + (c.toNat : Int)) (by omega) (by omega), hw _ (by omega) (by omega), Int.tmod_eq_emod_of_nonneg (by omega)]
theorem check_bounds (n : Int) (l : List UInt8) (h0 : 0 ≤ n) (h1 : n < 65003) : 0 ≤ check n l ∧ check n l < 65003 := by
  induction l generalizing n with
  | nil => exact ⟨h0, h1⟩
  | cons c l ih => exact ih _ (Int.emod_nonneg _ (by decide)) (Int.emod_lt_of_pos _ (by decide))
theorem check_snoc (n : Int) (s : ByteArray) (k : Nat) (h : k < s.size) : check n (s.data.toList.take (k + 1)) = step (check n (s.data.toList.take k)) s[k] := by
  rw [List.take_succ_eq_append_getElem (by simpa using h)]
  unfold check
  rw [List.foldl_append]
  rfl
theorem check_end (n : Int) (s : ByteArray) (k : Nat) (h : s.size ≤ k) : check n (s.data.toList.take k) = check n s.data.toList := by
  rw [List.take_of_length_le (by simpa using h)]

set_option maxHeartbeats 400000 in
theorem l01Check_calls (n : Int) (h0 : 0 ≤ n) (h1 : n < 65003) (s : ByteArray) (hs : s.size ≤ maxLen) (w : World) :
    Calls Try.prog 34 #[.int .i64 n, .string s] w (Ret (.int .i64 (check n s.data.toList)) w) := by
  unfold maxLen at hs
  go_enter Try.func34, Try.ntmps34
  go_wp2
  go_loop [0, 5] (fun a i => ∃ k : Nat, k ≤ s.size ∧ i = .int .i64 k ∧ a = .int .i64 (check n (s.data.toList.take k))) (fun _ i => s.size - (intOf i).toNat)
  case atStart => exact ⟨0, Nat.zero_le _, rfl, rfl⟩
  case round =>
    obtain ⟨k, hk, rfl, rfl⟩ := hrel
    obtain ⟨b0, b1⟩ := check_bounds n (s.data.toList.take k) h0 h1
    by_cases hlt : k < s.size
    · have Ht := hid (check_snoc n s k hlt)
      generalize check n (s.data.toList.take k) = c at *
      go_wp2
      go_round
      case rel => exact ⟨k + 1, hlt, by go_num, by rw [Ht.out, ← step_told c _ b0 b1]⟩
      case measure => simp [intOf]; omega
    · have He := hid (check_end n s k (by omega))
      go_wp2
      go_ret
      exact ⟨ret_int He.out, 0, rfl⟩

def okStart (n : Int) : Prop := 0 ≤ n ∧ n ≤ 65002
theorem spec_no (n : Int) (h : inB n 0 65002 = false) (s : ByteArray) (w : World) :
    Calls Try.prog 24 #[.int .i64 n, .string s] w (Ret (.tuple #[.int .i64 0, .bool false]) w) := by
  have H := hid h
  clear h
  go_enter Try.func24, Try.ntmps24
  go_wp2_with (go_at_call 33; refine (l00In_is _ _ _ false H.out _).mono ?_; rintro e w' ⟨rfl, n, rfl⟩)
  go_ret2
  exact ⟨rfl, _, rfl⟩
theorem spec_yes (n : Int) (h : inB n 0 65002 = true) (h0 : 0 ≤ n) (h1 : n < 65003) (s : ByteArray) (hs : s.size ≤ maxLen) (w : World) :
    Calls Try.prog 24 #[.int .i64 n, .string s] w (Ret (.tuple #[.int .i64 (check n s.data.toList), .bool true]) w) := by
  have H := hid h
  have Hs := hid hs
  clear h hs
  go_enter Try.func24, Try.ntmps24
  go_wp2_with (first | (go_at_call 33; refine (l00In_is _ _ _ true H.out _).mono ?_; rintro e w' ⟨rfl, n, rfl⟩) | (go_at_call 34; refine (l01Check_calls _ h0 h1 _ Hs.out _).mono ?_; rintro e w' ⟨rfl, n, rfl⟩))
  go_ret2
  exact ⟨rfl, _, rfl⟩
theorem impl_no (n : Int) (h : inB n 0 65002 = false) (s : ByteArray) (w : World) :
    Calls Try.prog 25 #[.int .i64 n, .string s] w (Ret (.tuple #[.int .i64 0, .bool false]) w) := by
  have H := hid h
  clear h
  go_enter Try.func25, Try.ntmps25
  go_wp2_with (go_at_call 35; refine (within_is _ _ _ false H.out _).mono ?_; rintro e w' ⟨rfl, n, rfl⟩)
  go_ret2
  exact ⟨rfl, _, rfl⟩
set_option maxHeartbeats 400000 in
theorem impl_yes (n : Int) (h : inB n 0 65002 = true) (h0 : 0 ≤ n) (h1 : n < 65003) (s : ByteArray) (hs : s.size ≤ maxLen) (w : World) :
    Calls Try.prog 25 #[.int .i64 n, .string s] w (Ret (.tuple #[.int .i64 (check n s.data.toList), .bool true]) w) := by
  have H := hid h
  unfold maxLen at hs
  clear h
  go_enter Try.func25, Try.ntmps25
  go_wp2_with (first | (go_at_call 35; refine (within_is _ _ _ true H.out _).mono ?_; rintro e w' ⟨rfl, nd, rfl⟩))
  go_loop [0, 12] (fun a i => ∃ k : Nat, k ≤ s.size ∧ i = .int .i64 k ∧ a = .int .i64 (check n (s.data.toList.take k))) (fun _ i => s.size - (intOf i).toNat)
  case atStart => exact ⟨0, Nat.zero_le _, rfl, rfl⟩
  case round =>
    obtain ⟨k, hk, rfl, rfl⟩ := hrel
    obtain ⟨b0, b1⟩ := check_bounds n (s.data.toList.take k) h0 h1
    by_cases hlt : k < s.size
    · have Ht := hid (check_snoc n s k hlt)
      generalize check n (s.data.toList.take k) = c at *
      go_wp2
      go_round
      case rel => exact ⟨k + 1, hlt, by go_num, by rw [Ht.out, ← step_told c _ b0 b1]⟩
      case measure => simp [intOf]; omega
    · have He := hid (check_end n s k (by omega))
      go_wp2
      go_ret2
      exact ⟨by rw [← He.out]; rfl, _, rfl⟩
theorem walk (n : Int) (hn : (Lit.int .i64 n).wf = true) (s : ByteArray) (hs : s.size ≤ maxLen) (w : World) : Calls Try.prog 10 #[.int .i64 n, .string s] w fun e w' => e = .returned (.bool true) ∧ Below w.heap.size w w' := by
  have Hs := hid hs
  unfold maxLen at hs
  clear hn
  by_cases h : 0 ≤ n ∧ n ≤ 65002
  · obtain ⟨h0, h1⟩ := h
    have H := hid (inB_yes h0 h1)
    go_enter Try.func10, Try.ntmps10
    go_wp2_with (first | (go_at_call 24; refine (spec_yes _ H.out (by omega) (by omega) _ Hs.out _).mono ?_; rintro e w' ⟨rfl, n, rfl⟩) | (go_at_call 25; refine (impl_yes _ H.out (by omega) (by omega) _ Hs.out _).mono ?_; rintro e w' ⟨rfl, n, rfl⟩))
    · go_ret
      exact ⟨rfl, Below.refl _ _⟩
    · go_ret
      exact ⟨rfl, below_drewN (Below.refl _ _) _⟩
  · have H := hid (inB_no (n := n) (lo := 0) (hi := 65002) (by omega))
    clear h
    go_enter Try.func10, Try.ntmps10
    go_wp2_with (first | (go_at_call 24; refine (spec_no _ H.out _ _).mono ?_; rintro e w' ⟨rfl, n, rfl⟩) | (go_at_call 25; refine (impl_no _ H.out _ _).mono ?_; rintro e w' ⟨rfl, n, rfl⟩))
    · go_ret
      exact ⟨rfl, Below.refl _ _⟩
    · go_ret
      exact ⟨rfl, below_drewN (Below.refl _ _) _⟩
end Go.Proofs.Ytjmgkoccplenpaa.fnExactCheckOf
