/-
  The run of a plain machine over a word, by the reference.
-/
import Derived.Test.YtlfmcdobiojdlaaRun
namespace Go.Proofs.Ytlfmcdobiojdlaa.Num
open Go.RowKit Go.Proofs.Fl
set_option linter.unusedVariables false
set_option linter.unusedSimpArgs false
set_option maxHeartbeats 3200000 in
theorem l02At_calls (b : Nat) (S L : Int) (A : Option Addr) (n c : Nat) (B : Option Addr) (m d : Nat) (xs : List Int) (hx : xs.length = n) (hn : n ≤ 1048576) (hp : PlainOk S L n xs m)
    (E : Option Addr) (q f : Nat) (word : List Int) (hq : word.length = q) (hqn : q ≤ 1048576) (hw : allIn word 0 (L - 1) = true) (r : Nat) (hr : runP xs L word = (r : Int)) (w : World)
    (hpa : PlainAt w b S L A n c B m d) (ha : Rd w w.heap.size A (i64s xs)) (hwd : Rd w w.heap.size E (i64s word)) :
    Calls Try.prog 76 #[.pointer (some ⟨b, 0, none⟩), .slice E q f] w (Ret (.int .i64 (r : Int)) w) := by
  have HX := hid hx
  have HQ := hid hq
  have HA := hid ha
  have HE := hid hwd
  have HP := hid hp
  have HW := hid hw
  have HR := hid hr
  have HPA := hid hpa
  have HRUN := hid fun k hk => runs_at hp hx hw k hk
  clear hx hq ha hwd hp hw hr hpa
  go_enter Try.func76, Try.ntmps76
  go_wp2
  go_loopw [5, 6] (fun st i wr => ∃ k : Nat, k ≤ q ∧ i = .int .i64 k ∧ st = .int .i64 (runP xs L (word.take k)) ∧ Hid (∃ j, wr = w.drewN j)) (fun _ i _ => q - (intOf i).toNat)
  case atStart => exact ⟨0, Nat.zero_le _, rfl, rfl, ⟨0, rfl⟩⟩
  case round =>
    obtain ⟨k, hk, rfl, rfl, hdr⟩ := hrel
    by_cases hlt : k < q
    · have hkx : k < word.length := by have := HQ.out; omega
      obtain ⟨i, v, ho⟩ := step_ok HP.out HX.out (HRUN.out k (by omega)) (allIn_get HW.out hkx)
      have HS := hid ((runP_snoc xs L word k hkx).trans ho.r)
      obtain ⟨b1, o1, rfl, hb1, hc1'⟩ := i64s_at HE.out hkx
      obtain ⟨b2, o2, rfl, hb2, hc2'⟩ := i64s_at HA.out ho.lx
      have hv : xs[i]'ho.lx = v := by have := ho.at_; rw [List.getElem?_eq_getElem ho.lx] at this; exact Option.some.inj this
      rw [hv] at hc2'
      have c1 : wr.cell? ⟨b, 1, none⟩ = some (.int .i64 L) := by obtain ⟨j, rfl⟩ := hdr.out; exact HPA.out.c1
      have c2 : wr.cell? ⟨b, 2, none⟩ = some (.slice (some ⟨b2, o2, none⟩) n c) := by obtain ⟨j, rfl⟩ := hdr.out; exact HPA.out.c2
      have hc1 : wr.cell? ⟨b1, o1 + k, none⟩ = some (.int .i64 word[k]) := by obtain ⟨j, rfl⟩ := hdr.out; exact hc1'
      have hc2 : wr.cell? ⟨b2, o2 + i, none⟩ = some (.int .i64 v) := by obtain ⟨j, rfl⟩ := hdr.out; exact hc2'
      have w1 := ho.w1
      have w2 := ho.w2
      have hi : (i : Int) < (n : Int) := by have := ho.lt; omega
      have hki : (k : Int) < (q : Int) := by omega
      have W1 : IntKind.i64.wrap (runP xs L (word.take k) * L) = runP xs L (word.take k) * L := by rw [IntKind.wrap_i64]; have := ho.w1; unfold wrap64 at this; omega
      have W2 : IntKind.i64.wrap (runP xs L (word.take k) * L + word[k]) = (i : Int) := by rw [IntKind.wrap_i64]; have := ho.w2; unfold wrap64 at this; omega
      clear ho hv hc1' hc2'
      generalize word[k] = l at *
      generalize runP xs L (word.take k) = st at *
      go_wp2_with fail
      go_quiet (fail)
      go_wp2
      go_roundw
      case rel => exact ⟨k + 1, hlt, by go_num, by rw [HS.out], by obtain ⟨j, rfl⟩ := hdr.out; exact ⟨_, World.drewN_drewN _ _ _⟩⟩
      case measure => simp [intOf]; omega
    · have HE2 := hid ((run_end xs L HQ.out (show q ≤ k by omega)).trans HR.out)
      rw [HE2.out]
      go_wp2
      go_ret
      exact ⟨rfl, by obtain ⟨j, rfl⟩ := hdr.out; exact ⟨j, rfl⟩⟩
set_option maxHeartbeats 1600000 in
theorem l02Run_calls (b : Nat) (S L : Int) (A : Option Addr) (n c : Nat) (B : Option Addr) (m d : Nat) (xs : List Int) (bs : List Bool) (hx : xs.length = n) (hb : bs.length = m) (hn : n ≤ 1048576) (hp : PlainOk S L n xs m)
    (E : Option Addr) (q f : Nat) (word : List Int) (hq : word.length = q) (hqn : q ≤ 1048576) (hw : allIn word 0 (L - 1) = true) (r : Nat) (hr : runP xs L word = (r : Int)) (hrb : r < bs.length) (w : World)
    (hpa : PlainAt w b S L A n c B m d) (ha : Rd w w.heap.size A (i64s xs)) (hbs : Rd w w.heap.size B (bools bs)) (hwd : Rd w w.heap.size E (i64s word)) :
    Calls Try.prog 54 #[.pointer (some ⟨b, 0, none⟩), .slice E q f] w (Ret (.bool bs[r]) w) := by
  obtain ⟨b2, o2, rfl, hb2, hc2⟩ := bools_at hbs hrb
  have HC := hid fun j => l02At_calls b S L A n c (some ⟨b2, o2, none⟩) m d xs hx hn hp E q f word hq hqn hw r hr (w.drewN j) (hpa.drewN j) (ha.drewN j) (hwd.drewN j)
  have c3 := hpa.c3
  have hi : (r : Int) < (m : Int) := by omega
  clear hx hb hq ha hwd hp hw hr hpa hbs
  go_enter Try.func54, Try.ntmps54
  go_wp2_with fail
  go_quiet ((go_at_call 76; exact Calls.quiet_of (HC.out _)))
  go_wp2
  go_ret
  exact ⟨rfl, _, rfl⟩
end Go.Proofs.Ytlfmcdobiojdlaa.Num
