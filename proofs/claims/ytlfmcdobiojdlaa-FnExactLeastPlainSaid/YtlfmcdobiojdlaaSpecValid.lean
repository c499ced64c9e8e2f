/-
  Valid plain machines, by the reference.
-/
import Derived.Test.YtlfmcdobiojdlaaValid
import Derived.IntWalk
namespace Go.Proofs.Ytlfmcdobiojdlaa.Num
open Go.RowKit Go.Proofs.Fl
set_option linter.unusedVariables false
set_option linter.unusedSimpArgs false
/-- a plain machine lies at block b -/
structure PlainAt (w : World) (b : Nat) (S L : Int) (A : Option Addr) (n c : Nat) (B : Option Addr) (m d : Nat) : Prop where
  c0 : w.cell? ⟨b, 0, none⟩ = some (.int .i64 S)
  c1 : w.cell? ⟨b, 1, none⟩ = some (.int .i64 L)
  c2 : w.cell? ⟨b, 2, none⟩ = some (.slice A n c)
  c3 : w.cell? ⟨b, 3, none⟩ = some (.slice B m d)
theorem PlainAt.drewN {w : World} {b : Nat} {S L : Int} {A : Option Addr} {n c : Nat} {B : Option Addr} {m d : Nat} (h : PlainAt w b S L A n c B m d) (k : Nat) : PlainAt (w.drewN k) b S L A n c B m d := ⟨h.c0, h.c1, h.c2, h.c3⟩
set_option maxHeartbeats 3200000 in
theorem l02Plain_calls (b : Nat) (S L : Int) (A : Option Addr) (n c : Nat) (B : Option Addr) (m d : Nat) (xs : List Int) (hx : xs.length = n) (hn : n ≤ 1048576) (hm : m ≤ 1048576) (w : World) (hp : PlainAt w b S L A n c B m d) (ha : Rd w w.heap.size A (i64s xs)) :
    Calls Try.prog 48 #[.pointer (some ⟨b, 0, none⟩)] w (Ret (.bool (validP S L n xs m)) w) := by
  have HX := hid hx
  have HA := hid ha
  have HP := hid hp
  have c0 := hp.c0
  have c1 := hp.c1
  have c2 := hp.c2
  have c3 := hp.c3
  clear hx ha hp
  cases h1 : inB S 1 64
  · have H1 := hid h1
    have HV := hid (show validP S L n xs m = false by simp [validP, h1])
    rw [HV.out]
    clear h1
    go_enter Try.func48, Try.ntmps48
    go_wp2_with fail
    go_quiet ((go_at_call 42; exact Calls.quiet_of (l00In_is _ _ _ _ H1.out _)))
    go_wp2
    go_ret
    exact ⟨rfl, _, rfl⟩
  · have b1 := inB_iff h1
    have H1 := hid h1
    cases h2 : inB L 1 4
    · have H2 := hid h2
      have HV := hid (show validP S L n xs m = false by simp [validP, h2])
      rw [HV.out]
      go_enter Try.func48, Try.ntmps48
      go_wp2_with fail
      go_quiet ((go_at_call 42; exact Calls.quiet_of (l00In_calls _ _ _ _)))
      go_wp2
      go_ret
      exact ⟨rfl, _, rfl⟩
    · have b2 := inB_iff h2
      have H2 := hid h2
      have b3 := mul_small b1 b2
      have hw : IntKind.i64.wrap (S * L) = S * L := IntWalk.i64_in _ (by omega)
      have hw64 : wrap64 (S * L) = S * L := by unfold wrap64; omega
      by_cases h3 : (n : Int) = S * L
      · have e3 : ((n : Int) != IntKind.i64.wrap (S * L)) = false := by rw [hw]; simpa using h3
        have e3w : ((n : Int) != wrap64 (S * L)) = false := by rw [hw64]; simpa using h3
        by_cases h5 : (m : Int) = S
        · have e5 : ((m : Int) != S) = false := by simpa using h5
          have HV := hid (show validP S L n xs m = allIn xs 0 (S - 1) by unfold validP; rw [h1, h2, decide_eq_true h3, decide_eq_true h5]; simp)
          have hw1 : IntKind.i64.wrap (S - 1) = S - 1 := IntWalk.i64_in _ (by omega)
          clear h3 h5 hw hw64 b3
          go_enter Try.func48, Try.ntmps48
          go_wp2_with fail
          go_quiet ((go_at_call 42; exact Calls.quiet_of (l00In_calls _ _ _ _)))
          go_wp2
          go_loopw [3] (fun i wr => ∃ k : Nat, k ≤ n ∧ i = .int .i64 k ∧ Hid (∃ q, wr = w.drewN q) ∧ Hid (allIn (xs.take k) 0 (S - 1) = true)) (fun i _ => n - (intOf i).toNat)
          case atStart => exact ⟨0, Nat.zero_le _, rfl, ⟨_, rfl⟩, rfl⟩
          case round =>
            clear c0 c1 c2 c3
            obtain ⟨k, hk, rfl, hw, hv⟩ := hrel
            have c0 : wr.cell? ⟨b, 0, none⟩ = some (.int .i64 S) := by obtain ⟨q, rfl⟩ := hw.out; exact HP.out.c0
            have c2 : wr.cell? ⟨b, 2, none⟩ = some (.slice A n c) := by obtain ⟨q, rfl⟩ := hw.out; exact HP.out.c2
            by_cases hlt : k < n
            · have hkx : k < xs.length := by have := HX.out; omega
              have HF := hid fun h1 => allIn_take hkx hv.out h1
              have HN := hid fun h1 => allIn_not (lo := 0) (hi := S - 1) hkx h1
              obtain ⟨b1, o1, rfl, hb1, hc1'⟩ := i64s_at HA.out hkx
              have hc1 : wr.cell? ⟨b1, o1 + k, none⟩ = some (.int .i64 xs[k]) := by obtain ⟨q, rfl⟩ := hw.out; exact hc1'
              clear hc1'
              generalize xs[k] = x at *
              have hki : ((k : Int) < (n : Int)) := by omega
              cases hb : inB x 0 (S - 1)
              · have HB := hid hb
                have HR := hid (HN.out hb)
                clear HF HN
                go_wp2_with fail
                go_quiet ((go_at_call 42; exact Calls.quiet_of (l00In_calls _ _ _ _)))
                go_wp2
                go_ret
                exact ⟨ret_bool (by rw [HV.out, HR.out]), by obtain ⟨q, rfl⟩ := hw.out; exact ⟨_, World.drewN_drewN _ _ _⟩⟩
              · have HB := hid hb
                have HR := hid (HF.out hb)
                clear HN HF
                go_wp2_with fail
                go_quiet ((go_at_call 42; exact Calls.quiet_of (l00In_calls _ _ _ _)))
                go_wp2
                go_roundw
                case rel => exact ⟨k + 1, hlt, by go_num, by obtain ⟨q, rfl⟩ := hw.out; exact ⟨_, World.drewN_drewN _ _ _⟩, HR.out⟩
                case measure => simp [intOf]; omega
            · have HE := hid (allIn_end HX.out (by omega) hv.out)
              clear hv
              go_wp2
              go_ret
              exact ⟨ret_bool (by rw [HV.out, HE.out]), by obtain ⟨q, rfl⟩ := hw.out; exact ⟨q, rfl⟩⟩
        · have e5 : ((m : Int) != S) = true := by simpa using h5
          have HV := hid (show validP S L n xs m = false by unfold validP; rw [decide_eq_false h5]; simp)
          rw [HV.out]
          clear h3 h5 hw hw64 b3
          go_enter Try.func48, Try.ntmps48
          go_wp2_with fail
          go_quiet ((go_at_call 42; exact Calls.quiet_of (l00In_calls _ _ _ _)))
          go_wp2
          go_ret
          exact ⟨rfl, _, rfl⟩
      · have e3 : ((n : Int) != IntKind.i64.wrap (S * L)) = true := by rw [hw]; simpa using h3
        have e3w : ((n : Int) != wrap64 (S * L)) = true := by rw [hw64]; simpa using h3
        have HV := hid (show validP S L n xs m = false by unfold validP; rw [decide_eq_false h3]; simp)
        rw [HV.out]
        clear h3 hw hw64 b3
        go_enter Try.func48, Try.ntmps48
        go_wp2_with fail
        go_quiet ((go_at_call 42; exact Calls.quiet_of (l00In_calls _ _ _ _)))
        go_wp2
        go_ret
        exact ⟨rfl, _, rfl⟩
theorem specValid_calls (S L : Int) (A : Option Addr) (n c : Nat) (B : Option Addr) (m d : Nat) (xs : List Int) (hx : xs.length = n) (hn : n ≤ 1048576) (hm : m ≤ 1048576) (w : World) (ha : Rd w w.heap.size A (i64s xs)) :
    Calls Try.prog 18 #[.agg #[.int .i64 S, .int .i64 L, .slice A n c, .slice B m d]] w (RetG (.bool (validP S L n xs m)) w) := by
  have HX := hid hx
  have HA := hid ha
  clear hx ha
  go_enter Try.func18, Try.ntmps18
  go_wp2_with fail
  refine (l02Plain_calls w.heap.size S L A n c B m d xs HX.out hn hm _ ⟨by go_simp, by go_simp, by go_simp, by go_simp⟩ (rd_alloc HA.out _)).mono ?_
  rintro e w' ⟨rfl, q, rfl⟩
  go_wp2
  go_ret
  exact ⟨rfl, below_drewN ((Below.refl _ _).alloc (Nat.le_refl _) _) _⟩
end Go.Proofs.Ytlfmcdobiojdlaa.Num
