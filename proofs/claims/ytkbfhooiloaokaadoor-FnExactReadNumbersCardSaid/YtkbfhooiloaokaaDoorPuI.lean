/-
  The library's ParseUint at base 16 and 32 bits, of texts of 8 bytes, walked: there is no contract at that base.
-/
import Derived.Test.YtkbfhooiloaokaaDoorHexS
import Derived.Lib.ConvBytes
import Derived.Lib.Hide
import Derived.BigCall
import Derived.BigGuard
namespace Go.Proofs.YtkbfhooiloaokaaDoor.Num
open Go.RowKit Go.Proofs.Fl Go.Proofs.Hx
set_option linter.unusedVariables false
set_option linter.unusedSimpArgs false
def lowOk (c : Fin 256) : Bool :=
  match digU (UInt8.ofNat c.val) with
  | some d => decide ((48 ≤ c.val ∧ c.val ≤ 57 ∧ d = c.val - 48) ∨ (¬ (48 ≤ c.val ∧ c.val ≤ 57) ∧ 97 ≤ c.val ||| 32 ∧ c.val ||| 32 ≤ 102 ∧ d = (c.val ||| 32) - 87))
  | none => decide (¬ (48 ≤ c.val ∧ c.val ≤ 57) ∧ (c.val ||| 32 < 97 ∨ 102 < c.val ||| 32))
theorem lowTab : ∀ c : Fin 256, lowOk c = true := by decide +kernel
theorem low_some {c : UInt8} {d : Nat} (h : digU c = some d) : (48 ≤ c.toNat ∧ c.toNat ≤ 57 ∧ d = c.toNat - 48) ∨ (¬ (48 ≤ c.toNat ∧ c.toNat ≤ 57) ∧ 97 ≤ c.toNat ||| 32 ∧ c.toNat ||| 32 ≤ 102 ∧ d = (c.toNat ||| 32) - 87) := by
  have := lowTab ⟨c.toNat, c.toNat_lt⟩
  unfold lowOk at this
  rw [show UInt8.ofNat c.toNat = c by simp, h] at this
  exact of_decide_eq_true this
theorem low_none {c : UInt8} (h : digU c = none) : ¬ (48 ≤ c.toNat ∧ c.toNat ≤ 57) ∧ (c.toNat ||| 32 < 97 ∨ 102 < c.toNat ||| 32) := by
  have := lowTab ⟨c.toNat, c.toNat_lt⟩
  unfold lowOk at this
  rw [show UInt8.ofNat c.toNat = c by simp, h] at this
  exact of_decide_eq_true this
theorem or32 (c : UInt8) : bits .or .u8 (c.toNat : Int) 32 = ((c.toNat ||| 32 : Nat) : Int) ∧ c.toNat ||| 32 < 256 := by
  have : ∀ c : Fin 256, bits .or .u8 ((c.val : Nat) : Int) 32 = ((c.val ||| 32 : Nat) : Int) ∧ c.val ||| 32 < 256 := by decide +kernel
  exact this ⟨c.toNat, c.toNat_lt⟩
theorem lower_is (c : Int) (w : World) : Calls Tryd.prog 95 #[.int .u8 c] w (fun e w' => e = .returned (.int .u8 (bits .or .u8 c 32)) ∧ w' = w) := by
  go_enter Tryd.func95, Tryd.ntmps95
  go_wp2
  go_ret
  exact ⟨rfl, rfl⟩
/-- how the parse ends: the number, or the form's error -/
def puEnd (o : Option Nat) : Value :=
  match o with
  | some u => .tuple #[.int .u64 (u : Int), .nilIface]
  | none => .tuple #[.int .u64 0, .iface 90 (.int .i64 2)]
set_option maxHeartbeats 32000000 in
set_option maxRecDepth 100000 in
theorem iParseUint_16 (t : ByteArray) (h8 : t.size = 8) (w : World) :
    Calls Tryd.prog 77 #[.string t, .int .i64 16, .int .i64 32] w fun e w' => e = .returned (puEnd (rdU t.data.toList)) ∧ w' = Lib.bytesWorld w 5 t := by
  have hemp : (t.toList.isEmpty) = false := by
    rw [ByteArray.toList_eq]
    have : t.data.toList.length = 8 := by simpa using h8
    cases h : t.data.toList with
    | nil => rw [h] at this; cases this
    | cons => rfl
  have hcv := Lib.run_convert_string_bytes (P := Tryd.prog) w 9 68 5 t (u := .string) Tryd.underlying9 Tryd.underlying68 Tryd.underlying5
  have hB : ∀ j, j < t.size → (Lib.bytesWorld w 5 t).cell? ⟨w.heap.size, j, none⟩ = some (.int .u8 (t.data.toList.getD j 0).toNat) := fun j hj => Lib.bytesWorld_cell w 5 t j hj
  obtain ⟨W1, hW1⟩ : ∃ W1, W1 = Lib.bytesWorld w 5 t := ⟨_, rfl⟩
  rw [← hW1] at hcv hB ⊢
  clear hW1
  obtain ⟨bs, hL⟩ : ∃ bs, bs = t.data.toList := ⟨_, rfl⟩
  have hLn : bs.length = 8 := by rw [hL]; simpa using h8
  rw [← hL] at hB ⊢
  clear hL
  rw [h8] at hcv hB
  have HB := hid hB
  clear hB
  have hmv : IntKind.u64.wrap (IntKind.u64.wrap 4294967296 - 1) = 4294967295 := by
    rw [IntKind.wrap_u64, IntKind.wrap_u64]
    decide
  unfold rdU
  go_enter Tryd.func77, Tryd.ntmps77
  go_wp2_with fail
  go_loop [12, 13, 101] (fun vu vn vi => ∃ (k acc : Nat) (a : Int), vu = .bool false ∧ vn = .int .u64 a ∧ vi = .int .i64 k ∧ k ≤ 8 ∧ Hid (a = (acc : Int) ∧ acc < 16 ^ k ∧ numBy digU 0 bs = numBy digU acc (bs.drop k)))
    (fun _ _ vi => 8 - (intOf vi).toNat)
  case atStart => exact ⟨0, 0, 0, rfl, rfl, rfl, by omega, rfl, by simp, rfl⟩
  case round =>
    obtain ⟨k, acc, a, rfl, rfl, rfl, hk, hh⟩ := hrel
    obtain ⟨ha, hacc, hdec⟩ := hh.out
    clear hh
    have a0 : 0 ≤ a := by omega
    by_cases hkn : k < 8
    · have hc := HB.out k hkn
      have hdrop : bs.drop k = bs[k]'(by omega) :: bs.drop (k + 1) := List.drop_eq_getElem_cons (by omega)
      have hget : bs.getD k 0 = bs[k]'(by omega) := by simp [List.getD, List.getElem?_eq_getElem (show k < bs.length by omega)]
      rw [hdrop] at hdec
      rw [hget] at hc
      generalize bs[k]'(by omega) = c at hc hdec
      have hc256 : c.toNat < 256 := c.toNat_lt
      obtain ⟨ho, ho256⟩ := or32 c
      simp only [numBy] at hdec
      cases hd : digU c with
      | some d =>
        rw [hd] at hdec
        have hs := low_some hd
        have h95 : 97 ≤ c.toNat ||| 32 → c.toNat ||| 32 ≤ 102 → ¬ (c.toNat : Int) = 95 := by
          intro _ h2 e
          have e2 : c.toNat = 95 := by omega
          rw [e2] at h2
          exact absurd h2 (by decide)
        have hnx : 16 * acc + d < 16 ^ (k + 1) := by
          have := digU_lt hd
          rw [Nat.pow_succ]
          omega
        have hp8 : 16 ^ (k + 1) ≤ 4294967296 := Nat.le_trans (Nat.pow_le_pow_right (by decide) (show k + 1 ≤ 8 by omega)) (by decide)
        have HN := hid (And.intro (show a * 16 + (d : Int) = ((16 * acc + d : Nat) : Int) by omega) (And.intro hnx hdec))
        have hb1 : 16 * acc + d ≤ 4294967295 := by omega
        have ha1 : a ≤ 268435455 := by omega
        have iov : a * 16 + (d : Int) ≤ 4294967295 := by omega
        clear hd hdrop hget hdec hnx hp8 hacc hb1
        generalize c.toNat ||| 32 = v at *
        rcases hs with ⟨h48, h57, hdd⟩ | ⟨hno, h97, h102, hdd⟩
        · clear h95
          have hdi : (d : Int) = (c.toNat : Int) - 48 := by omega
          rw [hdi] at iov HN
          have Hd := hid hdd
          clear hdd hdi ha ho ho256
          go_wp2_with fail
          refine ⟨⟨k + 1, 16 * acc + d, _, rfl, rfl, by go_num, by omega, HN.out⟩, by simp [intOf]; omega⟩
        · have hdi : (d : Int) = (v : Int) - 97 + 10 := by omega
          rw [hdi] at iov HN
          clear hdd hdi ha
          have h95' := h95 h97 h102
          clear h95
          by_cases h48 : 48 ≤ c.toNat
          · have h57 : ¬ c.toNat ≤ 57 := fun h => hno ⟨h48, h⟩
            clear hno
            go_wp2_with (go_at_call 95; refine (lower_is _ _).mono ?_; rintro e w' ⟨rfl, rfl⟩)
            refine ⟨⟨k + 1, 16 * acc + d, _, rfl, rfl, by go_num, by omega, HN.out⟩, by simp [intOf]; omega⟩
          · clear hno
            go_wp2_with (go_at_call 95; refine (lower_is _ _).mono ?_; rintro e w' ⟨rfl, rfl⟩)
            refine ⟨⟨k + 1, 16 * acc + d, _, rfl, rfl, by go_num, by omega, HN.out⟩, by simp [intOf]; omega⟩
      | none =>
        rw [hd] at hdec
        obtain ⟨hno, hlow⟩ := low_none hd
        have HD := hid hdec
        clear hd hdrop hget ha hacc hdec
        generalize c.toNat ||| 32 = v at *
        go_wp2_with (go_at_call 95; refine (lower_is _ _).mono ?_; rintro e w' ⟨rfl, rfl⟩)
        all_goals first | (exfalso; omega) | skip
        all_goals go_ret2
        all_goals exact ⟨by rw [HD.out]; rfl, rfl⟩
    · obtain rfl : k = 8 := by omega
      rw [List.drop_eq_nil_of_le (by omega)] at hdec
      simp only [numBy] at hdec
      have HD := hid hdec
      clear hdec hacc
      go_wp2_with fail
      go_ret2
      exact ⟨by rw [HD.out]; rfl, rfl⟩
end Go.Proofs.YtkbfhooiloaokaaDoor.Num
