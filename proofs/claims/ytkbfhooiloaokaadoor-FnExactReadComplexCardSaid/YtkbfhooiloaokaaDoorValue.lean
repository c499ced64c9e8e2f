/-
  The reference's number with a decimal text (l01Value).
-/
import Derived.Test.YtkbfhooiloaokaaDoorDecW
import Derived.Test.YtkbfhooiloaokaaDoorWithin
namespace Go.Proofs.YtkbfhooiloaokaaDoor.Num
open Go.RowKit Go.Proofs.Fl Go.Proofs.Dc
open Go.Lib (itoa)
set_option linter.unusedVariables false
set_option linter.unusedSimpArgs false
def RetRd (r : Option Int) (w : World) (e : Ending) (w' : World) : Prop := e = .returned (.tuple #[.int .i64 (r.getD 0), .bool r.isSome]) ∧ Below w.heap.size w w'
theorem arr_eq (s : ByteArray) (l : List UInt8) : ((⟨l.toArray⟩ : ByteArray) = s) ↔ l = s.data.toList := by
  constructor
  · rintro rfl; rfl
  · rintro rfl; rfl
theorem head_eq (s : ByteArray) (h : 0 < s.size) : (s.data.toList.head? = some 45) ↔ s[0] = 45 := by
  have hl : 0 < s.data.toList.length := by simpa using h
  have : s.data.toList.head? = some (s[0]) := by
    rw [List.head?_eq_getElem?, List.getElem?_eq_getElem hl]
    rfl
  rw [this]
  simp
theorem val_told (s : ByteArray) (k : Nat) (h : k < s.size) : valD (s.data.toList.take (k + 1)) = valStep (valD (s.data.toList.take k)) s[k] := val_snoc s.data.toList k (by simpa using h)
theorem val_all (s : ByteArray) (k : Nat) (h : s.size ≤ k) : s.data.toList.take k = s.data.toList := List.take_of_length_le (by simpa using h)
theorem below_drewN' {w w1 : World} {n : Nat} (h : Below (w.drewN n).heap.size (w.drewN n) w1) : Below w.heap.size w w1 := ⟨h.os, h.tape, h.output, h.size, h.block⟩
set_option maxRecDepth 100000 in
set_option maxHeartbeats 1600000 in
theorem l01Value_calls (s : ByteArray) (w : World) (hs : s.size ≤ 1048576) :
    Calls Tryd.prog 37 #[.string s] w (RetRd (rdDec s.data.toList) w) := by
  by_cases hlen : 1 ≤ s.size ∧ s.size ≤ 17
  · obtain ⟨h1, h17⟩ := hlen
    go_enter Tryd.func37, Tryd.ntmps37
    go_wp2_with fail
    go_loopw [4, 5] (fun n i wr => ∃ k m : Nat, k ≤ s.size ∧ i = .int .i64 k ∧ n = .int .i64 (m : Int) ∧ Hid (m = valD (s.data.toList.take k)) ∧ wr = w) (fun _ i _ => s.size - (intOf i).toNat)
    case atStart => exact ⟨0, 0, Nat.zero_le _, rfl, rfl, rfl, rfl⟩
    case round =>
      obtain ⟨k, m, hk, rfl, rfl, hm, rfl⟩ := hrel
      have hmb : m < 100000000000000000 := by
        rw [hm.out]
        exact Nat.lt_of_lt_of_le (val_bound s.data.toList k) (Nat.le_trans (Nat.pow_le_pow_right (by omega) (Nat.le_trans hk h17)) (by decide))
      by_cases hlt : k < s.size
      · have Ht := hid (val_told s k hlt)
        rw [← hm.out] at Ht
        have hc := s[k].toNat_lt
        obtain ⟨c, hsk⟩ : ∃ c, s[k] = c := ⟨_, rfl⟩
        rw [hsk] at Ht hc
        by_cases hd : 48 ≤ c.toNat ∧ c.toNat ≤ 57
        · obtain ⟨hd0, hd1⟩ := hd
          have HV := hid (show valStep m c = 10 * m + (c.toNat - 48) by unfold valStep; rw [if_pos (by simp only [isDig, decide_eq_true_eq]; omega)])
          go_wp2_with fail
          go_roundw
          case rel => exact ⟨k + 1, 10 * m + (c.toNat - 48), hlt, by go_num, by go_num, by rw [Ht.out, HV.out]; rfl, trivial⟩
          case measure => simp [intOf]; omega
        · have HV := hid (show valStep m c = m by unfold valStep; rw [if_neg (by simp only [isDig, decide_eq_true_eq]; exact hd)])
          go_wp2_with fail
          all_goals
            go_roundw
            case rel => exact ⟨k + 1, m, hlt, by go_num, rfl, by rw [Ht.out, HV.out]; rfl, trivial⟩
            case measure => simp [intOf]; omega
      · have hkk : k = s.size := by omega
        have HM := hid (show m = valD s.data.toList by rw [hm.out, val_all s k (by omega)])
        clear hm hlt hk
        subst hkk
        obtain ⟨v, hv⟩ : ∃ v, v = intOfL s.data.toList := ⟨_, rfl⟩
        obtain ⟨c, hsk⟩ : ∃ c, s[0] = c := ⟨_, rfl⟩
        have hhd := head_eq s (by omega)
        rw [hsk] at hhd
        have HI := hid (show v = if c = 45 then -(m : Int) else (m : Int) by rw [hv, HM.out]; unfold intOfL; simp only [hhd])
        have HR := hid (show rdDec s.data.toList = if (-1000000000000000 ≤ v ∧ v ≤ 1000000000000000) ∧ itoa v = s.data.toList then some v else none by rw [hv]; rfl)
        clear hhd hv
        by_cases h45 : c = 45
        · have h45' : (c == 45) = true := by rw [h45]; rfl
          rw [if_pos h45] at HI
          obtain rfl := HI.out
          by_cases hin : -1000000000000000 ≤ -(m : Int) ∧ -(m : Int) ≤ 1000000000000000
          · have HB := hid (inB_yes hin.1 hin.2)
            have HD := hid (l01Dec_calls (-(m : Int)) (by omega) (by omega))
            generalize itoa (-(m : Int)) = l at *
            by_cases hl : l = s.data.toList
            · rw [if_pos ⟨hin, hl⟩] at HR
              have hse : (l == s.toList) = true := by rw [ByteArray.toList_eq, hl]; exact beq_self_eq_true _
              clear hl hin
              go_wp2_with (first | (go_at_call 58; refine (l00In_is _ _ _ _ HB.out _).mono ?_; rintro e w1 ⟨rfl, nd, rfl⟩) | (go_at_call 35; refine (HD.out _).mono ?_; rintro e w1 ⟨rfl, hb⟩; have HW := hid hb; clear hb))
              go_ret2
              exact ⟨by rw [HR.out]; rfl, below_drewN' HW.out⟩
            · rw [if_neg (fun h => hl h.2)] at HR
              have hse : (l == s.toList) = false := by rw [ByteArray.toList_eq]; simpa using hl
              clear hl hin
              go_wp2_with (first | (go_at_call 58; refine (l00In_is _ _ _ _ HB.out _).mono ?_; rintro e w1 ⟨rfl, nd, rfl⟩) | (go_at_call 35; refine (HD.out _).mono ?_; rintro e w1 ⟨rfl, hb⟩; have HW := hid hb; clear hb))
              go_ret2
              exact ⟨by rw [HR.out]; rfl, below_drewN' HW.out⟩
          · have HB := hid (inB_no (n := -(m : Int)) (lo := -1000000000000000) (hi := 1000000000000000) (by omega))
            rw [if_neg (fun h => hin h.1)] at HR
            clear hin
            go_wp2_with (first | (go_at_call 58; refine (l00In_is _ _ _ _ HB.out _).mono ?_; rintro e w1 ⟨rfl, nd, rfl⟩))
            go_ret2
            exact ⟨by rw [HR.out]; rfl, below_drewN (Below.refl _ _) _⟩
        · have h45n : ¬ (c.toNat : Int) = 45 := fun e => h45 (UInt8.toNat_inj.1 (by rw [show (45 : UInt8).toNat = 45 from rfl]; omega))
          have h45' : ((c.toNat : Int) == 45) = false := by simpa using h45n
          rw [if_neg h45] at HI
          obtain rfl := HI.out
          by_cases hin : -1000000000000000 ≤ (m : Int) ∧ (m : Int) ≤ 1000000000000000
          · have HB := hid (inB_yes hin.1 hin.2)
            have HD := hid (l01Dec_calls ((m : Int)) (by omega) (by omega))
            generalize itoa ((m : Int)) = l at *
            by_cases hl : l = s.data.toList
            · rw [if_pos ⟨hin, hl⟩] at HR
              have hse : (l == s.toList) = true := by rw [ByteArray.toList_eq, hl]; exact beq_self_eq_true _
              clear hl hin
              go_wp2_with (first | (go_at_call 58; refine (l00In_is _ _ _ _ HB.out _).mono ?_; rintro e w1 ⟨rfl, nd, rfl⟩) | (go_at_call 35; refine (HD.out _).mono ?_; rintro e w1 ⟨rfl, hb⟩; have HW := hid hb; clear hb))
              go_ret2
              exact ⟨by rw [HR.out]; rfl, below_drewN' HW.out⟩
            · rw [if_neg (fun h => hl h.2)] at HR
              have hse : (l == s.toList) = false := by rw [ByteArray.toList_eq]; simpa using hl
              clear hl hin
              go_wp2_with (first | (go_at_call 58; refine (l00In_is _ _ _ _ HB.out _).mono ?_; rintro e w1 ⟨rfl, nd, rfl⟩) | (go_at_call 35; refine (HD.out _).mono ?_; rintro e w1 ⟨rfl, hb⟩; have HW := hid hb; clear hb))
              go_ret2
              exact ⟨by rw [HR.out]; rfl, below_drewN' HW.out⟩
          · have HB := hid (inB_no (n := (m : Int)) (lo := -1000000000000000) (hi := 1000000000000000) (by omega))
            rw [if_neg (fun h => hin h.1)] at HR
            clear hin
            go_wp2_with (first | (go_at_call 58; refine (l00In_is _ _ _ _ HB.out _).mono ?_; rintro e w1 ⟨rfl, nd, rfl⟩))
            go_ret2
            exact ⟨by rw [HR.out]; rfl, below_drewN (Below.refl _ _) _⟩
  · have HR := hid (rdDec_len (l := s.data.toList) (by simpa using hlen))
    by_cases h1 : s.size < 1
    · go_enter Tryd.func37, Tryd.ntmps37
      go_wp2_with fail
      go_ret2
      exact ⟨by rw [HR.out]; rfl, Below.refl _ _⟩
    · go_enter Tryd.func37, Tryd.ntmps37
      go_wp2_with fail
      go_ret2
      exact ⟨by rw [HR.out]; rfl, Below.refl _ _⟩
end Go.Proofs.YtkbfhooiloaokaaDoor.Num
