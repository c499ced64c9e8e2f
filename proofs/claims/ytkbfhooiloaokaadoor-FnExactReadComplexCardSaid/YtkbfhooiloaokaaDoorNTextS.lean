/-
  The text of a list of float32: the reference (l01NText, NumbersText).
-/
import Derived.Test.YtkbfhooiloaokaaDoorHexS
import Derived.Test.YtkbfhooiloaokaaDoorFew
namespace Go.Proofs.YtkbfhooiloaokaaDoor.Num
open Go.RowKit Go.Proofs.Fl Go.Proofs.Hx Go.Proofs.Tx
open Go.Lib (join)
set_option linter.unusedVariables false
set_option linter.unusedSimpArgs false
/-- the digits of a number's bits -/
def hexT (x : Nat) : List UInt8 := hex8 (cn .f32 x)
theorem hexT_len (x : Nat) : (hexT x).length = 8 := hex8_length _
theorem hexT_le (xs : List Nat) : ∀ t ∈ xs.map hexT, t.length ≤ 8 := by
  intro t ht
  obtain ⟨z, _, rfl⟩ := List.mem_map.1 ht
  exact Nat.le_of_eq (hexT_len z)
def numText (xs : List Nat) : Option (List UInt8) := if xs.length ≤ 256 then some (textJ (xs.map hexT)) else none
theorem nhead_step {xs : List Nat} {k : Nat} (h : k + 1 < xs.length) : headJ (xs.map hexT) (k + 1) = headJ (xs.map hexT) k ++ (44 :: hexT xs[k + 1]) := headJ_succ _ _ _ (by simp [List.getElem?_eq_getElem h])
theorem nhead_start {xs : List Nat} (h : 0 < xs.length) : headJ (xs.map hexT) 0 = hexT xs[0] := by
  cases xs with
  | nil => simp at h
  | cons z r => exact headJ_zero _ _
theorem nhead_end {xs : List Nat} {k : Nat} (h : xs.length ≤ k + 1) (h0 : 0 < xs.length) : headJ (xs.map hexT) k = textJ (xs.map hexT) := headJ_all _ _ (by simpa using h) (by intro e; simp at e; subst e; simp at h0)
set_option maxRecDepth 100000 in
set_option maxHeartbeats 800000 in
theorem l01NText_calls (A : Option Addr) (n c : Nat) (xs : List Nat) (hz : xs.length = n) (hn : n ≤ 256) (hok : ∀ x ∈ xs, x < 4294967296) (w : World) (ha : Rd w w.heap.size A (f32s xs)) :
    Calls Tryd.prog 47 #[.slice A n c] w (RetStr (textJ (xs.map hexT)) w) := by
  have HZ := hid hz
  have HR := hid ha
  have HL := hid (fun k => headJ_le 8 (xs.map hexT) k (hexT_le xs))
  have HM := hid hok
  clear hz ha hok
  by_cases h0 : n = 0
  · subst h0
    have HT := hid (show textJ (xs.map hexT) = none4 by rw [List.length_eq_zero_iff.1 HZ.out]; rfl)
    go_enter Tryd.func47, Tryd.ntmps47
    go_wp2
    go_ret
    exact ⟨by rw [HT.out]; rfl, Below.refl _ _⟩
  · have hz0 : 0 < xs.length := by have := HZ.out; omega
    have HS := hid (nhead_start hz0)
    obtain ⟨b1, o1, rfl, hb1, hc1⟩ := f32s_at HR.out hz0
    rw [Nat.add_zero] at hc1
    have hm := HM.out _ (List.getElem_mem hz0)
    have hn0 : ((n : Int) == 0) = false := by simp; omega
    generalize xs[0] = z0 at *
    have HD := hid (l01Hex_calls z0 hm)
    rw [show hex8 (cn .f32 z0) = hexT z0 from rfl] at HD
    clear hm hz0
    go_enter Tryd.func47, Tryd.ntmps47
    go_wp2_with (go_at_call 63; refine (HD.out _).mono ?_; rintro e w1 ⟨rfl, hb⟩; have HB1 := hid hb; clear hb)
    go_loopw [3, 4] (fun o i wr => ∃ k : Nat, k < n ∧ i = .int .i64 ((k + 1 : Nat) : Int) ∧ o = .string ⟨(headJ (xs.map hexT) k).toArray⟩ ∧ Hid (Below w.heap.size w wr)) (fun _ i _ => n + 1 - (intOf i).toNat)
    case atStart => exact ⟨0, by omega, rfl, by rw [HS.out], HB1⟩
    case round =>
      obtain ⟨k, hk, rfl, rfl, hbel⟩ := hrel
      have hl1 := HL.out k
      have hl2 := HL.out (k + 1)
      rw [List.length_map, HZ.out] at hl1 hl2
      by_cases hlt : k + 1 < n
      · have hkx : k + 1 < xs.length := by have := HZ.out; omega
        have hst := nhead_step hkx
        have hm := HM.out _ (List.getElem_mem hkx)
        obtain ⟨b2, o2, hAe, hb2, hc2⟩ := f32s_at (HR.out.below hbel.out) hkx
        simp only [Option.some.injEq, Addr.mk.injEq, and_true] at hAe
        obtain ⟨rfl, rfl⟩ := hAe
        generalize xs[k + 1] = z at *
        have HD2 := hid (l01Hex_calls z hm)
        rw [show hex8 (cn .f32 z) = hexT z from rfl] at HD2
        clear hm
        rw [hst] at hl2
        have HST := hid hst
        clear hst
        generalize headJ (xs.map hexT) k = lh at *
        generalize hexT z = li at *
        simp only [List.length_append, List.length_cons] at hl2
        go_wp2_with (go_at_call 63; refine (HD2.out _).mono ?_; rintro e w2 ⟨rfl, hb⟩; have HB2 := hid hb; clear hb)
        go_roundw
        case rel => exact ⟨k + 1, hlt, by go_num, by rw [HST.out, show (⟨#[44]⟩ : ByteArray) = ⟨([44] : List UInt8).toArray⟩ from rfl, mk_append, mk_append]; rfl, hbel.out.trans (HB2.out.mono hbel.out.size)⟩
        case measure => simp [intOf]; omega
      · have HE := hid (nhead_end (xs := xs) (k := k) (by have := HZ.out; omega) (by have := HZ.out; omega))
        go_wp2
        go_ret
        exact ⟨by rw [← HE.out]; rfl, hbel.out⟩
theorem sNumbersText_calls (A : Option Addr) (n c : Nat) (xs : List Nat) (hz : xs.length = n) (hok : ∀ x ∈ xs, x < 4294967296) (w : World) (ha : Rd w w.heap.size A (f32s xs)) :
    Calls Tryd.prog 22 #[.slice A n c] w (RetText (numText xs) w) := by
  by_cases h : n ≤ 256
  · have HL := hid (show numText xs = some (textJ (xs.map hexT)) by unfold numText; rw [if_pos (by omega)])
    have HT := hid (fun m => l01NText_calls A n c xs hz h hok (w.drewN m) (ha.drewN m))
    have HD := hid (show decide (n ≤ 256) = true by simp [h])
    clear hz ha hok
    go_enter Tryd.func22, Tryd.ntmps22
    go_wp2_with (first | (go_at_call 46; refine (l01Few_is _ _ _ true HD.out _).mono ?_; rintro e w' ⟨rfl, q, rfl⟩) | (go_at_call 47; refine (HT.out _).mono ?_; rintro e w2 ⟨rfl, hb⟩; have HB := hid hb; clear hb))
    go_ret2
    exact ⟨by rw [HL.out]; rfl, below_drewN' HB.out⟩
  · have HL := hid (show numText xs = none by unfold numText; rw [if_neg (by omega)])
    have HD := hid (show decide (n ≤ 256) = false by simp [h])
    clear hz ha hok
    go_enter Tryd.func22, Tryd.ntmps22
    go_wp2_with (first | (go_at_call 46; refine (l01Few_is _ _ _ false HD.out _).mono ?_; rintro e w' ⟨rfl, q, rfl⟩))
    go_ret2
    exact ⟨by rw [HL.out]; rfl, below_drewN (Below.refl _ _) _⟩
end Go.Proofs.YtkbfhooiloaokaaDoor.Num
