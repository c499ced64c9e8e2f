/-
  The text of a list of float32: the program (NumbersText).
-/
import Derived.Test.YtkbfhooiloaokaaDoorHexOf
import Derived.Test.YtkbfhooiloaokaaDoorNTextS
namespace Go.Proofs.YtkbfhooiloaokaaDoor.Num
open Go.RowKit Go.Proofs.Fl Go.Proofs.Hx Go.Proofs.Tx
open Go.Lib (join)
set_option linter.unusedVariables false
set_option linter.unusedSimpArgs false
set_option maxRecDepth 100000 in
set_option maxHeartbeats 1600000 in
theorem NumbersText_calls (A : Option Addr) (n c : Nat) (xs : List Nat) (hz : xs.length = n) (hn : n ≤ 1048576) (hok : ∀ x ∈ xs, x < 4294967296) (w : World) {B : Nat} (hB : B ≤ w.heap.size) (ha : Rd w w.heap.size A (f32s xs)) (hD : Deb B w) :
    Calls Tryd.prog 24 #[.slice A n c] w (RetText (numText xs) w) := by
  by_cases h256 : n ≤ 256
  · obtain ⟨i0, hi0, hz0, hz1, hz2⟩ := info_parts1 str_info
    have HNT := hid (show numText xs = some (textJ (xs.map hexT)) by unfold numText; rw [if_pos (by omega)])
    have HZ := hid hz
    have HR := hid ha
    have HM := hid hok
    have HL := hid (join_le 8 (xs.map hexT) (hexT_le xs))
    have HDB := hid (fun w' (h : Below w.heap.size w w') => hD.on (h.mono hB))
    have HBs := hid hB
    clear hz ha hok hD hB
    go_enter Tryd.func24, Tryd.ntmps24
    go_wp2_with fail
    go_loopw [4, 6, 13] (fun o q i wr => ∃ (k : Nat) (A2 : Option Addr) (c2 : Nat), k ≤ n ∧ i = .int .i64 k ∧ o = .slice A2 k c2 ∧ Hid (OwnT wr w.heap.size (.slice A2 k c2) k ((xs.map hexT).take k)) ∧ Hid (Below w.heap.size w wr)) (fun _ _ i _ => n - (intOf i).toNat)
    case atStart => exact ⟨0, _, 0, Nat.zero_le _, rfl, rfl, own_none (Nat.le_refl _), (Below.refl _ _).alloc (Nat.le_refl _) _⟩
    case round =>
      obtain ⟨k, A2, c2, hk, rfl, rfl, hown, hbel⟩ := hrel
      by_cases hlt : k < n
      · have hkx : k < xs.length := by have := HZ.out; omega
        have hm := HM.out _ (List.getElem_mem hkx)
        obtain ⟨b1, o1, rfl, hb1, hc1⟩ := f32s_at (HR.out.below hbel.out) hkx
        have hsn : (xs.map hexT).take (k + 1) = (xs.map hexT).take k ++ [hexT xs[k]] := by
          rw [List.take_succ_eq_append_getElem (by simpa using hkx)]
          simp
        have HSN := hid hsn
        clear hsn
        generalize xs[k] = z at *
        have hBw := Nat.le_trans HBs.out hbel.out.size
        have HD := hid (hexOf_calls z hm wr (B := B) hBw (HDB.out wr hbel.out))
        rw [show hex8 (cn .f32 z) = hexT z from rfl] at HD
        clear hm hBw
        generalize hexT z = li at *
        go_wp2_with (first
          | (go_at_call 48; refine HD.out.mono ?_; rintro e w2 ⟨rfl, hb⟩; have HB2 := hid hb; clear hb)
          | (at_builtin; refine wpList_append_lies _ rfl _ _ 57 rfl w.heap.size 9 i0 (Value.string ByteArray.empty) 1 16 Tryd.underlying57 hi0 hz0 hz1 hz2 rfl (by decide) (.slice A2 k c2) k (strs ((xs.map hexT).take k)) rfl ((own_step hown.out HB2.out).alloc _) ⟨_, 0, none⟩ 1 1 [.string ⟨li.toArray⟩] rfl rfl (str_new _ w.heap.size _) (strs_oneCell [li]) (by decide) (by unfold maxLen; omega) (by omega) (by simp; have := hbel.out.size; have := HB2.out.size; omega) _ rfl ?_; intro g2 c3 w5 hown2 hgrow hat hlt2; rw [strs_snoc, ← HSN.out] at hown2; have OW2 := hid hown2; have BL2 := hid (grown_below (hbel.out.trans (HB2.out.mono hbel.out.size)) (own_step hown.out HB2.out) hgrow); clear hown2 hgrow hat hlt2))
        go_roundw
        case rel => exact ⟨k + 1, _, c3, hlt, by go_num, rfl, OW2, BL2⟩
        case measure => simp [intOf]; omega
      · obtain rfl : k = n := by omega
        have hj := HL.out
        rw [List.length_map, HZ.out] at hj
        have ho := hown.out
        rw [List.take_of_length_le (by rw [List.length_map, HZ.out]; omega)] at ho
        clear hlt hk
        have HJ := hid (joined_calls A2 c2 (xs.map hexT) k w.heap.size wr ho (by omega) (by omega))
        clear ho hj
        go_wp2_with (go_at_call 49; refine HJ.out.mono ?_; rintro e w2 ⟨rfl, hb⟩; have HB2 := hid hb; clear hb)
        go_ret2
        exact ⟨by rw [HNT.out]; rfl, hbel.out.trans (HB2.out.mono hbel.out.size)⟩
  · have HNT := hid (show numText xs = none by unfold numText; rw [if_neg (by omega)])
    clear ha hok hD hB hz
    go_enter Tryd.func24, Tryd.ntmps24
    go_wp2
    go_ret2
    exact ⟨by rw [HNT.out]; rfl, Below.refl _ _⟩
end Go.Proofs.YtkbfhooiloaokaaDoor.Num
