/-
  The text of a list of complex64: the program (ComplexText).
-/
import Derived.Test.YtkbfhooiloaokaaDoorRdC
namespace Go.Proofs.YtkbfhooiloaokaaDoor.Num
open Go.RowKit Go.Proofs.Fl Go.Proofs.Hx Go.Proofs.Tx
open Go.Lib (join)
set_option linter.unusedVariables false
set_option linter.unusedSimpArgs false
theorem at_hex {x : Nat} (hx : x < 4294967296) (w w1 : World) {B : Nat} (hB : B ≤ w.heap.size) (hD : Hid (∀ w', Below w.heap.size w w' → Deb B w')) (h : Hid (Below w.heap.size w w1)) :
    Calls Tryd.prog 48 #[.float .f32 x] w1 (RetStr (hexT x) w1) := hexOf_calls x hx w1 (B := B) (Nat.le_trans hB h.out.size) (hD.out w1 h.out)
set_option maxRecDepth 100000 in
set_option maxHeartbeats 3200000 in
theorem ComplexText_calls (A : Option Addr) (n c : Nat) (xs : List (Nat × Nat)) (hz : xs.length = n) (hn : n ≤ 1048576) (hok : ∀ z ∈ xs, z.1 < 4294967296 ∧ z.2 < 4294967296) (w : World) {B : Nat} (hB : B ≤ w.heap.size) (ha : Rd w w.heap.size A (c64s xs)) (hD : Deb B w) :
    Calls Tryd.prog 55 #[.slice A n c] w (RetText (cplxText xs) w) := by
  by_cases h256 : n ≤ 256
  · obtain ⟨i0, hi0, hz0, hz1, hz2⟩ := info_parts1 str_info
    have HNT := hid (show cplxText xs = some (textJ (xs.map hexP)) by unfold cplxText; rw [if_pos (by omega)])
    have HZ := hid hz
    have HR := hid ha
    have HM := hid hok
    have HL := hid (join_le 16 (xs.map hexP) (hexP_le xs))
    have HDB := hid (fun w' (h : Below w.heap.size w w') => hD.on (h.mono hB))
    have HBs := hid hB
    clear hz ha hok hD hB
    go_enter Tryd.func55, Tryd.ntmps55
    go_wp2_with fail
    go_loopw [4, 6, 13] (fun o q i wr => ∃ (k : Nat) (A2 : Option Addr) (c2 : Nat), k ≤ n ∧ i = .int .i64 k ∧ o = .slice A2 k c2 ∧ Hid (OwnT wr w.heap.size (.slice A2 k c2) k ((xs.map hexP).take k)) ∧ Hid (Below w.heap.size w wr)) (fun _ _ i _ => n - (intOf i).toNat)
    case atStart => exact ⟨0, _, 0, Nat.zero_le _, rfl, rfl, own_none (Nat.le_refl _), (Below.refl _ _).alloc (Nat.le_refl _) _⟩
    case round =>
      obtain ⟨k, A2, c2, hk, rfl, rfl, hown, hbel⟩ := hrel
      by_cases hlt : k < n
      · have hkx : k < xs.length := by have := HZ.out; omega
        obtain ⟨hm1, hm2⟩ := HM.out _ (List.getElem_mem hkx)
        obtain ⟨b1, o1, rfl, hb1, hc1⟩ := c64s_at (show Rd wr wr.heap.size A (c64s xs) from (HR.out.below hbel.out).more hbel.out.size) hkx
        have hsn : (xs.map hexP).take (k + 1) = (xs.map hexP).take k ++ [hexT xs[k].1 ++ hexT xs[k].2] := by
          rw [List.take_succ_eq_append_getElem (by simpa using hkx)]
          simp [hexP]
        have HSN := hid hsn
        clear hsn
        generalize xs[k] = z at *
        obtain ⟨z1, z2⟩ := z
        simp only at hm1 hm2 hc1 HSN
        have hBw := Nat.le_trans HBs.out hbel.out.size
        have HE1 := hid (fun w' (h : Hid (Below wr.heap.size wr w')) => at_hex hm1 wr w' (B := B) hBw (hid (fun w2 h2 => HDB.out w2 (hbel.out.trans (h2.mono hbel.out.size)))) h)
        have HE2 := hid (fun w' (h : Hid (Below wr.heap.size wr w')) => at_hex hm2 wr w' (B := B) hBw (hid (fun w2 h2 => HDB.out w2 (hbel.out.trans (h2.mono hbel.out.size)))) h)
        have HB0 := hid (Below.refl wr.heap.size wr)
        clear hm1 hm2 hBw
        have hl1 := hexT_len z1
        have hl2 := hexT_len z2
        generalize hexT z1 = l1 at *
        generalize hexT z2 = l2 at *
        obtain ⟨S1, hS1⟩ : ∃ S : ByteArray, S = ⟨l1.toArray⟩ := ⟨_, rfl⟩
        obtain ⟨S2, hS2⟩ : ∃ S : ByteArray, S = ⟨l2.toArray⟩ := ⟨_, rfl⟩
        have HSS := hid (show S1 ++ S2 = ⟨(l1 ++ l2).toArray⟩ by rw [hS1, hS2, mk_append])
        have hs1 : S1.size = 8 := by rw [hS1, mk_size]; exact hl1
        have hs2 : S2.size = 8 := by rw [hS2, mk_size]; exact hl2
        clear hl1 hl2
        unfold RetStr at HE1 HE2
        simp only [← hS1] at HE1
        simp only [← hS2] at HE2
        clear hS1 hS2
        go_wp2_with (first
          | (go_at_call_of 48 z1; refine (HE1.out _ HB0).mono ?_; rintro e w2 ⟨rfl, hb⟩; have HB2 := hid hb; clear hb)
          | (go_at_call_of 48 z2; refine (HE2.out _ HB2).mono ?_; rintro e w3 ⟨rfl, hb⟩; have HB3 := hid (HB2.out.trans (hb.mono HB2.out.size)); clear hb)
          | (at_builtin; refine wpList_append_lies _ rfl _ _ 57 rfl w.heap.size 9 i0 (Value.string ByteArray.empty) 1 16 Tryd.underlying57 hi0 hz0 hz1 hz2 rfl (by decide) (.slice A2 k c2) k (strs ((xs.map hexP).take k)) rfl ((own_step hown.out HB3.out).alloc _) ⟨_, 0, none⟩ 1 1 [.string (S1 ++ S2)] rfl rfl (any_new _ _ _) (by intro u hu; rw [List.mem_singleton.1 hu]; rfl) (by decide) (by unfold maxLen; omega) (by omega) (by simp; have := hbel.out.size; have := HB3.out.size; omega) _ rfl ?_; intro g2 c3 w5 hown2 hgrow hat hlt2; rw [HSS.out, strs_snoc, ← HSN.out] at hown2; have OW2 := hid hown2; have BL2 := hid (grown_below (hbel.out.trans (HB3.out.mono hbel.out.size)) (own_step hown.out HB3.out) hgrow); clear hown2 hgrow hat hlt2))
        go_roundw
        case rel => exact ⟨k + 1, _, c3, hlt, by go_num, rfl, OW2, BL2⟩
        case measure => simp [intOf]; omega
      · obtain rfl : k = n := by omega
        have hj := HL.out
        rw [List.length_map, HZ.out] at hj
        have ho := hown.out
        rw [List.take_of_length_le (by rw [List.length_map, HZ.out]; omega)] at ho
        clear hlt hk
        have HJ := hid (joined_calls A2 c2 (xs.map hexP) k w.heap.size wr ho (by omega) (by omega))
        clear ho hj
        go_wp2_with (go_at_call 49; refine HJ.out.mono ?_; rintro e w2 ⟨rfl, hb⟩; have HB2 := hid hb; clear hb)
        go_ret2
        exact ⟨by rw [HNT.out]; rfl, hbel.out.trans (HB2.out.mono hbel.out.size)⟩
  · have HNT := hid (show cplxText xs = none by unfold cplxText; rw [if_neg (by omega)])
    clear ha hok hD hB hz
    go_enter Tryd.func55, Tryd.ntmps55
    go_wp2
    go_ret2
    exact ⟨by rw [HNT.out]; rfl, Below.refl _ _⟩
end Go.Proofs.YtkbfhooiloaokaaDoor.Num
