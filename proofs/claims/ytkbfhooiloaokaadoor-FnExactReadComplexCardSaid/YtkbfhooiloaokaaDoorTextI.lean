/-
  The text of a list of whole numbers: the program (areValues, listText, ListText).
-/
import Derived.Test.YtkbfhooiloaokaaDoorJoined
import Derived.Test.YtkbfhooiloaokaaDoorTextL
import Derived.Test.YtkbfhooiloaokaaDoorReadDec
namespace Go.Proofs.YtkbfhooiloaokaaDoor.Num
open Go.RowKit Go.Proofs.Fl Go.Proofs.Dc Go.Proofs.Tx
open Go.Lib (itoa join)
set_option linter.unusedVariables false
set_option linter.unusedSimpArgs false
set_option maxHeartbeats 800000 in
theorem areValues_calls (A : Option Addr) (n c : Nat) (zs : List Int) (hz : zs.length = n) (hn : n ≤ 1048576) (w : World) (ha : Rd w w.heap.size A (i64s zs)) :
    Calls Tryd.prog 42 #[.slice A n c] w (Ret (.bool (okList zs)) w) := by
  have HZ := hid hz
  clear hz
  go_enter Tryd.func42, Tryd.ntmps42
  go_wp2
  go_loopw [4, 7] (fun q i wr => ∃ k m : Nat, k ≤ n ∧ i = .int .i64 k ∧ wr = w.drewN m ∧ Hid (inAll (zs.take k) = true)) (fun _ i _ => n - (intOf i).toNat)
  case atStart => exact ⟨0, 0, Nat.zero_le _, rfl, rfl, rfl⟩
  case round =>
    obtain ⟨k, m, hk, rfl, rfl, hall⟩ := hrel
    by_cases hlt : k < n
    · have hkx : k < zs.length := by have := HZ.out; omega
      obtain ⟨b1, o1, rfl, hb1, hc1⟩ := i64s_at ha hkx
      have HA := hid (fun hz => inAll_take hkx hall.out hz)
      have HF := hid (fun hz => inAll_bad hkx hz)
      generalize zs[k] = z at *
      cases hb : inB z (-1000000000000000) 1000000000000000 with
      | true =>
        have HB := hid hb
        have HT := hid (HA.out hb)
        clear hb HA HF
        go_wp2_with (go_at_call 39; refine (isValue_is _ _ HB.out _).mono ?_; rintro e w1 ⟨rfl, nd, rfl⟩)
        go_roundw
        case rel => exact ⟨k + 1, _, hlt, by go_num, rfl, HT⟩
        case measure => simp [intOf]; omega
      | false =>
        have HB := hid hb
        have HT := hid (show okList zs = false by unfold okList; rw [HF.out hb]; rfl)
        clear hb HA HF
        go_wp2_with (go_at_call 39; refine (isValue_is _ _ HB.out _).mono ?_; rintro e w1 ⟨rfl, nd, rfl⟩)
        go_ret
        exact ⟨by rw [HT.out]; rfl, _, rfl⟩
    · have HT := hid (show okList zs = decide (n ≤ 64) by unfold okList; rw [inAll_end (by have := HZ.out; omega) hall.out, HZ.out]; rfl)
      go_wp2
      go_ret
      exact ⟨ret_bool (by rw [HT.out, Bool.eq_iff_iff]; simp; omega), _, rfl⟩
theorem own_step {w w' : World} {B e size : Nat} {v : Value} {n : Nat} {xs : List Value} (h : w.ownsRow B e size v n xs) (hb : Below w.heap.size w w') : w'.ownsRow B e size v n xs := by
  refine ⟨h.1, ?_⟩
  rcases h.2 with hn | ⟨g, cap, cur, hv, hB, hg, rest⟩
  · exact .inl hn
  · exact .inr ⟨g, cap, cur, hv, hB, (hb.block g (Array.getElem?_eq_some_iff.1 hg).1).trans hg, rest⟩
theorem str_new (w : World) (B : Nat) (x : Value) : ∀ j u, [x][j]? = some u → (w.alloc (.cells #[x] 9)).cell? ((⟨w.heap.size, 0, none⟩ : Addr).add j) = some u := fun j u hu => by
  have := World.ownsRow.cells (own_one (w := w) (base := w.heap.size) (e := 9) x (Nat.le_refl _)) (g := w.heap.size) rfl j u hu
  exact this
theorem grown_below {w wr w' : World} {o : Obj} {A : Option Addr} {k c : Nat} {xs : List Value} {e : Nat} (h : Below w.heap.size w wr) (ho : wr.ownsRow w.heap.size e 1 (.slice A k c) k xs) (hg : (wr.alloc o).grownBy w' (Value.slice A k c).ownBlock) : Below w.heap.size w w' :=
  (h.alloc h.size o).grown hg (by simp; have := h.size; omega) fun k hk => (World.ownsRow.lt ho k hk).1
set_option maxRecDepth 100000 in
set_option maxHeartbeats 1600000 in
theorem listText_calls (A : Option Addr) (n c : Nat) (zs : List Int) (hz : zs.length = n) (hn : n ≤ 64) (hok : inAll zs = true) (w : World) {B : Nat} (hB : B ≤ w.heap.size) (ha : Rd w w.heap.size A (i64s zs)) (hT : Tab B w) :
    Calls Tryd.prog 43 #[.slice A n c] w (RetStr (textJ (zs.map itoa)) w) := by
  obtain ⟨i0, hi0, hz0, hz1, hz2⟩ := info_parts1 str_info
  have HZ := hid hz
  have HR := hid ha
  have HM := hid (inAll_mem hok)
  have HL := hid (join_le 17 (zs.map itoa) (itoa_le hok))
  have HTB := hid (fun w' (h : Below w.heap.size w w') => hT.on (h.mono hB))
  clear hz ha hok hT hB
  go_enter Tryd.func43, Tryd.ntmps43
  go_wp2_with fail
  go_loopw [3, 5, 9] (fun o q i wr => ∃ (k : Nat) (A2 : Option Addr) (c2 : Nat), k ≤ n ∧ i = .int .i64 k ∧ o = .slice A2 k c2 ∧ Hid (OwnT wr w.heap.size (.slice A2 k c2) k ((zs.map itoa).take k)) ∧ Hid (Below w.heap.size w wr)) (fun _ _ i _ => n - (intOf i).toNat)
  case atStart => exact ⟨0, _, 0, Nat.zero_le _, rfl, rfl, own_none (Nat.le_refl _), (Below.refl _ _).alloc (Nat.le_refl _) _⟩
  case round =>
    obtain ⟨k, A2, c2, hk, rfl, rfl, hown, hbel⟩ := hrel
    by_cases hlt : k < n
    · have hkx : k < zs.length := by have := HZ.out; omega
      have hm := HM.out _ (List.getElem_mem hkx)
      obtain ⟨b1, o1, rfl, hb1, hc1⟩ := i64s_at (HR.out.below hbel.out) hkx
      have hsn : (zs.map itoa).take (k + 1) = (zs.map itoa).take k ++ [itoa zs[k]] := by
        rw [List.take_succ_eq_append_getElem (by simpa using hkx)]
        simp
      have HSN := hid hsn
      clear hsn
      generalize zs[k] = z at *
      have HD := hid (Decimal_calls z (by omega) (by omega) wr (HTB.out wr hbel.out))
      clear hm
      generalize itoa z = li at *
      go_wp2_with (first
        | (go_at_call 11; refine HD.out.mono ?_; rintro e w2 ⟨rfl, hb⟩; have HB2 := hid hb; clear hb)
        | (at_builtin; refine wpList_append_lies _ rfl _ _ 57 rfl w.heap.size 9 i0 (Value.string ByteArray.empty) 1 16 Tryd.underlying57 hi0 hz0 hz1 hz2 rfl (by decide) (.slice A2 k c2) k (strs ((zs.map itoa).take k)) rfl ((own_step hown.out HB2.out).alloc _) ⟨_, 0, none⟩ 1 1 [.string ⟨li.toArray⟩] rfl rfl (str_new _ w.heap.size _) (strs_oneCell [li]) (by decide) (by unfold maxLen; omega) (by omega) (by simp; have := hbel.out.size; have := HB2.out.size; omega) _ rfl ?_; intro g2 c3 w5 hown2 hgrow hat hlt2; rw [strs_snoc, ← HSN.out] at hown2; have OW2 := hid hown2; have BL2 := hid (grown_below (hbel.out.trans (HB2.out.mono hbel.out.size)) (own_step hown.out HB2.out) hgrow); clear hown2 hgrow hat hlt2))
      go_roundw
      case rel => exact ⟨k + 1, _, c3, hlt, by go_num, rfl, OW2, BL2⟩
      case measure => simp [intOf]; omega
    · obtain rfl : k = n := by omega
      have hj := HL.out
      rw [List.length_map, HZ.out] at hj
      have ho := hown.out
      rw [List.take_of_length_le (by rw [List.length_map, HZ.out]; omega)] at ho
      clear hlt hk
      have HJ := hid (joined_calls A2 c2 (zs.map itoa) k w.heap.size wr ho (by omega) (by omega))
      clear ho hj
      go_wp2_with (go_at_call 49; refine HJ.out.mono ?_; rintro e w2 ⟨rfl, hb⟩; have HB2 := hid hb; clear hb)
      go_ret
      exact ⟨rfl, hbel.out.trans (HB2.out.mono hbel.out.size)⟩
theorem ListText_calls (A : Option Addr) (n c : Nat) (zs : List Int) (hz : zs.length = n) (hn : n ≤ 1048576) (w : World) {B : Nat} (hB : B ≤ w.heap.size) (ha : Rd w w.heap.size A (i64s zs)) (hT : Tab B w) :
    Calls Tryd.prog 16 #[.slice A n c] w (RetText (listText zs) w) := by
  cases hok : okList zs with
  | true =>
    have hb := hok
    unfold okList at hb
    rw [Bool.and_eq_true, decide_eq_true_eq] at hb
    have HL := hid (show listText zs = some (textJ (zs.map itoa)) by unfold listText; rw [if_pos hok])
    have HC := hid (areValues_calls A n c zs hz hn w ha)
    have HT := hid (fun m => listText_calls A n c zs hz (by omega) hb.1 (w.drewN m) (B := B) hB (ha.drewN m) (hT.on (below_drewN (Below.refl _ _) m)))
    rw [hok] at HC
    clear hok hb hz ha hT
    go_enter Tryd.func16, Tryd.ntmps16
    go_wp2_with (first | (go_at_call 42; refine HC.out.mono ?_; rintro e w1 ⟨rfl, nd, rfl⟩) | (go_at_call 43; refine (HT.out _).mono ?_; rintro e w2 ⟨rfl, hb⟩; have HB := hid hb; clear hb))
    go_ret2
    exact ⟨by rw [HL.out]; rfl, below_drewN' HB.out⟩
  | false =>
    have HL := hid (show listText zs = none by unfold listText; rw [hok]; rfl)
    have HC := hid (areValues_calls A n c zs hz hn w ha)
    rw [hok] at HC
    clear hok hz ha hT
    go_enter Tryd.func16, Tryd.ntmps16
    go_wp2_with (first | (go_at_call 42; refine HC.out.mono ?_; rintro e w1 ⟨rfl, nd, rfl⟩))
    go_ret2
    exact ⟨by rw [HL.out]; rfl, below_drewN (Below.refl _ _) _⟩
end Go.Proofs.YtkbfhooiloaokaaDoor.Num
