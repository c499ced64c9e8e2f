/-
  The list with a text, by the reference (l01Numbers).
-/
import Derived.Test.YtkbfhooiloaokaaDoorRdL
namespace Go.Proofs.YtkbfhooiloaokaaDoor.Num
open Go.RowKit Go.Proofs.Fl Go.Proofs.Tx Go.Proofs.Dc
set_option linter.unusedVariables false
set_option linter.unusedSimpArgs false
theorem readL_none {l : List UInt8} (h : l = none4) : readL l = some [] := by unfold readL; rw [if_pos h]
theorem readL_long {l : List UInt8} (h : l ≠ none4) (h64 : ¬ (cut l).length ≤ 64) : readL l = none := by unfold readL; rw [if_neg h, if_neg (fun e => h64 e.1)]
theorem readL_bad {l : List UInt8} (h : l ≠ none4) (hb : okAll rdDec (cut l) = false) : readL l = none := by unfold readL; rw [if_neg h, if_neg (fun e => by rw [hb] at e; cases e.2)]
theorem readL_yes {l : List UInt8} (h : l ≠ none4) (h64 : (cut l).length ≤ 64) (hb : okAll rdDec (cut l) = true) : readL l = some (vals rdDec 0 (cut l)) := by unfold readL; rw [if_neg h, if_pos ⟨h64, hb⟩]
theorem apart_low {w1 : World} {B N c2 g : Nat} {A2 : Option Addr} {P : List (List UInt8)} (h : OwnT w1 B (.slice A2 N c2) N P) (hg : g < B) : Apart (some ⟨g, 0, none⟩) A2 := by
  intro x y hx hy
  simp only [Option.some.injEq, Addr.mk.injEq, and_true] at hx
  subst hx
  subst hy
  have := own_base h
  omega
set_option maxRecDepth 100000 in
set_option maxHeartbeats 1600000 in
theorem l01Numbers_calls (s : ByteArray) (hs : s.size ≤ 1048576) (w : World) :
    Calls Tryd.prog 44 #[.string s] w (RetList (readL s.data.toList) w) := by
  obtain ⟨i0, hi0, hz0, hz1, hz2⟩ := info_parts1 i64_info
  by_cases hn : s.data.toList = none4
  · have HP := hid (readL_none hn)
    obtain rfl := none_eq s hn
    clear hn
    go_enter Tryd.func44, Tryd.ntmps44
    go_wp2
    go_ret2
    rw [HP.out]
    exact RetList.some (own_none (Nat.le_refl _)) ((Below.refl _ _).alloc (Nat.le_refl _) _)
  · have hne : (s.toList == [110, 111, 110, 101]) = false := by rw [ByteArray.toList_eq]; simpa [none4] using hn
    have hsl : s.data.toList.length = s.size := by simp
    have HLong := hid (readL_long hn)
    have HBad := hid (readL_bad hn)
    have HYes := hid (readL_yes hn)
    have HPc := hid (cut_piece s.data.toList)
    have HC := hid (l01Cut_calls s hs)
    have HO := hid (own_none (w := w) (base := w.heap.size) (e := 2) (Nat.le_refl _))
    have HB0 := hid ((Below.refl w.heap.size w).alloc (Nat.le_refl _) (.cells #[] 2))
    generalize cut s.data.toList = P at *
    generalize readL s.data.toList = R at *
    clear hn
    go_enter Tryd.func44, Tryd.ntmps44
    go_wp2_with (go_at_call 62; refine (HC.out _).mono ?_; rintro e w1 ⟨A2, c2, rfl, hown, hbel⟩; have HP := hid hown; have HO1 := hid (own_step HO.out hbel); have HAP := hid (apart_low (g := w.heap.size) hown (by simp)); have HB1 := hid (HB0.out.trans (hbel.mono HB0.out.size)); clear hown hbel)
    · obtain rfl := HLong.out (by omega)
      go_ret2
      exact RetList.none HB1.out
    · rename_i h64
      obtain ⟨N, hN⟩ : ∃ N, P.length = N := ⟨_, rfl⟩
      have HN := hid hN
      rw [hN] at HP
      simp only [hN]
      clear hN
      go_loopw [4, 6, 7, 8] (fun o i _ _ wr => ∃ (k c3 : Nat) (A3 : Option Addr), k ≤ N ∧ i = .int .i64 k ∧ o = .slice A3 k c3 ∧ Hid (okAll rdDec (P.take k) = true) ∧ Hid (wr.ownsRow w.heap.size 2 1 (.slice A3 k c3) k (i64s (vals rdDec 0 (P.take k)))) ∧ Hid (OwnT wr (w.alloc (.cells #[] 2)).heap.size (.slice A2 N c2) N P) ∧ Hid (Apart A3 A2) ∧ Hid (Below w.heap.size w wr)) (fun _ i _ _ _ => N - (intOf i).toNat)
      case atStart => exact ⟨0, 0, _, Nat.zero_le _, rfl, rfl, rfl, HO1.out, HP, HAP, HB1⟩
      case round =>
        obtain ⟨k, c3, A3, hk, rfl, rfl, hall, hown, hpt, hap, hbel⟩ := hrel
        have hsz := hbel.out.size
        clear HP HAP HB1 HO1 HB0 HO
        by_cases hlt : k < N
        · have hkp : k < P.length := by have := HN.out; omega
          obtain ⟨g, rfl, hg, _, hc⟩ := hpt.out.cell hlt
          have hpl := HPc.out _ (List.getElem_mem hkp)
          have HT := hid (fun v => okAll_take rdDec 0 hkp hall.out (v := v))
          have HF := hid (okAll_bad rdDec hkp)
          clear hg
          generalize P[k] = p at *
          have HV := hid (l01Value_calls ⟨p.toArray⟩ wr (by rw [mk_size]; omega))
          rw [mk_list] at HV
          cases hr : rdDec p with
          | none =>
            rw [hr] at HV
            obtain rfl := HBad.out (HF.out hr)
            clear hr HT HF
            go_wp2_with (go_at_call 37; refine HV.out.mono ?_; rintro e w2 ⟨rfl, hb⟩; have HB2 := hid hb; clear hb)
            go_ret2
            exact RetList.none (hbel.out.trans (HB2.out.mono hsz))
          | some v =>
            rw [hr] at HV
            have HT2 := hid (HT.out v hr)
            clear hr HT HF
            go_wp2_with (first
              | (go_at_call 37; refine HV.out.mono ?_; rintro e w2 ⟨rfl, hb⟩; have HB2 := hid hb; clear hb)
              | (at_builtin; refine wpList_append_lies _ rfl _ _ 27 rfl w.heap.size 2 i0 (Value.int .i64 0) 1 8 Tryd.underlying27 hi0 hz0 hz1 hz2 rfl (by decide) (.slice A3 k c3) k (i64s (vals rdDec 0 (P.take k))) rfl ((own_step hown.out HB2.out).alloc _) ⟨_, 0, none⟩ 1 1 [.int .i64 v] rfl rfl (i64_new _ _) (i64s_oneCell' [v]) (by decide) (by unfold maxLen; omega) (by omega) (by simp; have := HB2.out.size; omega) _ rfl ?_; intro g2 c4 w5 hown2 hgrow hat hlt2; rw [i64s_snoc, ← HT2.out.2] at hown2; have OW2 := hid hown2; have BL2 := hid (grown_below (hbel.out.trans (HB2.out.mono hsz)) (own_step hown.out HB2.out) hgrow); have PT2 := hid (keep_texts (own_step hpt.out HB2.out) (own_step hown.out HB2.out) hgrow hap.out); have AP2 := hid (apart_new (own_step hpt.out HB2.out) (own_step hown.out HB2.out) hap.out hat); clear hown2 hgrow hat hlt2))
            go_roundw
            case rel => exact ⟨k + 1, c4, _, hlt, by go_num, rfl, HT2.out.1, OW2, PT2, AP2, BL2⟩
            case measure => simp [intOf]; omega
        · obtain rfl : k = N := by omega
          have hall2 := hall.out
          have ho := hown.out
          rw [List.take_of_length_le (by rw [HN.out]; omega)] at hall2 ho
          obtain rfl := HYes.out (by have := HN.out; omega) hall2
          have HO2 := hid ho
          clear hall2 ho hlt hk
          go_wp2
          go_ret2
          exact RetList.some HO2.out hbel.out
end Go.Proofs.YtkbfhooiloaokaaDoor.Num
