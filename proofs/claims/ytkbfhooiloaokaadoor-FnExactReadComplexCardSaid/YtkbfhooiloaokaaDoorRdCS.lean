/-
  The list of complex64 with a text, by the reference (l01Digits, l01CRead).
-/
import Derived.Test.YtkbfhooiloaokaaDoorRdC
namespace Go.Proofs.YtkbfhooiloaokaaDoor.Num
open Go.RowKit Go.Proofs.Fl Go.Proofs.Hx Go.Proofs.Tx
set_option linter.unusedVariables false
set_option linter.unusedSimpArgs false
/-- the number with the digits, and whether there is one -/
def RetDig (p : List UInt8) (w : World) (e : Ending) (w' : World) : Prop := e = .returned (.tuple #[.float .f32 ((rdNum p).getD 0), .bool (rdNum p).isSome]) ∧ ∃ n, w' = w.drewN n
theorem RetDig.none {p : List UInt8} {w : World} (h : rdNum p = Option.none) (n : Nat) : RetDig p w (.returned (.tuple #[.float .f32 0, .bool false])) (w.drewN n) := ⟨by rw [h]; rfl, n, rfl⟩
theorem RetDig.some {p : List UInt8} {w : World} {a : Nat} (h : rdNum p = Option.some a) (n : Nat) : RetDig p w (.returned (.tuple #[.float .f32 a, .bool true])) (w.drewN n) := ⟨by rw [h]; rfl, n, rfl⟩
theorem dig_some {p : List UInt8} {a : Nat} (h : rdNum p = Option.some a) {w : World} {e : Ending} {w' : World} (hr : RetDig p w e w') : e = .returned (.tuple #[.float .f32 a, .bool true]) ∧ ∃ n, w' = w.drewN n := by
  unfold RetDig at hr
  rw [h] at hr
  exact hr
theorem dig_none {p : List UInt8} (h : rdNum p = Option.none) {w : World} {e : Ending} {w' : World} (hr : RetDig p w e w') : e = .returned (.tuple #[.float .f32 0, .bool false]) ∧ ∃ n, w' = w.drewN n := by
  unfold RetDig at hr
  rw [h] at hr
  exact hr
set_option maxRecDepth 100000 in
set_option maxHeartbeats 3200000 in
theorem l01Digits_calls (S : ByteArray) (h8 : S.size = 8) (w : World) : Calls Tryd.prog 72 #[.string S] w (RetDig S.data.toList w) := by
  obtain ⟨p, hp⟩ : ∃ p, S.data.toList = p := ⟨_, rfl⟩
  have hpl : p.length = 8 := by rw [← hp]; simpa using h8
  have HSl := hid hp
  rw [hp]
  clear hp
  go_enter Tryd.func72, Tryd.ntmps72
  go_wp2
  go_loopw [4, 5, 6] (fun m q _ wx => ∃ (j acc : Nat), j ≤ 8 ∧ q = .int .i64 j ∧ m = .int .i64 (acc : Int) ∧ Hid (acc < 16 ^ j ∧ numBy digL 0 p = numBy digL acc (p.drop j)) ∧ wx = w) (fun _ q _ _ => 8 - (intOf q).toNat)
  case atStart => exact ⟨0, 0, Nat.zero_le _, rfl, rfl, ⟨by decide, rfl⟩, rfl⟩
  case round =>
    obtain ⟨j, acc, hj, rfl, rfl, hinv, rfl⟩ := hrel
    by_cases hj8 : j < 8
    · have hjp : j < p.length := by omega
      have hdrop : p.drop j = p[j] :: p.drop (j + 1) := List.drop_eq_getElem_cons hjp
      have hsk := byte_of S p HSl.out j (by omega) hjp
      obtain ⟨hacc, hnum⟩ := hinv.out
      rw [hdrop] at hnum
      clear hdrop hinv
      generalize p[j] = c at *
      have hp8' : 16 ^ (j + 1) ≤ 4294967296 := Nat.le_trans (Nat.pow_le_pow_right (by decide) (show j + 1 ≤ 8 by omega)) (by decide)
      have hpw : 16 ^ (j + 1) = 16 ^ j * 16 := Nat.pow_succ _ _
      simp only [numBy] at hnum
      rcases digL_cases c with ⟨h1, h2, hd⟩ | ⟨h1, h2, hd⟩ | ⟨h1, h2, hd⟩
      · rw [hd] at hnum
        have HN2 := hid (And.intro (show 16 * acc + (c.toNat - 48) < 16 ^ (j + 1) by omega) hnum)
        have hb : 16 * acc + (c.toNat - 48) ≤ 4294967295 := by omega
        clear hnum hd hp8' hpw hacc
        go_wp2_with fail
        go_roundw
        case rel => exact ⟨j + 1, 16 * acc + (c.toNat - 48), hj8, by go_num, by go_num, HN2, trivial⟩
        case measure => simp [intOf]; omega
      · rw [hd] at hnum
        have HN2 := hid (And.intro (show 16 * acc + (c.toNat - 87) < 16 ^ (j + 1) by omega) hnum)
        have hb : 16 * acc + (c.toNat - 87) ≤ 4294967295 := by omega
        clear hnum hd hp8' hpw hacc
        go_wp2_with fail
        go_roundw
        case rel => exact ⟨j + 1, 16 * acc + (c.toNat - 87), hj8, by go_num, by go_num, HN2, trivial⟩
        case measure => simp [intOf]; omega
      · rw [hd] at hnum
        have HB := hid (rdNum_bad (show rdL p = none from hnum))
        clear hnum hd hp8' hpw hacc
        go_wp2_with fail
        all_goals go_ret2
        all_goals exact RetDig.none HB.out 0
    · obtain rfl : j = 8 := by omega
      obtain ⟨hacc, hnum⟩ := hinv.out
      rw [List.drop_eq_nil_of_le (by omega)] at hnum
      simp only [numBy] at hnum
      have hacc2 : acc < 4294967296 := hacc
      have HR := hid (show rdL p = some acc from hnum)
      have HFr := hid (l01From_calls acc hacc2)
      have HBi := hid (l01Bits_calls acc hacc2)
      clear hinv hnum hacc hj hj8
      by_cases hcn : cn .f32 acc = acc
      · have HT2 := hid (rdNum_eq hpl HR.out hcn)
        rw [hcn] at HBi
        clear hcn
        go_wp2_with (first
          | (go_at_call 67; refine (HFr.out _).mono ?_; rintro e w' ⟨rfl, rfl⟩)
          | (go_at_call 68; refine (HBi.out _).mono ?_; rintro e w' ⟨rfl, nb, rfl⟩))
        go_ret2
        exact RetDig.some HT2.out nb
      · have HT2 := hid (rdNum_ne HR.out hcn)
        have hnq := cn_neq hcn
        have HBi2 := hid HBi.out
        clear hcn
        generalize cn .f32 acc = z at *
        go_wp2_with (first
          | (go_at_call 67; refine (HFr.out _).mono ?_; rintro e w' ⟨rfl, rfl⟩)
          | (go_at_call 68; refine (HBi2.out _).mono ?_; rintro e w' ⟨rfl, nb, rfl⟩))
        go_ret2
        exact RetDig.none HT2.out nb
theorem at_dig {T : ByteArray} {p : List UInt8} (h : Hid (∀ w, Calls Tryd.prog 72 #[.string T] w (RetDig p w))) (w : World) : Calls Tryd.prog 72 #[.string T] w (RetDig p w) := h.out w
theorem valsC0 : c64s (vals rdPair (0, 0) []) = [] := rfl
set_option maxRecDepth 100000 in
set_option maxHeartbeats 6400000 in
theorem l01CRead_calls (s : ByteArray) (hs : s.size ≤ 1048576) (w : World) :
    Calls Tryd.prog 54 #[.string s] w (RetV 64 (c64s ((readC s.data.toList).getD [])) (readC s.data.toList).isSome w) := by
  obtain ⟨i0, hi0, hz0, hz1, hz2⟩ := info_parts1 c64_info
  by_cases hn : s.data.toList = none4
  · have HP := hid (readC_none hn)
    obtain rfl := none_eq s hn
    clear hn
    go_enter Tryd.func54, Tryd.ntmps54
    go_wp2
    go_ret2
    rw [HP.out]
    exact RetV.some (own_none (Nat.le_refl _)) ((Below.refl _ _).alloc (Nat.le_refl _) _)
  · have hne : (s.toList == [110, 111, 110, 101]) = false := by rw [ByteArray.toList_eq]; simpa [none4] using hn
    have hsl : s.data.toList.length = s.size := by simp
    have HLong := hid (readC_long hn)
    have HBad := hid (readC_bad hn)
    have HYes := hid (readC_yes hn)
    have HPc := hid (cut_piece s.data.toList)
    have HC := hid (l01Cut_calls s hs)
    have HO := hid (own_none (w := w) (base := w.heap.size) (e := 64) (Nat.le_refl _))
    have HB0 := hid ((Below.refl w.heap.size w).alloc (Nat.le_refl _) (.cells #[] 64))
    generalize cut s.data.toList = P at *
    generalize readC s.data.toList = R at *
    clear hn
    go_enter Tryd.func54, Tryd.ntmps54
    go_wp2_with (go_at_call 62; refine (HC.out _).mono ?_; rintro e w1 ⟨A2, c2, rfl, hown, hbel⟩; have HP := hid hown; have HO1 := hid (own_step HO.out hbel); have HAP := hid (apart_low (g := w.heap.size) hown (by simp)); have HB1 := hid (HB0.out.trans (hbel.mono HB0.out.size)); clear hown hbel)
    · obtain rfl := HLong.out (by omega)
      go_ret2
      exact RetV.none HB1.out
    · rename_i h64
      obtain ⟨N, hN⟩ : ∃ N, P.length = N := ⟨_, rfl⟩
      have HN := hid hN
      rw [hN] at HP
      simp only [hN]
      clear hN
      go_loopw [4, 6, 7, 8, 9, 10] (fun o i _ _ _ _ wr => ∃ (k c3 : Nat) (A3 : Option Addr), k ≤ N ∧ i = .int .i64 k ∧ o = .slice A3 k c3 ∧ Hid (okAll rdPair (P.take k) = true) ∧ Hid (wr.ownsRow w.heap.size 64 1 (.slice A3 k c3) k (c64s (vals rdPair (0, 0) (P.take k)))) ∧ Hid (OwnT wr (w.alloc (.cells #[] 64)).heap.size (.slice A2 N c2) N P) ∧ Hid (Apart A3 A2) ∧ Hid (Below w.heap.size w wr)) (fun _ i _ _ _ _ _ => N - (intOf i).toNat)
      case atStart => exact ⟨0, 0, _, Nat.zero_le _, rfl, rfl, rfl, HO1.out, HP, HAP, HB1⟩
      case round =>
        obtain ⟨k, c3, A3, hk, rfl, rfl, hall, hown, hpt, hap, hbel⟩ := hrel
        have hsz := hbel.out.size
        clear HP HAP HB1 HO1 HB0 HO
        by_cases hlt : k < N
        · have hkp : k < P.length := by have := HN.out; omega
          obtain ⟨g, rfl, hg, _, hc⟩ := hpt.out.cell hlt
          have HT := hid (fun v => okAll_take rdPair (0, 0) hkp hall.out (v := v))
          have HF := hid (okAll_bad rdPair hkp)
          clear hg
          generalize P[k] = p at *
          obtain ⟨S, hS⟩ : ∃ S : ByteArray, S = ⟨p.toArray⟩ := ⟨_, rfl⟩
          have hSz : S.size = p.length := by rw [hS]; exact mk_size p
          have hSl : S.data.toList = p := by simp [hS]
          rw [← hS] at hc
          clear hS
          by_cases hp8 : p.length = 16
          · rw [hp8] at hSz
            have D1 := hid (l01Digits_calls (S.extract 0 8) (by rw [ByteArray.size_extract]; omega))
            have D2 := hid (l01Digits_calls (S.extract 8 S.size) (by rw [ByteArray.size_extract]; omega))
            rw [half_fst, hSl] at D1
            rw [half_snd S hSz, hSl, hSz] at D2
            have HQ := hid (fun a b => rdPair_eq (a := a) (b := b) hp8)
            have HQ1 := hid (rdPair_fst (p := p))
            have HQ2 := hid (rdPair_snd (p := p))
            clear hSl hp8
            generalize p.take 8 = p1 at *
            generalize p.drop 8 = p2 at *
            cases h1 : rdNum p1 with
            | none =>
              obtain rfl := HBad.out (HF.out (HQ1.out h1))
              have H1 := hid h1
              clear h1
              cases h2 : rdNum p2 with
              | none =>
                have H2 := hid h2
                clear h2
                go_wp2_with (first | (go_at_call 72; refine (at_dig (p := p1) (by with_reducible assumption) _).mono ?_; intro e w6 hr1; have hq1 := dig_none H1.out hr1; clear hr1; obtain ⟨rfl, n1, rfl⟩ := hq1) | (go_at_call 72; refine (at_dig (p := p2) (by with_reducible assumption) _).mono ?_; intro e w7 hr2; have hq2 := dig_none H2.out hr2; clear hr2; obtain ⟨rfl, n2, rfl⟩ := hq2))
                go_ret2
                exact RetV.none (below_drewN hbel.out _)
              | some b =>
                have H2 := hid h2
                clear h2
                go_wp2_with (first | (go_at_call 72; refine (at_dig (p := p1) (by with_reducible assumption) _).mono ?_; intro e w6 hr1; have hq1 := dig_none H1.out hr1; clear hr1; obtain ⟨rfl, n1, rfl⟩ := hq1) | (go_at_call 72; refine (at_dig (p := p2) (by with_reducible assumption) _).mono ?_; intro e w7 hr2; have hq2 := dig_some H2.out hr2; clear hr2; obtain ⟨rfl, n2, rfl⟩ := hq2))
                go_ret2
                exact RetV.none (below_drewN hbel.out _)
            | some a =>
              have H1 := hid h1
              cases h2 : rdNum p2 with
              | none =>
                obtain rfl := HBad.out (HF.out (HQ2.out h2))
                have H2 := hid h2
                clear h2 h1
                go_wp2_with (first | (go_at_call 72; refine (at_dig (p := p1) (by with_reducible assumption) _).mono ?_; intro e w6 hr1; have hq1 := dig_some H1.out hr1; clear hr1; obtain ⟨rfl, n1, rfl⟩ := hq1) | (go_at_call 72; refine (at_dig (p := p2) (by with_reducible assumption) _).mono ?_; intro e w7 hr2; have hq2 := dig_none H2.out hr2; clear hr2; obtain ⟨rfl, n2, rfl⟩ := hq2))
                go_ret2
                exact RetV.none (below_drewN hbel.out _)
              | some b =>
                have H2 := hid h2
                have HT2 := hid (HT.out (a, b) (HQ.out a b h1 h2))
                clear h2 h1 HT HF
                go_wp2_with (first | (go_at_call 72; refine (at_dig (p := p1) (by with_reducible assumption) _).mono ?_; intro e w6 hr1; have hq1 := dig_some H1.out hr1; clear hr1; obtain ⟨rfl, n1, rfl⟩ := hq1) | (go_at_call 72; refine (at_dig (p := p2) (by with_reducible assumption) _).mono ?_; intro e w7 hr2; have hq2 := dig_some H2.out hr2; clear hr2; obtain ⟨rfl, n2, rfl⟩ := hq2; refine Hid.out ?_))
                refine hid ?_
                have hown2 := hid (show (wr.drewN (n1 + n2)).ownsRow w.heap.size 64 1 (.slice A3 k c3) k (c64s (vals rdPair (0, 0) (P.take k))) from hown.out)
                have hpt2 := hid (show OwnT (wr.drewN (n1 + n2)) (w.alloc (.cells #[] 64)).heap.size (.slice (some ⟨g, 0, none⟩) N c2) N P from hpt.out)
                have hbel2 := hid (below_drewN hbel.out (n1 + n2))
                have hsz2 := hbel2.out.size
                clear hown hpt hbel hsz hc D1 D2
                generalize wr.drewN (n1 + n2) = w2 at *
                go_wp2_with (at_builtin; refine wpList_append_lies _ rfl _ _ 44 rfl w.heap.size 64 i0 (Value.complex .f32 0 0) 1 8 Tryd.underlying44 hi0 hz0 hz1 hz2 rfl (by decide) (.slice A3 k c3) k (c64s (vals rdPair (0, 0) (P.take k))) rfl (hown2.out.alloc _) ⟨_, 0, none⟩ 1 1 [.complex .f32 a b] rfl rfl (any_new _ _ _) (c64s_oneCell [(a, b)]) (by decide) (by unfold maxLen; omega) (by omega) (by simp; omega) _ rfl ?_; intro g2 c4 w5 hown3 hgrow hat hlt2; rw [show c64s (vals rdPair (0, 0) (P.take k)) ++ [.complex .f32 a b] = _ from c64s_snoc _ (a, b), ← HT2.out.2] at hown3; have OW2 := hid hown3; have BL2 := hid (grown_below hbel2.out hown2.out hgrow); have PT2 := hid (keep_texts hpt2.out hown2.out hgrow hap.out); have AP2 := hid (apart_new hpt2.out hown2.out hap.out hat); clear hown3 hgrow hat hlt2)
                go_roundw
                case rel => exact ⟨k + 1, c4, _, hlt, by go_num, rfl, HT2.out.1, OW2, PT2, AP2, BL2⟩
                case measure => simp [intOf]; omega
          · obtain rfl := HBad.out (HF.out (rdPair_len hp8))
            have hb8 : ((S.size : Int) != 16) = true := by rw [bne_iff_ne]; omega
            go_wp2_with fail
            go_ret2
            exact RetV.none hbel.out
        · obtain rfl : k = N := by omega
          have hall2 := hall.out
          have ho := hown.out
          rw [List.take_of_length_le (by rw [HN.out]; omega)] at hall2 ho
          obtain rfl := HYes.out (by have := HN.out; omega) hall2
          have HO2 := hid ho
          clear hall2 ho hlt hk
          go_wp2
          go_ret2
          exact RetV.some HO2.out hbel.out
theorem sReadComplex_calls (s : ByteArray) (hs : s.size ≤ 1048576) (w : World) : Calls Tryd.prog 30 #[.string s] w (RetV 64 (c64s ((readC s.data.toList).getD [])) (readC s.data.toList).isSome w) := by
  have HC := hid (l01CRead_calls s hs w)
  generalize c64s ((readC s.data.toList).getD []) = xs at *
  generalize (readC s.data.toList).isSome = b at *
  go_enter Tryd.func30, Tryd.ntmps30
  go_wp2_with (go_at_call 54; refine HC.out.mono ?_; rintro e w1 ⟨A2, c2, rfl, h1, h2, h3⟩; have H1 := hid h1; have H2 := hid h2; have H3 := hid h3; clear h1 h2 h3)
  go_ret2
  exact ⟨A2, c2, rfl, H1.out, H2.out, H3.out⟩
end Go.Proofs.YtkbfhooiloaokaaDoor.Num
