/-
  The list of float32 with a text, by the reference (l01NRead).
-/
import Derived.Test.YtkbfhooiloaokaaDoorRdN
import Derived.Test.YtkbfhooiloaokaaDoorCut
import Derived.Test.YtkbfhooiloaokaaDoorRdLS
import Derived.Test.YtkbfhooiloaokaaDoorBits
namespace Go.Proofs.YtkbfhooiloaokaaDoor.Num
open Go.RowKit Go.Proofs.Fl Go.Proofs.Hx Go.Proofs.Tx
set_option linter.unusedVariables false
set_option linter.unusedSimpArgs false
theorem l01From_calls (n : Nat) (hn : n < 4294967296) (w : World) : Calls Tryd.prog 67 #[.int .i64 (n : Int)] w (fun e w' => e = .returned (.float .f32 n) ∧ w' = w) := by
  have hw : IntKind.u32.wrap (n : Int) = (n : Int) := by rw [IntKind.wrap_u32]; omega
  go_enter Tryd.func67, Tryd.ntmps67
  go_wp2
  go_ret
  exact ⟨rfl, rfl⟩
theorem digL_cases (c : UInt8) : (48 ≤ c.toNat ∧ c.toNat ≤ 57 ∧ digL c = some (c.toNat - 48)) ∨ (97 ≤ c.toNat ∧ c.toNat ≤ 102 ∧ digL c = some (c.toNat - 87)) ∨ (¬ (48 ≤ c.toNat ∧ c.toNat ≤ 57) ∧ ¬ (97 ≤ c.toNat ∧ c.toNat ≤ 102) ∧ digL c = none) := by
  unfold digL
  by_cases h1 : 48 ≤ c.toNat ∧ c.toNat ≤ 57
  · exact .inl ⟨h1.1, h1.2, by rw [if_pos h1]⟩
  · by_cases h2 : 97 ≤ c.toNat ∧ c.toNat ≤ 102
    · exact .inr (.inl ⟨h2.1, h2.2, by rw [if_neg h1, if_pos h2]⟩)
    · exact .inr (.inr ⟨h1, h2, by rw [if_neg h1, if_neg h2]⟩)
theorem byte_of (S : ByteArray) (p : List UInt8) (h : S.data.toList = p) (j : Nat) (hj : j < S.size) (hp : j < p.length) : S[j] = p[j] := by
  subst h
  rfl
theorem cn_neq {n : Nat} (h : cn .f32 n ≠ n) : ((cn .f32 n : Int) != (n : Int)) = true := by rw [bne_iff_ne]; omega
theorem vals0 : f32s (vals rdNum 0 []) = [] := rfl
set_option maxRecDepth 100000 in
set_option maxHeartbeats 6400000 in
theorem l01NRead_calls (s : ByteArray) (hs : s.size ≤ 1048576) (w : World) :
    Calls Tryd.prog 51 #[.string s] w (RetV 56 (f32s ((readN s.data.toList).getD [])) (readN s.data.toList).isSome w) := by
  obtain ⟨i0, hi0, hz0, hz1, hz2⟩ := info_parts1 f32_info
  by_cases hn : s.data.toList = none4
  · have HP := hid (readN_none hn)
    obtain rfl := none_eq s hn
    clear hn
    go_enter Tryd.func51, Tryd.ntmps51
    go_wp2
    go_ret2
    rw [HP.out]
    exact RetV.some (own_none (Nat.le_refl _)) ((Below.refl _ _).alloc (Nat.le_refl _) _)
  · have hne : (s.toList == [110, 111, 110, 101]) = false := by rw [ByteArray.toList_eq]; simpa [none4] using hn
    have hsl : s.data.toList.length = s.size := by simp
    have HLong := hid (readN_long hn)
    have HBad := hid (readN_bad hn)
    have HYes := hid (readN_yes hn)
    have HPc := hid (cut_piece s.data.toList)
    have HC := hid (l01Cut_calls s hs)
    have HO := hid (own_none (w := w) (base := w.heap.size) (e := 56) (Nat.le_refl _))
    have HB0 := hid ((Below.refl w.heap.size w).alloc (Nat.le_refl _) (.cells #[] 56))
    generalize cut s.data.toList = P at *
    generalize readN s.data.toList = R at *
    clear hn
    go_enter Tryd.func51, Tryd.ntmps51
    go_wp2_with (go_at_call 62; refine (HC.out _).mono ?_; rintro e w1 ⟨A2, c2, rfl, hown, hbel⟩; have HP := hid hown; have HO1 := hid (own_step HO.out hbel); have HAP := hid (apart_low (g := w.heap.size) hown (by simp)); have HB1 := hid (HB0.out.trans (hbel.mono HB0.out.size)); clear hown hbel)
    · obtain rfl := HLong.out (by omega)
      go_ret2
      exact RetV.none HB1.out
    · rename_i h64
      obtain ⟨N, hN⟩ : ∃ N, P.length = N := ⟨_, rfl⟩
      have HN := hid hN
      rw [hN] at HP
      simp only [hN]
      clear hN
      go_loopw [4, 6, 7, 8, 9, 10, 11] (fun o i _ _ _ _ _ wr => ∃ (k c3 : Nat) (A3 : Option Addr), k ≤ N ∧ i = .int .i64 k ∧ o = .slice A3 k c3 ∧ Hid (okAll rdNum (P.take k) = true) ∧ Hid (wr.ownsRow w.heap.size 56 1 (.slice A3 k c3) k (f32s (vals rdNum 0 (P.take k)))) ∧ Hid (OwnT wr (w.alloc (.cells #[] 56)).heap.size (.slice A2 N c2) N P) ∧ Hid (Apart A3 A2) ∧ Hid (Below w.heap.size w wr)) (fun _ i _ _ _ _ _ _ => N - (intOf i).toNat)
      case atStart => exact ⟨0, 0, _, Nat.zero_le _, rfl, rfl, rfl, HO1.out, HP, HAP, HB1⟩
      case round =>
        obtain ⟨k, c3, A3, hk, rfl, rfl, hall, hown, hpt, hap, hbel⟩ := hrel
        have hsz := hbel.out.size
        clear HP HAP HB1 HO1 HB0 HO
        by_cases hlt : k < N
        · have hkp : k < P.length := by have := HN.out; omega
          obtain ⟨g, rfl, hg, _, hc⟩ := hpt.out.cell hlt
          have HT := hid (fun v => okAll_take rdNum 0 hkp hall.out (v := v))
          have HF := hid (okAll_bad rdNum hkp)
          clear hg
          generalize P[k] = p at *
          obtain ⟨S, hS⟩ : ∃ S : ByteArray, S = ⟨p.toArray⟩ := ⟨_, rfl⟩
          have hSz : S.size = p.length := by rw [hS]; exact mk_size p
          have hSl : S.data.toList = p := by simp [hS]
          rw [← hS] at hc
          clear hS
          by_cases hp8 : p.length = 8
          · rw [hp8] at hSz
            have HSl := hid hSl
            clear hSl
            go_wp2_with fail
            go_loopw [7, 8, 9, 10] (fun m q _ _ wx => ∃ (j acc : Nat), j ≤ 8 ∧ q = .int .i64 j ∧ m = .int .i64 (acc : Int) ∧ Hid (acc < 16 ^ j ∧ numBy digL 0 p = numBy digL acc (p.drop j)) ∧ wx = wr) (fun _ q _ _ _ => 8 - (intOf q).toNat)
            case atStart => exact ⟨0, 0, Nat.zero_le _, rfl, rfl, ⟨by decide, rfl⟩, rfl⟩
            case round =>
              obtain ⟨j, acc, hj, rfl, rfl, hinv, rfl⟩ := hrel
              by_cases hj8 : j < 8
              · have hjp : j < p.length := by omega
                have hdrop : p.drop j = p[j] :: p.drop (j + 1) := List.drop_eq_getElem_cons hjp
                have hsk := byte_of S p HSl.out j (by omega) hjp
                obtain ⟨hacc, hnum⟩ := hinv.out
                rw [hdrop] at hnum
                clear hdrop hinv
                generalize p[j] = c at *
                have hp8' : 16 ^ (j + 1) ≤ 4294967296 := Nat.le_trans (Nat.pow_le_pow_right (by decide) (show j + 1 ≤ 8 by omega)) (by decide)
                have hpw : 16 ^ (j + 1) = 16 ^ j * 16 := Nat.pow_succ _ _
                simp only [numBy] at hnum
                rcases digL_cases c with ⟨h1, h2, hd⟩ | ⟨h1, h2, hd⟩ | ⟨h1, h2, hd⟩
                · rw [hd] at hnum
                  have HN2 := hid (And.intro (show 16 * acc + (c.toNat - 48) < 16 ^ (j + 1) by omega) hnum)
                  have hb : 16 * acc + (c.toNat - 48) ≤ 4294967295 := by omega
                  clear hnum hd hp8' hpw hacc
                  go_wp2_with fail
                  go_roundw
                  case rel => exact ⟨j + 1, 16 * acc + (c.toNat - 48), hj8, by go_num, by go_num, HN2, trivial⟩
                  case measure => simp [intOf]; omega
                · rw [hd] at hnum
                  have HN2 := hid (And.intro (show 16 * acc + (c.toNat - 87) < 16 ^ (j + 1) by omega) hnum)
                  have hb : 16 * acc + (c.toNat - 87) ≤ 4294967295 := by omega
                  clear hnum hd hp8' hpw hacc
                  go_wp2_with fail
                  go_roundw
                  case rel => exact ⟨j + 1, 16 * acc + (c.toNat - 87), hj8, by go_num, by go_num, HN2, trivial⟩
                  case measure => simp [intOf]; omega
                · rw [hd] at hnum
                  obtain rfl := HBad.out (HF.out (rdNum_bad hnum))
                  clear hnum hd hp8' hpw hacc
                  go_wp2_with fail
                  all_goals go_ret2
                  all_goals exact RetV.none hbel.out
              · obtain rfl : j = 8 := by omega
                obtain ⟨hacc, hnum⟩ := hinv.out
                rw [List.drop_eq_nil_of_le (by omega)] at hnum
                simp only [numBy] at hnum
                have hacc2 : acc < 4294967296 := hacc
                have HR := hid (show rdL p = some acc from hnum)
                have HFr := hid (l01From_calls acc hacc2)
                have HBi := hid (l01Bits_calls acc hacc2)
                clear hinv hnum hacc hj hj8
                by_cases hcn : cn .f32 acc = acc
                · have HT2 := hid (HT.out acc (rdNum_eq hp8 HR.out hcn))
                  rw [hcn] at HBi
                  clear hcn HT HF
                  go_wp2_with (first
                    | (go_at_call 67; refine (HFr.out _).mono ?_; rintro e w' ⟨rfl, rfl⟩)
                    | (go_at_call 68; refine (HBi.out _).mono ?_; rintro e w' ⟨rfl, nb, rfl⟩; refine Hid.out ?_))
                  refine hid ?_
                  have hown2 := hid (show (w'.drewN nb).ownsRow w.heap.size 56 1 (.slice A3 k c3) k (f32s (vals rdNum 0 (P.take k))) from hown.out)
                  have hpt2 := hid (show OwnT (w'.drewN nb) (w.alloc (.cells #[] 56)).heap.size (.slice (some ⟨g, 0, none⟩) N c2) N P from hpt.out)
                  have hbel2 := hid (below_drewN hbel.out nb)
                  have hsz2 := hbel2.out.size
                  clear hown hpt hbel hsz hc HFr HBi
                  generalize w'.drewN nb = w2 at *
                  go_wp2_with (at_builtin; refine wpList_append_lies _ rfl _ _ 36 rfl w.heap.size 56 i0 (Value.float .f32 0) 1 4 Tryd.underlying36 hi0 hz0 hz1 hz2 rfl (by decide) (.slice A3 k c3) k (f32s (vals rdNum 0 (P.take k))) rfl (hown2.out.alloc _) ⟨_, 0, none⟩ 1 1 [.float .f32 acc] rfl rfl (any_new _ _ _) (f32s_oneCell [acc]) (by decide) (by unfold maxLen; omega) (by omega) (by simp; omega) _ rfl ?_; intro g2 c4 w5 hown3 hgrow hat hlt2; rw [f32s_snoc, ← HT2.out.2] at hown3; have OW2 := hid hown3; have BL2 := hid (grown_below hbel2.out hown2.out hgrow); have PT2 := hid (keep_texts hpt2.out hown2.out hgrow hap.out); have AP2 := hid (apart_new hpt2.out hown2.out hap.out hat); clear hown3 hgrow hat hlt2)
                  go_roundw
                  case rel => exact ⟨k + 1, c4, _, hlt, by go_num, rfl, HT2.out.1, OW2, PT2, AP2, BL2⟩
                  case measure => simp [intOf]; omega
                · obtain rfl := HBad.out (HF.out (rdNum_ne HR.out hcn))
                  have hnq := cn_neq hcn
                  have HBi2 := hid HBi.out
                  clear hcn HT HF
                  generalize cn .f32 acc = z at *
                  go_wp2_with (first
                    | (go_at_call 67; refine (HFr.out _).mono ?_; rintro e w' ⟨rfl, rfl⟩)
                    | (go_at_call 68; refine (HBi2.out _).mono ?_; rintro e w' ⟨rfl, nb, rfl⟩))
                  go_ret2
                  exact RetV.none (below_drewN hbel.out _)
          · obtain rfl := HBad.out (HF.out (rdNum_len hp8))
            have hb8 : ((S.size : Int) != 8) = true := by rw [bne_iff_ne]; omega
            go_wp2_with fail
            go_ret2
            exact RetV.none hbel.out
        · obtain rfl : k = N := by omega
          have hall2 := hall.out
          have ho := hown.out
          rw [List.take_of_length_le (by rw [HN.out]; omega)] at hall2 ho
          obtain rfl := HYes.out (by have := HN.out; omega) hall2
          have HO2 := hid ho
          clear hall2 ho hlt hk
          go_wp2
          go_ret2
          exact RetV.some HO2.out hbel.out
theorem sReadNumbers_calls (s : ByteArray) (hs : s.size ≤ 1048576) (w : World) : Calls Tryd.prog 26 #[.string s] w (RetV 56 (f32s ((readN s.data.toList).getD [])) (readN s.data.toList).isSome w) := by
  have HC := hid (l01NRead_calls s hs w)
  generalize f32s ((readN s.data.toList).getD []) = xs at *
  generalize (readN s.data.toList).isSome = b at *
  go_enter Tryd.func26, Tryd.ntmps26
  go_wp2_with (go_at_call 51; refine HC.out.mono ?_; rintro e w1 ⟨A2, c2, rfl, h1, h2, h3⟩; have H1 := hid h1; have H2 := hid h2; have H3 := hid h3; clear h1 h2 h3)
  go_ret2
  exact ⟨A2, c2, rfl, H1.out, H2.out, H3.out⟩
end Go.Proofs.YtkbfhooiloaokaaDoor.Num
