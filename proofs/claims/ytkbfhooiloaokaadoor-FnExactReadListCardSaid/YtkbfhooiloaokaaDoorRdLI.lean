/-
  The list with a text, by the program (readList, ReadList).
-/
import Derived.Test.YtkbfhooiloaokaaDoorRdLS
namespace Go.Proofs.YtkbfhooiloaokaaDoor.Num
open Go.RowKit Go.Proofs.Fl Go.Proofs.Tx Go.Proofs.Dc
set_option linter.unusedVariables false
set_option linter.unusedSimpArgs false
/-- what the program reads of the library's variables stands, whatever is done from block B on -/
structure Lib3 (B : Nat) (w : World) : Prop where
  tab : Tab B w
  errs : Errs B w
  maxl : MaxL B w
theorem Lib3.on {B : Nat} {w w1 : World} (h : Lib3 B w) (hb : Below B w w1) : Lib3 B w1 := ⟨h.tab.on hb, h.errs.on hb, h.maxl.on hb⟩
theorem ps_piece (l : List UInt8) : ∀ p ∈ ps l, p.length ≤ l.length := by
  unfold ps
  split
  · intro p hp; cases hp
  · exact cut_piece l
def readAny (l : List UInt8) : Option (List Int) := if okAll rdDec (ps l) = true then some (vals rdDec 0 (ps l)) else none
theorem readAny_bad {l : List UInt8} (hb : okAll rdDec (ps l) = false) : readAny l = none := by unfold readAny; rw [if_neg (by rw [hb]; decide)]
theorem readAny_yes {l : List UInt8} (hb : okAll rdDec (ps l) = true) : readAny l = some (vals rdDec 0 (ps l)) := by unfold readAny; rw [if_pos hb]
theorem readL_any {l : List UInt8} : readL l = (readAny l).filter fun zs => decide (zs.length ≤ 64) := by
  unfold readL readAny ps
  by_cases h : l = none4
  · rw [if_pos h, if_pos h]; rfl
  · rw [if_neg h, if_neg h]
    by_cases hb : okAll rdDec (cut l) = true
    · rw [if_pos hb]
      by_cases h64 : (cut l).length ≤ 64
      · rw [if_pos ⟨h64, hb⟩]
        simp [Option.filter, vals_length, h64]
      · rw [if_neg fun e => h64 e.1]
        simp [Option.filter, vals_length, h64]
    · rw [if_neg fun e => hb e.2, if_neg hb]; rfl
set_option maxRecDepth 100000 in
set_option maxHeartbeats 1600000 in
theorem readList_calls (s : ByteArray) (hs : s.size ≤ 1048576) (w : World) {B : Nat} (hB : B ≤ w.heap.size) (hL : Lib3 B w) :
    Calls Tryd.prog 45 #[.string s] w (RetList (readAny s.data.toList) w) := by
  obtain ⟨i0, hi0, hz0, hz1, hz2⟩ := info_parts1 i64_info
  have hsl : s.data.toList.length = s.size := by simp
  have HBad := hid (readAny_bad (l := s.data.toList))
  have HYes := hid (readAny_yes (l := s.data.toList))
  have HPc := hid (ps_piece s.data.toList)
  have hpl0 := ps_len s.data.toList
  have HLB := hid (fun w' (h : Below w.heap.size w w') => hL.on (h.mono hB))
  have HC := hid (fun w' (h : Below w.heap.size w w') => pieces_calls s hs w' (hL.maxl.on (h.mono hB)))
  have HO := hid (own_none (w := w) (base := w.heap.size) (e := 2) (Nat.le_refl _))
  have HB0 := hid ((Below.refl w.heap.size w).alloc (Nat.le_refl _) (.cells #[] 2))
  generalize ps s.data.toList = P at *
  generalize readAny s.data.toList = R at *
  clear hL
  go_enter Tryd.func45, Tryd.ntmps45
  go_wp2_with (go_at_call 52; refine (HC.out _ HB0.out).mono ?_; rintro e w1 ⟨A2, c2, rfl, hown, hbel⟩; have HP := hid hown; have HO1 := hid (own_step HO.out hbel); have HAP := hid (apart_low (g := w.heap.size) hown (by simp)); have HB1 := hid (HB0.out.trans (hbel.mono HB0.out.size)); clear hown hbel)
  obtain ⟨N, hN⟩ : ∃ N, P.length = N := ⟨_, rfl⟩
  have HN := hid hN
  rw [hN] at HP hpl0
  simp only [hN]
  clear hN
  go_loopw [4, 6, 7, 8, 13] (fun o _ _ _ i wr => ∃ (k c3 : Nat) (A3 : Option Addr), k ≤ N ∧ i = .int .i64 k ∧ o = .slice A3 k c3 ∧ Hid (okAll rdDec (P.take k) = true) ∧ Hid (wr.ownsRow w.heap.size 2 1 (.slice A3 k c3) k (i64s (vals rdDec 0 (P.take k)))) ∧ Hid (OwnT wr (w.alloc (.cells #[] 2)).heap.size (.slice A2 N c2) N P) ∧ Hid (Apart A3 A2) ∧ Hid (Below w.heap.size w wr)) (fun _ _ _ _ i _ => N - (intOf i).toNat)
  case atStart => exact ⟨0, 0, _, Nat.zero_le _, rfl, rfl, rfl, HO1.out, HP, HAP, HB1⟩
  case round =>
    obtain ⟨k, c3, A3, hk, rfl, rfl, hall, hown, hpt, hap, hbel⟩ := hrel
    have hsz := hbel.out.size
    clear HP HAP HB1 HO1 HB0 HO
    by_cases hlt : k < N
    · have hkp : k < P.length := by have := HN.out; omega
      obtain ⟨g, rfl, hg, _, hc⟩ := hpt.out.cell hlt
      have hpl := HPc.out _ (List.getElem_mem hkp)
      have HT := hid (fun v => okAll_take rdDec 0 hkp hall.out (v := v))
      have HF := hid (okAll_bad rdDec hkp)
      clear hg
      generalize P[k] = p at *
      have HL := HLB.out wr hbel.out
      have HV := hid (ReadDecimal_calls ⟨p.toArray⟩ (by rw [mk_size]; omega) wr (B := B) (by omega) HL.tab HL.errs)
      rw [mk_list] at HV
      clear HL
      cases hr : rdDec p with
      | none =>
        rw [hr] at HV
        obtain rfl := HBad.out (HF.out hr)
        clear hr HT HF
        go_wp2_with (go_at_call 13; refine HV.out.mono ?_; rintro e w2 ⟨rfl, hb⟩; have HB2 := hid hb; clear hb)
        go_ret2
        exact RetList.none (hbel.out.trans (HB2.out.mono hsz))
      | some v =>
        rw [hr] at HV
        have HT2 := hid (HT.out v hr)
        clear hr HT HF
        go_wp2_with (first
          | (go_at_call 13; refine HV.out.mono ?_; rintro e w2 ⟨rfl, hb⟩; have HB2 := hid hb; clear hb)
          | (at_builtin; refine wpList_append_lies _ rfl _ _ 27 rfl w.heap.size 2 i0 (Value.int .i64 0) 1 8 Tryd.underlying27 hi0 hz0 hz1 hz2 rfl (by decide) (.slice A3 k c3) k (i64s (vals rdDec 0 (P.take k))) rfl ((own_step hown.out HB2.out).alloc _) ⟨_, 0, none⟩ 1 1 [.int .i64 v] rfl rfl (i64_new _ _) (i64s_oneCell' [v]) (by decide) (by unfold maxLen; omega) (by omega) (by simp; have := HB2.out.size; omega) _ rfl ?_; intro g2 c4 w5 hown2 hgrow hat hlt2; rw [i64s_snoc, ← HT2.out.2] at hown2; have OW2 := hid hown2; have BL2 := hid (grown_below (hbel.out.trans (HB2.out.mono hsz)) (own_step hown.out HB2.out) hgrow); have PT2 := hid (keep_texts (own_step hpt.out HB2.out) (own_step hown.out HB2.out) hgrow hap.out); have AP2 := hid (apart_new (own_step hpt.out HB2.out) (own_step hown.out HB2.out) hap.out hat); clear hown2 hgrow hat hlt2))
        go_roundw
        case rel => exact ⟨k + 1, c4, _, hlt, by go_num, rfl, HT2.out.1, OW2, PT2, AP2, BL2⟩
        case measure => simp [intOf]; omega
    · obtain rfl : k = N := by omega
      have hall2 := hall.out
      have ho := hown.out
      rw [List.take_of_length_le (by rw [HN.out]; omega)] at hall2 ho
      obtain rfl := HYes.out hall2
      have HO2 := hid ho
      clear hall2 ho hlt hk
      go_wp2
      go_ret2
      exact RetList.some HO2.out hbel.out
theorem readAny_len (l : List UInt8) : ((readAny l).getD []).length ≤ l.length + 1 := by
  unfold readAny
  split
  · simp only [Option.getD_some, vals_length]; exact ps_len l
  · simp
theorem ReadList_calls (s : ByteArray) (hs : s.size ≤ 1048576) (w : World) {B : Nat} (hB : B ≤ w.heap.size) (hL : Lib3 B w) :
    Calls Tryd.prog 19 #[.string s] w (RetList (readL s.data.toList) w) := by
  have HC := hid (readList_calls s hs w hB hL)
  have HE := hid (readL_any (l := s.data.toList))
  have hlen := readAny_len s.data.toList
  have hsl : s.data.toList.length = s.size := by simp
  clear hL
  cases hr : readAny s.data.toList with
  | none =>
    rw [hr] at HC HE
    have HE2 := hid (show readL s.data.toList = none from HE.out)
    clear hr HE hlen
    go_enter Tryd.func19, Tryd.ntmps19
    go_wp2_with (go_at_call 45; refine HC.out.mono ?_; rintro e w1 ⟨A2, c2, rfl, h1, h2, h3⟩; have H3 := hid h3; clear h1 h2 h3)
    go_ret2
    rw [HE2.out]
    exact RetList.none H3.out
  | some zs =>
    rw [hr] at HC HE hlen
    simp only [Option.getD_some] at hlen
    obtain ⟨n, hn⟩ : ∃ n, zs.length = n := ⟨_, rfl⟩
    by_cases h64 : zs.length ≤ 64
    · have HE2 := hid (show readL s.data.toList = some zs by rw [HE.out]; simp [Option.filter, h64])
      have HN := hid hn
      rw [hn] at h64 hlen
      clear hr HE hn
      go_enter Tryd.func19, Tryd.ntmps19
      go_wp2_with (go_at_call 45; refine HC.out.mono ?_; rintro e w1 ⟨A2, c2, rfl, h1, h2, h3⟩; rw [show ((some zs : Option (List Int)).getD []).length = n from HN.out] at *; have H1 := hid h1; have H2 := hid h2; have H3 := hid h3; clear h1 h2 h3)
      go_ret2
      rw [HE2.out]
      exact ⟨A2, c2, by rw [show ((some zs : Option (List Int)).getD []).length = n from HN.out]; rfl, by rw [show ((some zs : Option (List Int)).getD []).length = n from HN.out]; exact H1.out, by rw [show ((some zs : Option (List Int)).getD []).length = n from HN.out]; exact H2.out, H3.out⟩
    · have HE2 := hid (show readL s.data.toList = none by rw [HE.out]; simp [Option.filter, h64])
      have HN := hid hn
      rw [hn] at h64 hlen
      clear hr HE hn
      go_enter Tryd.func19, Tryd.ntmps19
      go_wp2_with (go_at_call 45; refine HC.out.mono ?_; rintro e w1 ⟨A2, c2, rfl, h1, h2, h3⟩; rw [show ((some zs : Option (List Int)).getD []).length = n from HN.out] at *; have H3 := hid h3; clear h1 h2 h3)
      go_ret2
      rw [HE2.out]
      exact RetList.none H3.out
theorem sReadList_calls (s : ByteArray) (hs : s.size ≤ 1048576) (w : World) : Calls Tryd.prog 18 #[.string s] w (RetList (readL s.data.toList) w) := by
  have HC := hid (l01Numbers_calls s hs w)
  go_enter Tryd.func18, Tryd.ntmps18
  go_wp2_with (go_at_call 44; refine HC.out.mono ?_; rintro e w1 ⟨A2, c2, rfl, h1, h2, h3⟩; have H1 := hid h1; have H2 := hid h2; have H3 := hid h3; clear h1 h2 h3)
  go_ret2
  exact ⟨A2, c2, rfl, H1.out, H2.out, H3.out⟩
end Go.Proofs.YtkbfhooiloaokaaDoor.Num
