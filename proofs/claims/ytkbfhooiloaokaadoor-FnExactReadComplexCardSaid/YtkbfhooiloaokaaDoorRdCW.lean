/-
  The list of complex64 with a text, by the program (ReadComplex), walked.
-/
import Derived.Test.YtkbfhooiloaokaaDoorCTextI
import Derived.Deep.RegionLaw
namespace Go.Proofs.YtkbfhooiloaokaaDoor.Num
open Go.RowKit Go.Proofs.Fl Go.Proofs.Hx Go.Proofs.Tx
set_option linter.unusedVariables false
set_option linter.unusedSimpArgs false
def RetF (x : Nat) (w : World) (e : Ending) (w' : World) : Prop := e = .returned (.float .f32 x) ∧ Below w.heap.size w w'
theorem at_readHex {T : ByteArray} {x : Nat} (h8 : T.size = 8) (hx : (rdU T.data.toList).getD 0 = x) (w w1 : World) {B : Nat} (hB : B ≤ w.heap.size) (hE : Hid (∀ w', Below w.heap.size w w' → Errs B w')) (h : Hid (Below w.heap.size w w1)) :
    Calls Tryd.prog 53 #[.string T] w1 (RetF x w1) := by
  rw [← hx]
  exact readHex_calls T h8 w1 (B := B) (Nat.le_trans hB h.out.size) (hE.out w1 h.out)
theorem at_rd {T : ByteArray} {x : Nat} {w0 w1 : World} (h : Hid (∀ w', Hid (Below w0.heap.size w0 w') → Calls Tryd.prog 53 #[.string T] w' (RetF x w'))) (hb : Hid (Below w0.heap.size w0 w1)) :
    Calls Tryd.prog 53 #[.string T] w1 (RetF x w1) := h.out w1 hb
set_option maxRecDepth 100000 in
set_option maxHeartbeats 6400000 in
theorem ReadComplex_calls (s : ByteArray) (hs : s.size ≤ 1048576) (w : World) {B : Nat} (hB : B ≤ w.heap.size) (hL : Lib4 B w) :
    Calls Tryd.prog 31 #[.string s] w (RetV 64 (c64s ((readC s.data.toList).getD [])) (readC s.data.toList).isSome w) := by
  obtain ⟨i0, hi0, hz0, hz1, hz2⟩ := info_parts1 c64_info
  have hsl : s.data.toList.length = s.size := by simp
  have HN8 := hid (fun k (hk : k < (ps s.data.toList).length) => readC_not16 s.data.toList hk)
  have HMany := hid (readC_many s.data.toList)
  have HEnd := hid (readC_ps s.data.toList)
  have hpl0 := ps_len s.data.toList
  have HLB := hid (fun w' (h : Below w.heap.size w w') => hL.on (h.mono hB))
  have HBs := hid hB
  have HC := hid (fun w' (h : Below w.heap.size w w') => pieces_calls s hs w' (hL.maxl.on (h.mono hB)))
  have HO := hid (own_none (w := w) (base := w.heap.size) (e := 64) (Nat.le_refl _))
  have HB0 := hid ((Below.refl w.heap.size w).alloc (Nat.le_refl _) (.cells #[] 64))
  generalize ps s.data.toList = P at *
  generalize readC s.data.toList = R at *
  clear hL hB
  go_enter Tryd.func31, Tryd.ntmps31
  go_wp2_with (go_at_call 52; refine (HC.out _ HB0.out).mono ?_; rintro e w1 ⟨A2, c2, rfl, hown, hbel⟩; have HP := hid hown; have HO1 := hid (own_step HO.out hbel); have HAP := hid (apart_low (g := w.heap.size) hown (by simp)); have HB1 := hid (HB0.out.trans (hbel.mono HB0.out.size)); clear hown hbel)
  obtain ⟨N, hN⟩ : ∃ N, P.length = N := ⟨_, rfl⟩
  have HN := hid hN
  rw [hN] at HP hpl0
  simp only [hN]
  clear hN
  go_loopw [4, 6, 13] (fun o _ i wr => ∃ (k c3 : Nat) (A3 : Option Addr), k ≤ N ∧ k ≤ 256 ∧ i = .int .i64 k ∧ o = .slice A3 k c3 ∧ Hid (all16 (P.take k) = true) ∧ Hid (wr.ownsRow w.heap.size 64 1 (.slice A3 k c3) k (c64s ((P.take k).map anyPair))) ∧ Hid (OwnT wr (w.alloc (.cells #[] 64)).heap.size (.slice A2 N c2) N P) ∧ Hid (Apart A3 A2) ∧ Hid (Below w.heap.size w wr)) (fun _ _ i _ => N - (intOf i).toNat)
  case atStart => exact ⟨0, 0, _, Nat.zero_le _, Nat.zero_le _, rfl, rfl, rfl, HO1.out, HP, HAP, HB1⟩
  case round =>
    obtain ⟨k, c3, A3, hk, hk256, rfl, rfl, hall, hown, hpt, hap, hbel⟩ := hrel
    have hsz := hbel.out.size
    clear HP HAP HB1 HO1 HB0 HO
    by_cases hlt : k < N
    · have hkp : k < P.length := by have := HN.out; omega
      obtain ⟨g, rfl, hg, _, hc⟩ := hpt.out.cell hlt
      have hT := hid (all16_take hkp hall.out)
      have hF := hid (HN8.out k hkp)
      have hA := hid (anyP_take hkp)
      clear hg
      generalize P[k] = p at *
      obtain ⟨S, hS⟩ : ∃ S : ByteArray, S = ⟨p.toArray⟩ := ⟨_, rfl⟩
      have hSz : S.size = p.length := by rw [hS]; exact mk_size p
      have hSl : S.data.toList = p := by simp [hS]
      rw [← hS] at hc
      clear hS
      by_cases hp8 : p.length = 16
      · rw [hp8] at hSz
        by_cases h256 : k = 256
        · subst h256
          obtain rfl := HMany.out (by have := HN.out; omega)
          clear hp8 hSl
          go_wp2_with fail
          go_ret2
          exact RetV.none hbel.out
        · have hT2 := hid (hT.out hp8)
          have hBw := Nat.le_trans HBs.out hsz
          have HLE := hid (fun w' (h : Below wr.heap.size wr w') => (HLB.out w' (hbel.out.trans (h.mono hsz))).errs)
          have HV1 := hid (fun w' h => at_readHex (T := S.extract 0 8) (x := (anyPair p).1) (by rw [ByteArray.size_extract]; omega) (by rw [half_fst, hSl]; rfl) wr w' (B := B) hBw HLE h)
          have HV2 := hid (fun w' h => at_readHex (T := S.extract 8 16) (x := (anyPair p).2) (by rw [ByteArray.size_extract]; omega) (by have := half_snd S hSz; rw [hSz] at this; rw [this, hSl]; rfl) wr w' (B := B) hBw HLE h)
          have HB0 := hid (Below.refl wr.heap.size wr).drew
          have hke : ((k : Int) == 256) = false := by simp; omega
          clear hp8 hSl hT hF hBw
          generalize anyPair p = z at *
          obtain ⟨z1, z2⟩ := z
          simp only at HV1 HV2
          go_wp2_with fail
          go_region_law (first
            | (go_simp; go_at_call 53; refine (at_rd (x := z1) (by with_reducible assumption) (by with_reducible exact HB0)).mono ?_; rintro e w2 ⟨rfl, hb⟩; have HB2 := hid (HB0.out.trans hb); clear hb)
            | (go_simp; go_at_call 53; refine (at_rd (x := z2) (by with_reducible assumption) (by with_reducible exact HB2)).mono ?_; rintro e w3 ⟨rfl, hb⟩; have HB3 := hid (HB2.out.trans (hb.mono HB2.out.size)); clear hb)
            | (refine step_append_lies _ (by rfl) _ _ 44 (by rfl) w.heap.size 64 i0 (Value.complex .f32 0 0) 1 8 Tryd.underlying44 hi0 hz0 hz1 hz2 rfl (by decide) (.slice A3 k c3) k (c64s ((P.take k).map anyPair)) (by rfl) ((own_step hown.out HB3.out).alloc _) ⟨w3.heap.size, 0, none⟩ 1 1 [.complex .f32 z1 z2] (by rfl) rfl (any_new _ _ _) (c64s_oneCell [(z1, z2)]) (by decide) (by unfold maxLen; omega) (by omega) (by simp; have := HB3.out.size; omega) _ rfl ?_; intro g2 c4 w5 hown3 hgrow hat hlt2; rw [show c64s ((P.take k).map anyPair) ++ [.complex .f32 z1 z2] = _ from c64s_snoc _ (z1, z2), ← hA.out] at hown3; have OW2 := hid hown3; have BL2 := hid (grown_below (hbel.out.trans (HB3.out.mono hsz)) (own_step hown.out HB3.out) hgrow); have PT2 := hid (keep_texts (own_step hpt.out HB3.out) (own_step hown.out HB3.out) hgrow hap.out); have AP2 := hid (apart_new (own_step hpt.out HB3.out) (own_step hown.out HB3.out) hap.out hat); clear hown3 hgrow hat hlt2))
          go_wp2_with fail
          go_roundw
          case rel => exact ⟨k + 1, c4, _, hlt, by omega, by go_num, rfl, hT2, OW2, PT2, AP2, BL2⟩
          case measure => simp [intOf]; omega
      · obtain rfl := hF.out hp8
        have hb8 : ((S.size : Int) != 16) = true := by rw [bne_iff_ne]; omega
        clear hSl
        go_wp2_with fail
        go_ret2
        exact RetV.none hbel.out
    · obtain rfl : k = N := by omega
      have hall2 := hall.out
      have ho := hown.out
      rw [List.take_of_length_le (by rw [HN.out]; omega)] at hall2 ho
      have he := HEnd.out hall2 (by have := HN.out; omega)
      have hm := all16_mem hall2
      have hx : ((P.map anyPair).length) = k := by rw [List.length_map]; exact HN.out
      have hwf : ∀ z ∈ P.map anyPair, z.1 < 4294967296 ∧ z.2 < 4294967296 := by
        intro x hx2
        obtain ⟨p, hp, rfl⟩ := List.mem_map.1 hx2
        exact anyPair_lt (hm p hp)
      clear hm hall2 hlt hk
      have hnt : cplxText (P.map anyPair) = some (textJ ((P.map anyPair).map hexP)) := by unfold cplxText; rw [if_pos (by omega)]
      have HO2 := hid ho
      have hD := (HLB.out wr hbel.out).deb
      have hBw := Nat.le_trans HBs.out hsz
      have HT := hid (ComplexText_calls A3 k c3 (P.map anyPair) hx (by omega) hwf wr (B := B) hBw (ownV_any ho).1.rd hD)
      rw [hnt] at HT
      clear ho hx hwf hnt hD hBw
      generalize textJ ((P.map anyPair).map hexP) = txt at *
      generalize P.map anyPair = xs at *
      by_cases htx : txt = s.data.toList
      · rw [if_pos htx] at he
        have hse : (txt == s.toList) = true := by rw [ByteArray.toList_eq, htx]; exact beq_self_eq_true _
        have HE := hid he
        clear he htx
        go_wp2_with (go_at_call 55; refine HT.out.mono ?_; rintro e w2 ⟨rfl, hb⟩; have HB2 := hid hb; clear hb)
        go_ret2
        rw [HE.out]
        exact RetV.some (own_step HO2.out HB2.out) (hbel.out.trans (HB2.out.mono hsz))
      · rw [if_neg htx] at he
        have hse : (txt == s.toList) = false := by rw [ByteArray.toList_eq]; simpa using htx
        have HE := hid he
        clear he htx
        go_wp2_with (go_at_call 55; refine HT.out.mono ?_; rintro e w2 ⟨rfl, hb⟩; have HB2 := hid hb; clear hb)
        go_ret2
        rw [HE.out]
        exact RetV.none (hbel.out.trans (HB2.out.mono hsz))
end Go.Proofs.YtkbfhooiloaokaaDoor.Num
