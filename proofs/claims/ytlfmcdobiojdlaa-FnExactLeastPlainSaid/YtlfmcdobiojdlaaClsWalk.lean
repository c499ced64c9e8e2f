/-
  The classes of a plain machine's states, by the program: the walk.
-/
import Derived.Test.YtlfmcdobiojdlaaClsImpl
namespace Go.Proofs.Ytlfmcdobiojdlaa.fnExactLeastPlain
open Go.RowKit Go.Proofs.Fl Go.Proofs.Ytlfmcdobiojdlaa.Num Go.Proofs.Cls
open Go.Proofs.Ytlfmcdobiojdlaa.fnExactApartWord (Pl toN idx_lt mul_cast_small own_mono bel_al step_of wfI)
open Go.Maps (Keyed)
set_option linter.unusedVariables false
set_option linter.unusedSimpArgs false
theorem nats_getD (q : List Nat) (k x : Nat) (h : q[k]? = some x) : (nats q).getD k 0 = (x : Int) := by
  unfold nats
  rw [List.getD_eq_getElem?_getD, List.getElem?_map, h]
  rfl
theorem wrap_one (q : Nat) (h : q ≤ 4) {p5 : Nat} (hp : p5 = q + 1) : wrap64 (1 + (q : Int)) = (p5 : Int) ∧ IntKind.i64.wrap (1 + (q : Int)) = (p5 : Int) := ⟨by unfold wrap64; omega, by rw [IntKind.wrap_i64]; omega⟩
theorem q_facts {q l : Nat} (h : q < l) (h2 : l ≤ 4) : q + 1 < 5 ∧ (q : Int) + 1 < 5 ∧ (q = 0 ∨ q = 1 ∨ q = 2 ∨ q = 3) := ⟨by omega, by omega, by omega⟩
theorem meas_lt {q l : Nat} (h : q < l) : l - ((q : Int) + 1).toNat < l - ((q : Int)).toNat := by omega
theorem five_new (w : World) (c0 : Nat) : Five (w.alloc (.cells #[.int .i64 (c0 : Int), .int .i64 0, .int .i64 0, .int .i64 0, .int .i64 0] 84)) w.heap.size [c0] :=
  ⟨by simp [kAt5], by simp [kAt5], by simp [kAt5], by simp [kAt5], by simp [kAt5], fun o => by go_simp, by simp⟩
set_option maxRecDepth 100000 in
set_option maxHeartbeats 12800000 in
theorem classesOf_calls (s l : Nat) (A : Option Addr) (n c : Nat) (B : Option Addr) (m d : Nat) (xs : List Int) (bs : List Bool) (hP : Pl s l n xs m bs) (w : World) (hl : ListsP w A B xs bs) :
    Calls Try.prog 69 #[.agg #[.int .i64 s, .int .i64 l, .slice A n c, .slice B m d]] w (fun e w' => ∃ g, e = .returned (.slice (some ⟨g, 0, none⟩) s s) ∧ OwnI w' g s (nats (clsL xs bs s l s)) ∧ w.heap.size ≤ g ∧ Below w.heap.size w w') := by
  obtain ⟨j0, hj0, hw0, hw1, hw2⟩ := info_parts toInt64S_info
  have HP := hid hP
  have hs1 := hP.s1
  have hs2 := hP.s2
  have hl1 := hP.l1
  have hl2 := hP.l2
  have hbl : bs.length = s := by have h1 := hP.bl; have h2 := hP.ms; omega
  have hms : s = m := hP.ms.symm
  subst hms
  obtain ⟨b1, o1, rfl, hb1⟩ : ∃ b1 o1, B = some ⟨b1, o1, none⟩ ∧ b1 < w.heap.size := by
    obtain ⟨b1, o1, e, hb, _⟩ := bools_at hl.b (k := 0) (by omega)
    exact ⟨b1, o1, e, hb⟩
  have HL := hid hl
  have Hz := hid (toList_madeCells_one (Value.int .i64 0) s)
  have Hmul := hid (Nat.mul_one s)
  have hn1 : n ≤ 1048576 := by have := hP.ns; have := Nat.mul_le_mul hP.s2 hP.l2; omega
  clear hl
  have hmm := @run_makeMap Try.prog
  have BE0 := hid ((Below.refl w.heap.size w).alloc (Nat.le_refl _) (.cells #[.int .i64 (s : Int), .int .i64 (l : Int), .slice A n c, .slice (some ⟨b1, o1, none⟩) s d] 31))
  have PA0 := hid (show PlainAt (w.alloc (.cells #[.int .i64 (s : Int), .int .i64 (l : Int), .slice A n c, .slice (some ⟨b1, o1, none⟩) s d] 31)) w.heap.size s l A n c (some ⟨b1, o1, none⟩) s d from ⟨by go_simp, by go_simp, by go_simp, by go_simp⟩)
  have z0 : (w.alloc (.cells #[.int .i64 (s : Int), .int .i64 (l : Int), .slice A n c, .slice (some ⟨b1, o1, none⟩) s d] 31)).heap.size = w.heap.size + 1 := by simp
  go_enter Try.func69, Try.ntmps69
  go_wp2_with (at_make; refine wpList_make_full _ rfl _ _ 22 rfl (w.alloc (.cells #[.int .i64 (s : Int), .int .i64 (l : Int), .slice A n c, .slice (some ⟨b1, o1, none⟩) s d] 31)).heap.size 2 j0 (Value.int .i64 0) 1 Try.underlying22 hj0 hw0 hw1 _ _ _ _ s rfl rfl rfl rfl (by rw [hw2]; omega) (by simp only [maxLen]; omega) (Nat.le_refl _) ?_; intro wm hown hgrow; rw [Hmul.out] at hown; simp only [Value.cells] at hown; rw [Hz.out, i64s_rep] at hown; have BM := hid (show Below (w.alloc (.cells #[.int .i64 (s : Int), .int .i64 (l : Int), .slice A n c, .slice (some ⟨b1, o1, none⟩) s d] 31)).heap.size (w.alloc (.cells #[.int .i64 (s : Int), .int .i64 (l : Int), .slice A n c, .slice (some ⟨b1, o1, none⟩) s d] 31)) wm from (Below.refl _ _).grown hgrow (Nat.le_refl _) (by simp)); have OM := hid (OwnI.of hown); have PAM := hid (PA0.out.step BM.out (by rw [z0]; omega)); obtain ⟨q0, q1, q2, q3⟩ := PAM.out; clear hown hgrow)
  have BW := hid (BE0.out.trans (BM.out.mono (by rw [z0]; omega)))
  have OM0 := hid (show OwnI wm (w.heap.size + 1) s (mixN (cls (enL bs) (toN xs l) l 0) s 0) from by rw [mixN_zero]; exact z0 ▸ OM.out)
  clear q0 q1 q2 q3 BM OM BE0 PA0
  generalize hb2 : w.heap.size + 1 = b2 at *
  have hwb : w.heap.size < b2 := by omega
  clear z0
  go_loopw [19] (fun i wr => ∃ j : Nat, j ≤ s ∧ i = .int .i64 j ∧ Hid (OwnI wr b2 s (mixN (cls (enL bs) (toN xs l) l 0) s j)) ∧ Hid (Below b2 wm wr)) (fun i _ => s - (intOf i).toNat)
  case atStart => exact ⟨0, Nat.zero_le _, rfl, OM0, Below.refl _ _⟩
  case round =>
    clear OM0
    obtain ⟨j, hj, rfl, OW, BE⟩ := hrel
    have BEW := hid (BW.out.trans (BE.out.mono (Nat.le_of_lt hwb)))
    have PA1 := hid (PAM.out.keep fun o => BE.out.cell (p := ⟨w.heap.size, o, none⟩) hwb)
    by_cases hjm : j < s
    · have hjs : j < s := by omega
      have hjb : j < bs.length := by omega
      obtain ⟨b3, o3, hbe, hb3, e1⟩ := bools_at (rd_step HL.out.b BEW.out) hjb
      cases hbe
      have HC := hid (show (cls (enL bs) (toN xs l) l 0) j = if bs[j] then 1 else 0 by unfold cls enL; simp [List.getD_eq_getElem?_getD, hjb])
      have HST := hid (mixN_set (cls (enL bs) (toN xs l) l 0) s j hjs)
      have HSK := hid (mixN_skip (cls (enL bs) (toN xs l) l 0) s j)
      have hold := OW.out.cell hjs
      have hfr := OW.out.frozen j
      have hjsI : (j : Int) < (s : Int) := by omega
      generalize bs[j] = p at *
      cases p
      · go_wp2_with fail
        go_roundw
        case rel => exact ⟨j + 1, hjm, by go_num, by rw [← HSK.out (by rw [HC.out]; rfl)]; exact OW, BE⟩
        case measure => simp [intOf]; omega
      · go_wp2_with fail
        have OW2 := hid (OW.out.set j 1)
        have BE2 := hid (BE.out.setCell (p := ⟨b2, j, none⟩) (Nat.le_refl _) (.int .i64 1))
        go_roundw
        case rel => exact ⟨j + 1, hjm, by go_num, by rw [← HST.out, HC.out]; exact OW2, BE2⟩
        case measure => simp [intOf]; omega
    · obtain ⟨q0, q1, q2, q3⟩ := PA1.out
      have hsj : s = j := by omega
      subst hsj
      have O0 := hid (show OwnI wr b2 s (nats (clsL xs bs s l 0)) from by have h := OW.out; rw [mixN_all] at h; exact h)
      go_wp2_with fail
      clear q0 q1 q2 q3 OW PA1 BEW
      go_loopw [3, 31] (fun v3 i wr => ∃ (r g3 : Nat), r ≤ s ∧ i = .int .i64 r ∧ v3 = .slice (some ⟨g3, 0, none⟩) s s ∧ b2 ≤ g3 ∧ Hid (OwnI wr g3 s (nats (clsL xs bs s l r))) ∧ Hid (Below b2 wm wr)) (fun _ i _ => s - (intOf i).toNat)
      case atStart => exact ⟨0, b2, Nat.zero_le _, rfl, rfl, Nat.le_refl _, O0, BE⟩
      case round =>
        clear O0 BE
        obtain ⟨r, g3, hr, rfl, rfl, hgb, OS, BE⟩ := hrel
        have BEW := hid (BW.out.trans (BE.out.mono (Nat.le_of_lt hwb)))
        by_cases hrs : r < s
        · generalize wr = w2 at *
          have PA2 := hid ((PAM.out.keep fun o => BE.out.cell (p := ⟨w.heap.size, o, none⟩) hwb).step ((Below.refl w2.heap.size w2).alloc (Nat.le_refl _) (.map #[] 0)) (by have := BE.out.size; have := OS.out.lt; omega))
          obtain ⟨q0, q1, q2, q3⟩ := PA2.out
          have z2 : (w2.alloc (.map #[] 0)).heap.size = w2.heap.size + 1 := by simp
          have MP0 := hid (MapIs.made w2)
          go_wp2_with (at_make; refine wpList_make_full _ rfl _ _ 22 rfl (w2.alloc (.map #[] 0)).heap.size 2 j0 (Value.int .i64 0) 1 Try.underlying22 hj0 hw0 hw1 _ _ _ _ s rfl rfl rfl rfl (by rw [hw2]; omega) (by simp only [maxLen]; omega) (Nat.le_refl _) ?_; intro wn hown hgrow; rw [Hmul.out] at hown; simp only [Value.cells] at hown; rw [Hz.out, i64s_rep] at hown; have BM2 := hid (show Below (w2.alloc (.map #[] 0)).heap.size (w2.alloc (.map #[] 0)) wn from (Below.refl _ _).grown hgrow (Nat.le_refl _) (by simp)); have OM := hid (OwnI.of hown); have PAM2 := hid (PA2.out.step BM2.out (by have := OS.out.lt; rw [z2]; omega)); obtain ⟨r0, r1, r2, r3⟩ := PAM2.out; clear hown hgrow)
          have OM2 := hid (show OwnI wn (w2.heap.size + 1) s (mixN (cls (enL bs) (toN xs l) l (r + 1)) s 0) from by rw [mixN_zero]; exact z2 ▸ OM.out)
          have MP2 := hid (show MapIs wn w2.heap.size (kvK (ksOf (toN xs l) l (cls (enL bs) (toN xs l) l r) 0)) from MP0.out.keep (BM2.out.block _ (by rw [z2]; omega)))
          have BE2 := hid (show Below w2.heap.size w2 wn from ((Below.refl w2.heap.size w2).alloc (Nat.le_refl _) _).trans (BM2.out.mono (by rw [z2]; omega)))
          have hg32 := OS.out.lt
          have hb23 : b2 ≤ w2.heap.size := by omega
          clear r0 r1 r2 r3 q0 q1 q2 q3 OM MP0 BM2 PA2 PAM2
          generalize hbm : w2.heap.size = bm at *
          go_loopw [39] (fun i wx => ∃ k : Nat, k ≤ s ∧ i = .int .i64 k ∧ Hid (MapIs wx bm (kvK (ksOf (toN xs l) l (cls (enL bs) (toN xs l) l r) k))) ∧ Hid (OwnI wx (bm + 1) s (mixN (cls (enL bs) (toN xs l) l (r + 1)) s k)) ∧ Hid (Below bm w2 wx)) (fun i _ => s - (intOf i).toNat)
          case atStart => exact ⟨0, Nat.zero_le _, rfl, MP2, OM2, BE2⟩
          case round =>
            clear MP2 OM2 BE2
            obtain ⟨k, hk, rfl, MP, ON, BX⟩ := hrel
            have hbmw : bm ≤ wr.heap.size := by have := MP.out.lt; omega
            have BXW := hid (BEW.out.trans (BX.out.mono (by omega)))
            by_cases hks : k < s
            · generalize wr = w3 at *
              have hbm3 := MP.out.lt
              have hgx3 := ON.out.lt
              have OSX := hid (OS.out.keep (BX.out.block g3 (by omega)))
              have ck0 := OSX.out.cell hks
              rw [nats_getD _ _ _ (clsL_get xs bs s l r hks)] at ck0
              have hkI : (k : Int) < (s : Int) := by omega
              have HKEY := hid (show (key (toN xs l) l (cls (enL bs) (toN xs l) l r) k) = ((cls (enL bs) (toN xs l) l r) k :: (List.range l).map (fun t => (cls (enL bs) (toN xs l) l r) (toN xs l k t))) from rfl)
              have HKS := hid (show (ksOf (toN xs l) l (cls (enL bs) (toN xs l) l r) (k + 1)) = addK (ksOf (toN xs l) l (cls (enL bs) (toN xs l) l r) k) (key (toN xs l) l (cls (enL bs) (toN xs l) l r) k) from rfl)
              have HRN := hid (show (cls (enL bs) (toN xs l) l (r + 1)) k = idxK (ksOf (toN xs l) l (cls (enL bs) (toN xs l) l r) k) (key (toN xs l) l (cls (enL bs) (toN xs l) l r) k) from rfl)
              have HST := hid (mixN_set (cls (enL bs) (toN xs l) l (r + 1)) s k hks)
              have HSM := hid (ksOf_small HP.out r k hk)
              have HKM := hid (keys_small HP.out r hks)
              have HND := hid (ksOf_nodup (toN xs l) l (cls (enL bs) (toN xs l) l r) k)
              have HKL := hid (@ksOf_len (toN xs l) l (cls (enL bs) (toN xs l) l r) k)
              have PA3 := hid ((PAM.out.keep fun o => BE.out.cell (p := ⟨w.heap.size, o, none⟩) hwb).keep fun o => BX.out.cell (p := ⟨w.heap.size, o, none⟩) (show w.heap.size < bm by omega))
              obtain ⟨q0, q1, q2, q3⟩ := PA3.out.step ((Below.refl w3.heap.size w3).alloc (Nat.le_refl _) (.cells #[.int .i64 (((cls (enL bs) (toN xs l) l r) k : Nat) : Int), .int .i64 0, .int .i64 0, .int .i64 0, .int .i64 0] 84)) (by omega)
              have FV0 := hid (five_new w3 ((cls (enL bs) (toN xs l) l r) k))
              have D0 := hid (bel_al (Below.refl w3.heap.size w3) (Nat.le_refl _) (.cells #[.int .i64 (((cls (enL bs) (toN xs l) l r) k : Nat) : Int), .int .i64 0, .int .i64 0, .int .i64 0, .int .i64 0] 84))
              go_wp2_with fail
              clear q0 q1 q2 q3 ck0
              have FV1 := hid (show Five (w3.alloc (.cells #[.int .i64 (((cls (enL bs) (toN xs l) l r) k : Nat) : Int), .int .i64 0, .int .i64 0, .int .i64 0, .int .i64 0] 84)) w3.heap.size ((cls (enL bs) (toN xs l) l r) k :: (List.range 0).map (fun t => (cls (enL bs) (toN xs l) l r) (toN xs l k t))) from FV0.out)
              clear FV0
              have hg3k : g3 < w3.heap.size := by omega
              generalize w3.alloc (.cells #[.int .i64 (((cls (enL bs) (toN xs l) l r) k : Nat) : Int), .int .i64 0, .int .i64 0, .int .i64 0, .int .i64 0] 84) = v3 at *
              generalize hbk : w3.heap.size = bk at *
              go_loopw [49] (fun i wy => ∃ q : Nat, q ≤ l ∧ i = .int .i64 q ∧ Hid (Five wy bk ((cls (enL bs) (toN xs l) l r) k :: (List.range q).map (fun t => (cls (enL bs) (toN xs l) l r) (toN xs l k t)))) ∧ Hid (Below bk w3 wy)) (fun i _ => l - (intOf i).toNat)
              case atStart => exact ⟨0, Nat.zero_le _, rfl, FV1, D0⟩
              case round =>
                clear FV1 D0
                obtain ⟨q, hq, rfl, FV, DB⟩ := hrel
                have hbkw := FV.out.lt
                have BYW := hid (BXW.out.trans (DB.out.mono (by omega)))
                have PA4 := hid (PA3.out.keep fun o => DB.out.cell (p := ⟨w.heap.size, o, none⟩) (show w.heap.size < bk by omega))
                by_cases hql : q < l
                · obtain ⟨so, hvs⟩ := step_of HP.out hks hql
                  have HTO := hid (to_calls s l A n c (some ⟨b1, o1, none⟩) s d xs HP.out.xl hn1 k q _ _ so wr (rd_step HL.out.a BYW.out))
                  have HPQ := hid (show ((cls (enL bs) (toN xs l) l r) k :: (List.range q).map (fun t => (cls (enL bs) (toN xs l) l r) (toN xs l k t))) ++ [(cls (enL bs) (toN xs l) l r) (toN xs l k q)] = ((cls (enL bs) (toN xs l) l r) k :: (List.range (q + 1)).map (fun t => (cls (enL bs) (toN xs l) l r) (toN xs l k t))) by rw [List.range_succ, List.map_append, List.map_cons, List.map_nil, ← List.cons_append])
                  have HLEN := hid (show ((cls (enL bs) (toN xs l) l r) k :: (List.range q).map (fun t => (cls (enL bs) (toN xs l) l r) (toN xs l k t))).length = q + 1 by simp)
                  clear so
                  generalize toN xs l k q = v at *
                  obtain ⟨q0, q1, q2, q3⟩ := PA4.out
                  obtain ⟨p5, hp5⟩ : ∃ p5, p5 = q + 1 := ⟨_, rfl⟩
                  obtain ⟨W1, U1⟩ := wrap_one q (Nat.le_trans (Nat.le_of_lt hql) hl2) hp5
                  have HP5 := hid hp5
                  clear hp5
                  go_wp2_with fail
                  refine HTO.out.mono ?_
                  rintro e w5 ⟨rfl, bel5⟩
                  have FV5 := hid (FV.out.step bel5)
                  have DB5 := hid (DB.out.trans (bel5.mono (Nat.le_of_lt hbkw)))
                  have OS5 := hid (OSX.out.keep (DB5.out.block g3 hg3k))
                  have cv := OS5.out.cell hvs
                  rw [nats_getD _ _ _ (clsL_get xs bs s l r hvs)] at cv
                  have hvI : (v : Int) < (s : Int) := Int.ofNat_lt.2 hvs
                  have FV6 := hid (FV5.out.set ((cls (enL bs) (toN xs l) l r) v) (by rw [HLEN.out]; exact (q_facts hql hl2).1))
                  rw [HLEN.out, HPQ.out, ← HP5.out] at FV6
                  have DB6 := hid (DB5.out.setCell (p := ⟨bk, p5, none⟩) (Nat.le_refl _) (.int .i64 (((cls (enL bs) (toN xs l) l r) v : Nat) : Int)))
                  have hq5 : (p5 : Int) < 5 := by rw [HP5.out]; exact (q_facts hql hl2).2.1
                  have ks5 : ∃ u, w5.cell? ⟨bk, p5, none⟩ = some u := by
                    rw [HP5.out]
                    obtain ⟨h0, h1, h2, h3, h4, _, _⟩ := FV5.out
                    rcases (q_facts hql hl2).2.2 with rfl | rfl | rfl | rfl
                    · exact ⟨_, h1⟩
                    · exact ⟨_, h2⟩
                    · exact ⟨_, h3⟩
                    · exact ⟨_, h4⟩
                  obtain ⟨u5, ks5⟩ := ks5
                  have kf5 := FV5.out.fr p5
                  clear bel5
                  generalize (cls (enL bs) (toN xs l) l r) v = cvv at *
                  go_wp2_with fail
                  go_roundw
                  case rel => exact ⟨q + 1, hql, by go_num, by rw [← HP5.out]; exact FV6, DB6⟩
                  case measure => exact meas_lt hql
                · have hqe : q = l := Nat.le_antisymm hq (Nat.le_of_not_lt hql)
                  subst hqe
                  have FVK := hid (show Five wr bk (key (toN xs q) q (cls (enL bs) (toN xs q) q r) k) from FV.out)
                  have MPY := hid (MP.out.keep (DB.out.block bm hbm3))
                  have ONY := hid (ON.out.keep (DB.out.block (bm + 1) hgx3))
                  have BXY := hid (BX.out.trans (DB.out.mono hbmw))
                  have HK5 := hid (show (key (toN xs q) q (cls (enL bs) (toN xs q) q r) k).length = q + 1 from key_len _ _ _ _)
                  have hinj : ∀ a ∈ (ksOf (toN xs q) q (cls (enL bs) (toN xs q) q r) k), ky5 a = ky5 (key (toN xs q) q (cls (enL bs) (toN xs q) q r) k) → a = (key (toN xs q) q (cls (enL bs) (toN xs q) q r) k) := fun a ha e => ky5_inj (by rw [(HSM.out a ha).2, HK5.out]) (by rw [(HSM.out a ha).2]; omega) e
                  have hkok := kvK_keys (ks := (ksOf (toN xs q) q (cls (enL bs) (toN xs q) q r) k)) fun a ha x hx => Nat.lt_of_le_of_lt ((HSM.out a ha).1 x hx) (by decide)
                  have hkey := (ky5_key (k := (key (toN xs q) q (cls (enL bs) (toN xs q) q r) k)) fun x hx => Nat.lt_of_le_of_lt (HKM.out x hx) (by decide)).choose_spec
                  obtain ⟨f0, f1, f2, f3, f4, _, _⟩ := FVK.out
                  have hold := ONY.out.cell hks
                  have hfr := ONY.out.frozen k
                  have hklI : (ksOf (toN xs q) q (cls (enL bs) (toN xs q) q r) k).length ≤ 64 := by have := HKL.out; omega
                  clear FV FVK DB BYW PA4 MP ON
                  generalize hKY : (key (toN xs q) q (cls (enL bs) (toN xs q) q r) k) = K at *
                  generalize hKS : (ksOf (toN xs q) q (cls (enL bs) (toN xs q) q r) k) = ks at *
                  clear hKY hKS
                  cases hin : ks.contains K
                  · have hno := kvK_no hinj hin
                    have E2 := hid (show addK ks K = ks ++ [K] by unfold addK; rw [hin]; rfl)
                    have HIX := hid (show idxK ks K = ks.length from idxK_not fun hm => by have := List.contains_iff_mem.2 hm; rw [hin] at this; cases this)
                    have hlook := MapIs.look_no MPY.out fiveKeyed Try.underlying83 hkok (z := .int .i64 0) (by go_simp) hkey hno true
                    have hln := MapIs.len MPY.out Try.underlying83 3
                    rw [kvK_len] at hln
                    obtain ⟨w7, hrun, hmap, hgrow⟩ := MapIs.put MPY.out fiveKeyed Try.underlying83 hkok (val := .int .i64 (ks.length : Int)) hkey hno
                    rw [kvK_snoc] at hmap
                    have K7 := hid (Kept.of_grown hgrow)
                    have MP7 := hid hmap
                    have ON7 := hid (ONY.out.keep (K7.out.block (bm + 1) ONY.out.lt fun r hr e => by rw [List.mem_singleton.1 hr] at e; have := Option.some.inj e; omega))
                    have BX7 := hid (BXY.out.trans (K7.out.below (Nat.le_of_lt MPY.out.lt) fun r hr g e => by rw [List.mem_singleton.1 hr] at e; rw [← Option.some.inj e]; exact Nat.le_refl _))
                    have hold7 := ON7.out.cell hks
                    have hfr7 := ON7.out.frozen k
                    have ON8 := hid (ON7.out.set k (ks.length : Int))
                    have MP8 := hid (MP7.out.keep (w' := w7.setCell ⟨bm + 1, k, none⟩ (.int .i64 (ks.length : Int))) (Below.heap_setCell _ _ _ _ (show bm ≠ bm + 1 by omega)))
                    have BX8 := hid (BX7.out.setCell (p := ⟨bm + 1, k, none⟩) (Nat.le_succ _) (.int .i64 (ks.length : Int)))
                    unfold ky5 at hlook hrun
                    simp only [if_true] at hlook
                    clear hkok hkey hno hmap hgrow hin hinj
                    go_wp2_with fail
                    go_roundw
                    case rel => exact ⟨k + 1, hks, by go_num, by rw [HKS.out, E2.out]; exact MP8, by rw [← HST.out, HRN.out, HIX.out]; exact ON8, BX8⟩
                    case measure => exact meas_lt hks
                  · have E2 := hid (show addK ks K = ks by unfold addK; rw [if_pos hin])
                    have hlook := MapIs.look_yes MPY.out fiveKeyed Try.underlying83 hkok hkey (kvK_yes hin) (kvK_uni HND.out hinj hin) true
                    unfold ky5 at hlook
                    simp only [if_true] at hlook
                    clear hkok hkey hin hinj
                    generalize hix : idxK ks K = ix at *
                    clear hix
                    have ON8 := hid (ONY.out.set k (ix : Int))
                    have MP8 := hid (MPY.out.keep (w' := wr.setCell ⟨bm + 1, k, none⟩ (.int .i64 (ix : Int))) (Below.heap_setCell _ _ _ _ (show bm ≠ bm + 1 by omega)))
                    have BX8 := hid (BXY.out.setCell (p := ⟨bm + 1, k, none⟩) (Nat.le_succ _) (.int .i64 (ix : Int)))
                    go_wp2_with fail
                    go_roundw
                    case rel => exact ⟨k + 1, hks, by go_num, by rw [HKS.out, E2.out]; exact MP8, by rw [← HST.out, HRN.out]; exact ON8, BX8⟩
                    case measure => exact meas_lt hks
            · have hke : k = s := Nat.le_antisymm hk (Nat.le_of_not_lt hks)
              subst hke
              have ONF := hid (show OwnI wr (bm + 1) k (nats (clsL xs bs k l (r + 1))) from by have h := ON.out; rw [mixN_all] at h; exact h)
              have BEF := hid (BE.out.trans (BX.out.mono hb23))
              have hgf : b2 ≤ bm + 1 := Nat.le_succ_of_le hb23
              go_wp2_with fail
              go_roundw
              case rel => exact ⟨r + 1, bm + 1, hrs, by go_num, rfl, hgf, ONF, BEF⟩
              case measure => exact meas_lt hrs
        · have hre : r = s := by omega
          subst hre
          go_wp2_with fail
          go_ret
          exact ⟨g3, rfl, OS.out, by omega, BEW.out⟩
end Go.Proofs.Ytlfmcdobiojdlaa.fnExactLeastPlain
