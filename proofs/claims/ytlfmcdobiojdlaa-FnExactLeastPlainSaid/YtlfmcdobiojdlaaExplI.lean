/-
  The program's explore over whole numbers.
-/
import Derived.Test.YtlfmcdobiojdlaaExplKeys
import Derived.Deep.RegionLaw
import Derived.Deep.CutRange
namespace Go.Proofs.Ytlfmcdobiojdlaa.Num
open Go.RowKit Go.Proofs.Fl Go.Proofs.Exp
open Go.Proofs.Ytlfmcdobiojdlaa.fnExactApartWord (pairV pair_inj pair_key own_row_ge pairKeyed bel_al own_one own_mono PairAt grew_lies)
open Go.Proofs.Ytlfmcdobiojdlaa.fnExactOtherPlain (RetBP ownP_nil within_nil)
open Go.Maps (Keyed)
set_option linter.unusedVariables false
set_option linter.unusedSimpArgs false
theorem intKeyed : Keyed Try.prog 2 := Go.Maps.int_keyed Try.underlying2
theorem kyI_key {c : Nat} (h : c < 4611686018427387904) : ∃ l, keyOf Try.prog 2 (kyI c) = some l := ⟨_, Go.Maps.keyOf_int_mk Try.underlying2 (Go.Proofs.Ytlfmcdobiojdlaa.fnExactApartWord.wfI (by omega))⟩
theorem kvI_keys {q : List Nat} (h : ∀ c ∈ q, c < 4611686018427387904) : KeysOk Try.prog 2 (kvN kyI q) := by
  intro p hp
  obtain ⟨i, hi, rfl⟩ := List.mem_map.1 hp
  exact kyI_key (h _ (at_mem (List.mem_range.1 hi)))
set_option maxRecDepth 100000 in
set_option maxHeartbeats 12800000 in
theorem exploreI_calls (l M : Nat) (c0 : Nat) (hc0 : c0 < M) (hl : l ≤ 4) (hM : M ≤ 4096) (h0 : 0 < M) (nx : Nat → Nat → Nat) (en : Nat → Bool) (hnx : ∀ c k, c < M → k < l → nx c k < M) (cN cE : Array Value) (w : World)
    (HN : ∀ c j w', c < M → j < l → Below w.heap.size w w' → Calls Try.prog 72 (#[(.int .i64 (c : Int)), .int .i64 (j : Int)] ++ cN) w' (fun e w'' => e = .returned (.int .i64 ((nx c j) : Int)) ∧ Below w'.heap.size w' w''))
    (HE : ∀ c w', c < M → Below w.heap.size w w' → Calls Try.prog 74 (#[(.int .i64 (c : Int))] ++ cE) w' (fun e w'' => e = .returned (.bool (en c)) ∧ Below w'.heap.size w' w''))
    (r : Option (Nat × List Int × List Bool)) (hr : Ans nx en l c0 r) :
    Calls Try.prog 73 #[.int .i64 (l : Int), (.int .i64 (c0 : Int)), .func (.func 72) #[] cN, .func (.func 74) #[] cE] w (RetM l r w) := by
  obtain ⟨j0, hj0, hw0, hw1, hw2⟩ := info_parts toInt64S_info
  obtain ⟨i0, hi0, hz0, hz1, hz2⟩ := info_parts toBoolS_info
  obtain ⟨i2, hi2, hy0, hy1, hy2⟩ := info_parts pair2_info
  have HR := hid hr
  have HNX := hid HN
  have HEX := hid HE
  have HQL := hid fun i hi => Q_lt (nx := nx) (L := l) (c0 := c0) (M := M) hc0 hnx i hi
  have HND := hid (Q_nodup nx l c0)
  clear hr HN HE
  obtain ⟨w4, hrun, hmap, hgrow⟩ := MapIs.put (w := (((w.alloc (.cells #[.int .i64 0, .int .i64 0, .slice none 0 0, .slice none 0 0] 31)).alloc (.cells #[.int .i64 0, .int .i64 (l : Int), .slice none 0 0, .slice none 0 0] 31)).alloc (.map #[] 0))) (b := w.heap.size + 1 + 1) (kvs := []) (val := .int .i64 0) (by have h := MapIs.made (((w.alloc (.cells #[.int .i64 0, .int .i64 0, .slice none 0 0, .slice none 0 0] 31)).alloc (.cells #[.int .i64 0, .int .i64 (l : Int), .slice none 0 0, .slice none 0 0] 31))); simpa using h) intKeyed Try.underlying85 (fun p hp => nomatch hp) ((kyI_key (c := c0) (by omega))).choose_spec (fun p hp => nomatch hp)
  have HMAP := hid hmap
  have HGROW := hid hgrow
  unfold kyI at hrun
  clear hmap hgrow
  have hmm := @run_makeMap Try.prog
  go_enter Try.func73, Try.ntmps73
  go_wp2_with fail
  have K4 := hid (Kept.of_grown HGROW.out)
  have z4 : w.heap.size + 1 + 1 + 1 ≤ w4.heap.size := by have := K4.out.size; simpa using this
  have OPX := hid (outP_new (w.alloc (.cells #[.int .i64 0, .int .i64 0, .slice none 0 0, .slice none 0 0] 31)) (l : Int) (base := w.heap.size + 1) (by simp) (E := []) (fun e he => nomatch he))
  have zz1 : (w.alloc (.cells #[.int .i64 0, .int .i64 0, .slice none 0 0, .slice none 0 0] 31)).heap.size = w.heap.size + 1 := by simp
  have zz2 : ((w.alloc (.cells #[.int .i64 0, .int .i64 0, .slice none 0 0, .slice none 0 0] 31)).alloc (.cells #[.int .i64 0, .int .i64 (l : Int), .slice none 0 0, .slice none 0 0] 31)).heap.size = w.heap.size + 1 + 1 := by simp
  have KK := hid (show Kept ((w.alloc (.cells #[.int .i64 0, .int .i64 0, .slice none 0 0, .slice none 0 0] 31)).alloc (.cells #[.int .i64 0, .int .i64 (l : Int), .slice none 0 0, .slice none 0 0] 31)) (w4.alloc (.cells #[.int .i64 (c0 : Int)] 2)) [some (w.heap.size + 1 + 1)] from ((Kept.of_below ((Below.refl _ _).alloc (Nat.le_refl _) (.map #[] 0)) _).trans K4.out).trans (Kept.of_below ((Below.refl _ _).alloc (Nat.le_refl _) _) _))
  have OP0 := hid (OPX.out.kept KK.out (fun r hr g e => by rw [List.mem_singleton.1 hr] at e; have := Option.some.inj e; rw [zz2]; omega) (E' := [w4.heap.size, w.heap.size + 1 + 1]) (fun x hx => by
    rw [zz2]
    simp at hx
    rcases hx with rfl | rfl
    · exact .inr ⟨by omega, by simp⟩
    · exact .inr ⟨by omega, by simp; omega⟩))
  have RP0 := hid (own_mono (own_one w4 2 (.int .i64 (c0 : Int))) (show w.heap.size + 1 ≤ w4.heap.size by omega))
  have MP0 := hid (show MapIs (w4.alloc (.cells #[.int .i64 (c0 : Int)] 2)) (w.heap.size + 1 + 1) (kvN (kyI) (Q nx l c0 0)) from (by
    have h := HMAP.out.keep (w' := w4.alloc (.cells #[.int .i64 (c0 : Int)] 2)) (((Below.refl w4.heap.size w4).alloc (Nat.le_refl _) _).block _ (by omega))
    simpa [kvN, Exp.Q, at_, kyP, kyI] using h))
  have BL0 := hid (show Below (w.heap.size + 1) (w.alloc (.cells #[.int .i64 0, .int .i64 0, .slice none 0 0, .slice none 0 0] 31)) (w4.alloc (.cells #[.int .i64 (c0 : Int)] 2)) from by
    have a := (Below.refl (w.alloc (.cells #[.int .i64 0, .int .i64 0, .slice none 0 0, .slice none 0 0] 31)).heap.size (w.alloc (.cells #[.int .i64 0, .int .i64 0, .slice none 0 0, .slice none 0 0] 31))).alloc (Nat.le_refl _) (.cells #[.int .i64 0, .int .i64 (l : Int), .slice none 0 0, .slice none 0 0] 31)
    rw [zz1] at a
    exact a.trans (KK.out.below (by rw [zz2]; omega) fun r hr g e => by rw [List.mem_singleton.1 hr] at e; have := Option.some.inj e; omega))
  have BELW := hid (show Below w.heap.size w (w.alloc (.cells #[.int .i64 0, .int .i64 0, .slice none 0 0, .slice none 0 0] 31)) from (Below.refl w.heap.size w).alloc (Nat.le_refl _) _)
  have PZ := hid (show PlainAt (w.alloc (.cells #[.int .i64 0, .int .i64 0, .slice none 0 0, .slice none 0 0] 31)) (w.heap.size) 0 0 none 0 0 none 0 0 from ⟨by go_simp, by go_simp, by go_simp, by go_simp⟩)
  have FZ := hid (show ∀ o, (w.alloc (.cells #[.int .i64 0, .int .i64 0, .slice none 0 0, .slice none 0 0] 31)).frozen? ⟨w.heap.size, o, none⟩ = false from fun o => by go_simp)
  rw [zz1] at OP0
  have hgb : w4.heap.size ≠ w.heap.size + 1 + 1 := by omega
  clear zz2 OPX KK K4 HMAP HGROW hrun z4
  generalize w4.alloc (.cells #[.int .i64 (c0 : Int)] 2) = v0 at *
  generalize (w.alloc (.cells #[.int .i64 0, .int .i64 0, .slice none 0 0, .slice none 0 0] 31)) = W1 at *
  generalize w4.heap.size = gp0 at *

  have hzb0 : w.heap.size < w.heap.size + 1 := by omega
  have hbb0 : w.heap.size + 1 ≤ w.heap.size + 1 + 1 := by omega
  have hbz0 : w.heap.size ≤ w.heap.size := by omega
  generalize hbm : w.heap.size + 1 + 1 = bm at *
  generalize hb1 : w.heap.size + 1 = b1 at *
  skip
  have hzb : w.heap.size < b1 := by omega
  have hbw : w.heap.size ≤ b1 := by omega
  have OPZ := hid (show OutP v0 b1 b1 l (N nx l c0 0) (D nx en l c0 0) none 0 none 0 [gp0, bm] from OP0.out)
  clear OP0 hmm
  go_loopw [12, 13] (fun v12 i wr => ∃ (k gp cp : Nat) (Ao : Option Addr) (co : Nat) (Bo : Option Addr) (do_ : Nat), i = .int .i64 k ∧ v12 = .slice (some ⟨gp, 0, none⟩) (Q nx l c0 k).length cp ∧ Hid (wr.ownsRow b1 2 1 (.slice (some ⟨gp, 0, none⟩) (Q nx l c0 k).length cp) (Q nx l c0 k).length (i64s (nats (Q nx l c0 k)))) ∧ Hid (MapIs wr bm (kvN (kyI) (Q nx l c0 k))) ∧ gp ≠ bm ∧ Hid (OutP wr b1 b1 l (N nx l c0 k) (D nx en l c0 k) Ao co Bo do_ [gp, bm]) ∧ Hid (Below b1 W1 wr) ∧ Hid (∀ j, j < k → j < (Q nx l c0 j).length ∧ (Q nx l c0 j).length ≤ 64) ∧ (Q nx l c0 k).length ≤ 64) (fun _ i _ => 65 - (intOf i).toNat)
  case atStart => exact ⟨0, gp0, 1, none, 0, none, 0, rfl, rfl, RP0, MP0, hgb, OPZ, BL0, (fun j hj => absurd hj (by omega)), by simp [Exp.Q]⟩
  case round =>
    clear RP0 MP0 OPZ BL0 hgb
    obtain ⟨k, gp, cp, Ao, co, Bo, do_, rfl, rfl, RP, MP, hgb, OP, BL, HD, h64⟩ := hrel
    have hge := Q_ge (nx := nx) (L := l) (c0 := c0) k fun j hj => (HD.out j hj).1
    have BELR := hid (BELW.out.trans (BL.out.mono hbw))
    by_cases hlt : k < (Q nx l c0 k).length
    · obtain ⟨code, hcode⟩ : ∃ c, c = at_ (Q nx l c0 k) k := ⟨_, rfl⟩
      have hc : code < M := by rw [hcode]; exact HQL.out k (fun j hj => (HD.out j hj).1) _ (at_mem hlt)
      have HAT := hid hcode
      obtain ⟨x, hx, pc⟩ := own_nats RP.out hlt
      have hxc : x = code := by rw [hcode]; unfold at_; rw [List.getD_eq_getElem?_getD, hx]; rfl
      rw [hxc] at pc
      clear hcode hx
      have hkr : (k : Int) < ((Q nx l c0 k).length : Int) := by omega
      go_upto_region 8 with (fail)
      have OPV := OP
      have RPV := RP
      have MPV := MP
      have BLV := BL
      clear OP RP MP BL BELR pc
      generalize hv1 : wr = v1 at *
      clear hv1
      have BELV := hid (BELW.out.trans (BLV.out.mono hbw))
      have HDL := hid (D_len nx en l c0 k)
      have HD1 := hid (show D nx en l c0 (k + 1) = (D nx en l c0 k) ++ [en code] by rw [HAT.out]; rfl)
      have HEC := hid (HEX.out code v1.drew hc (BELV.out.trans (Below.refl _ _).drew))
      
      have y3 := OPV.out.at_.c3
      have hkk : k ≤ 64 := by omega
      generalize hD1e : D nx en l c0 (k + 1) = D1 at *
      have HDE := hid hD1e
      clear hD1e
      generalize (D nx en l c0 k) = D0 at *
      generalize en code = b at *
      go_cut [] from 36 to 43 (fun wx => ∃ (g7 c7 : Nat), Hid (OutP wx b1 b1 l (N nx l c0 k) D1 Ao co (some ⟨g7, 0, none⟩) c7 [gp, bm]) ∧ Hid (wx.ownsRow b1 2 1 (.slice (some ⟨gp, 0, none⟩) (Q nx l c0 k).length cp) (Q nx l c0 k).length (i64s (nats (Q nx l c0 k)))) ∧ Hid (MapIs wx bm (kvN (kyI) (Q nx l c0 k))) ∧ Hid (Below b1 W1 wx))
      case first =>
        first | (go_region_law (first | (go_simp; go_at_call 74; refine HEC.out.mono ?_; rintro e wa ⟨rfl, ba⟩; have OPA := hid ((OPV.out.drew').step ba); have y3a := OPA.out.at_.c3; have y3b := ((Below.refl wa.heap.size wa).alloc (Nat.le_refl _) (.cells #[.bool b] 4)).cell (p := ⟨b1, 3, none⟩) OPA.out.lt |>.trans y3a; have BA := hid ba; clear ba) | (refine step_append_lies _ (by rfl) _ _ 26 (by rfl) b1 4 i0 (Value.bool false) 1 1 Try.underlying26 hi0 hz0 hz1 hz2 rfl (by decide) (.slice Bo D0.length do_) D0.length (bools D0) (by rfl) (OPA.out.rb.alloc _) ⟨wa.heap.size, 0, none⟩ 1 1 [.bool b] (by rfl) rfl (World.news_of_block (heap_alloc_new wa (.cells #[.bool b] 4))) (fun u hu => by rw [List.mem_singleton.1 hu]; rfl) (by decide) (by have := HDL.out; unfold maxLen; omega) (by have := HDL.out; omega) (Nat.le_trans OPA.out.size ((Below.refl wa.heap.size wa).alloc (Nat.le_refl _) _).size) (wa.heap.size + 1) (by simp) ?_; intro g7 c7 w7 hown hgrow hat hlt7; obtain ⟨pp7, pf7⟩ := OPA.out.cells (.inr rfl) hgrow; obtain ⟨t0, t1, t2, t3⟩ := pp7; have f3 := pf7 3; have OA7 := hid (OPA.out.addB (x := b) (by rw [show bools D0 ++ [Value.bool b] = bools (D0 ++ [b]) by simp [bools]] at hown; exact hown) hgrow hat); clear hown hgrow hat pf7))) | fail
        all_goals
          go_wp2_with fail
          go_meet
          case rel =>
            have DA := hid (show Below v1.heap.size v1 wa from (Below.refl v1.heap.size v1).drew.trans BA.out)
            exact ⟨g7, c7, by rw [HD1.out]; exact OA7.out.1, own_keep (own_keep RPV.out (DA.out.block _ (own_lt RPV.out))) (OA7.out.2.1 gp (by simp)), (MPV.out.keep (DA.out.block _ MPV.out.lt)).keep (OA7.out.2.1 bm (by simp)), (BLV.out.trans (DA.out.mono OPV.out.size)).trans OA7.out.2.2⟩
      case rest =>
        obtain ⟨g7, c7, OPB, RPB, MPB, BLB⟩ := hcut
        generalize wc = w2 at *
        clear OPV RPV MPV BLV BELV HEC HDL y3
        generalize hqq : (Q nx l c0 k) = q at *
        have EQ := hid hqq
        have hnd : q.Nodup := by rw [← hqq]; exact HND.out k
        clear hqq
        have HQM := hid (show ∀ x ∈ q, x < M from by rw [← EQ.out]; exact HQL.out k (fun j hj => (HD.out j hj).1))
        have HNL := hid (show (N nx l c0 k).length ≤ 256 by rw [N_len]; have := Nat.mul_le_mul (show k ≤ 64 by omega) hl; omega)
        have HQ1 := hid (show Q nx l c0 (k + 1) = adds nx code q l by rw [HAT.out, ← EQ.out]; rfl)
        have HN1 := hid (show N nx l c0 (k + 1) = (N nx l c0 k) ++ tells nx code q l by rw [HAT.out, ← EQ.out]; rfl)
        have HD2 := hid (show ∀ j, j < k + 1 → j < (Q nx l c0 j).length ∧ (Q nx l c0 j).length ≤ 64 from fun j hj => by
          by_cases e : j = k
          · subst e; rw [EQ.out]; exact ⟨hlt, h64⟩
          · exact HD.out j (by omega))
        generalize (N nx l c0 k) = N0 at *
        go_wp2_with fail
        go_loopw [12, 45] (fun v12 i wr => ∃ (j gp cp : Nat) (Ao : Option Addr) (co : Nat), j ≤ l ∧ i = .int .i64 j ∧ v12 = .slice (some ⟨gp, 0, none⟩) (adds nx code q j).length cp ∧ Hid (wr.ownsRow b1 2 1 (.slice (some ⟨gp, 0, none⟩) (adds nx code q j).length cp) (adds nx code q j).length (i64s (nats (adds nx code q j)))) ∧ Hid (MapIs wr bm (kvN (kyI) (adds nx code q j))) ∧ gp ≠ bm ∧ Hid (OutP wr b1 b1 l (N0 ++ tells nx code q j) D1 Ao co (some ⟨g7, 0, none⟩) c7 [gp, bm]) ∧ Hid (Below b1 W1 wr)) (fun _ i _ => l - (intOf i).toNat)
        case atStart => exact ⟨0, gp, cp, Ao, co, Nat.zero_le _, rfl, rfl, RPB, MPB, hgb, by rw [show N0 ++ tells nx code q 0 = N0 from List.append_nil _]; exact OPB, BLB⟩
        case round =>
          clear RPB MPB OPB BLB hgb
          obtain ⟨j, gp, cp, Ao, co, hj, rfl, rfl, RP, MP, hgb, OP, BL⟩ := hrel
          have BELR := hid (BELW.out.trans (BL.out.mono hbw))
          by_cases hjl : j < l
          · have HCN := hid (HNX.out code j wr hc hjl BELR.out)
            have hnM := hnx code j hc hjl
            have HA2 := hid (show adds nx code q (j + 1) = addQ (adds nx code q j) (nx code j) from rfl)
            have HT2 := hid (show N0 ++ tells nx code q (j + 1) = N0 ++ tells nx code q j ++ [(idx (adds nx code q j) (nx code j) : Int)] by rw [List.append_assoc]; rfl)
            generalize nx code j = nxt at *
            skip
            skip
            skip
            skip
            skip
            skip
            skip
            skip
            go_wp2_with fail
            refine HCN.out.mono ?_
            rintro e w5 ⟨rfl, b5⟩
            have hbig : (adds nx code q j).length ≤ 68 := by have := (adds_le nx code q j).2; omega
            have HAM := hid (show ∀ x ∈ (adds nx code q j), x < M from fun x hx => by
              rcases adds_mem hx with h1 | ⟨k', hk', rfl⟩
              · exact HQM.out x h1
              · exact hnx _ _ hc (by omega))
            have hndj := adds_nodup (nx := nx) (c := code) hnd j
            have HTL := hid (show (N0 ++ tells nx code q j).length ≤ 1000 by rw [List.length_append, tells_len]; have := HNL.out; omega)
            have hkok := kvI_keys (q := (adds nx code q j)) fun c hc2 => by have := HAM.out c hc2; omega
            have hkey := (kyI_key (c := nxt) (by omega)).choose_spec
            have B6 := hid b5
            have OP6 := hid (OP.out.step B6.out)
            have RP6 := hid (own_keep RP.out (B6.out.block _ (own_lt RP.out)))
            have MP6 := hid (MP.out.keep (B6.out.block _ MP.out.lt))
            have BL6 := hid (BL.out.trans (B6.out.mono OP.out.size))
            have hgpb := Go.Proofs.Ytlfmcdobiojdlaa.fnExactOtherPlain.own_ge RP.out
            have hbmb : b1 ≤ bm := hbb0
            
            clear OP RP MP BL BELR HCN b5
            generalize hNT : N0 ++ tells nx code q j = NT at *
            generalize hAj : (adds nx code q j) = Aj at *
            clear hNT hAj
            cases hin : Aj.contains nxt
            · have hno := kvN_no (ky := kyI) (fun a _ h => kyI_inj h) hin
              have HI := hid (idx_not_mem hin)
              have E2 := hid (show addQ Aj nxt = Aj ++ [nxt] by unfold addQ; rw [hin]; rfl)
              have hlook := MapIs.look_no MP6.out intKeyed Try.underlying85 hkok (z := .int .i64 0) (by go_simp) hkey hno true
              obtain ⟨w7, hrun, hmap, hgrow⟩ := MapIs.put MP6.out intKeyed Try.underlying85 hkok (val := .int .i64 (Aj.length : Int)) hkey hno
              rw [kvN_snoc] at hmap
              have MP7 := hid hmap
              have K7 := hid (Kept.of_grown hgrow)
              have OP7 := hid (OP6.out.ext K7.out (by simp))
              have RP7 := hid (own_keep RP6.out (K7.out.block _ (own_lt RP6.out) fun r hr e => by rw [List.mem_singleton.1 hr] at e; exact hgb (Option.some.inj e)))
              have B7 := hid (BL6.out.trans (K7.out.below OP6.out.size fun r hr g e => by rw [List.mem_singleton.1 hr] at e; rw [← Option.some.inj e]; exact hbmb))
              skip
              skip
              skip
              skip
              unfold kyI at hlook hrun
              skip
              simp only [if_true] at hlook
              clear hkok hkey hno hmap hgrow hin
              go_wp2_with (first | (at_builtin; refine wpList_append_lies _ rfl _ _ 22 rfl b1 2 j0 (Value.int .i64 0) 1 8 Try.underlying22 hj0 hw0 hw1 hw2 rfl (by decide) (.slice (some ⟨gp, 0, none⟩) Aj.length cp) Aj.length (i64s (nats Aj)) rfl (RP7.out.alloc _) ⟨w7.heap.size, 0, none⟩ 1 1 [.int .i64 (nxt : Int)] rfl rfl (cell_one_new _ _ _) (ints_oneCell .i64 [(nxt : Int)]) (by decide) (by unfold maxLen; omega) (by omega) (Nat.le_trans OP7.out.size ((Below.refl w7.heap.size w7).alloc (Nat.le_refl _) _).size) (w7.heap.size + 1) (by simp) ?_; intro gp' cp' w8 hown hgrow hat hlt8; have GR8 := hid (grew_lies hgrow hat); have RP8 := hid (show w8.ownsRow b1 2 1 (.slice (some ⟨gp', 0, none⟩) (Aj.length + 1) cp') (Aj.length + 1) (i64s (nats (Aj ++ [nxt]))) by rw [show i64s (nats Aj) ++ [Value.int .i64 (nxt : Int)] = i64s (nats (Aj ++ [nxt])) by simp [i64s, nats]] at hown; exact hown); have OP8 := hid (OP7.out.grew GR8.out hlt8 (by simp) (E' := [gp', bm]) (fun x hx => by simp at hx; rcases hx with rfl | rfl; exact .inr rfl; exact .inl (by simp))); have MP8 := hid (MP7.out.keep (GR8.out.kept.block bm MP7.out.lt (fun r hr e => by rw [List.mem_singleton.1 hr] at e; exact hgb (Option.some.inj e).symm))); have B8 := hid (B7.out.trans (GR8.out.kept.below OP7.out.size (fun r hr g e => by rw [List.mem_singleton.1 hr] at e; rw [← Option.some.inj e]; exact hgpb))); have hgb8 : gp' ≠ bm := (by rcases GR8.out.at_ with e | e; rw [e]; exact hgb; have := MP7.out.lt; omega); obtain ⟨y0, y1, y2, y3⟩ := OP8.out.at_; clear hown hgrow hat) | (at_builtin; refine wpList_append_lies _ rfl _ _ 22 rfl b1 2 j0 (Value.int .i64 0) 1 8 Try.underlying22 hj0 hw0 hw1 hw2 rfl (by decide) (.slice Ao NT.length co) NT.length (i64s NT) rfl (OP8.out.ra.alloc _) ⟨w8.heap.size, 0, none⟩ 1 1 [.int .i64 (Aj.length : Int)] rfl rfl (cell_one_new _ _ _) (ints_oneCell .i64 [(Aj.length : Int)]) (by decide) (by have := HTL.out; unfold maxLen; omega) (by have := HTL.out; omega) (Nat.le_trans OP8.out.size ((Below.refl w8.heap.size w8).alloc (Nat.le_refl _) _).size) (w8.heap.size + 1) (by simp) ?_; intro g8 c8 w9 hown hgrow hat hlt7; obtain ⟨pp7, pf7⟩ := OP8.out.cells (.inl rfl) hgrow; obtain ⟨t0, t1, t2, t3⟩ := pp7; have f2 := pf7 2; have OA9 := hid (OP8.out.addA (x := (Aj.length : Int)) (by rw [show i64s NT ++ [Value.int .i64 (Aj.length : Int)] = i64s (NT ++ [(Aj.length : Int)]) by simp [i64s]] at hown; exact hown) hgrow hat); clear hown hgrow hat pf7))
              go_roundw
              case rel => exact ⟨j + 1, gp', cp', some ⟨g8, 0, none⟩, c8, hjl, by go_num, by rw [HA2.out, E2.out]; simp, by rw [HA2.out, E2.out]; exact by rw [List.length_append]; exact own_keep RP8.out (OA9.out.2.1 gp' (by simp)), by rw [HA2.out, E2.out]; exact MP8.out.keep (OA9.out.2.1 bm (by simp)), hgb8, by rw [HT2.out, HI.out]; exact OA9.out.1, B8.out.trans OA9.out.2.2⟩
              case measure =>
                show l - ((j : Int) + 1).toNat < l - ((j : Int)).toNat
                omega
            · have HI := hid (show idx Aj nxt = place Aj nxt from rfl)
              have E2 := hid (show addQ Aj nxt = Aj by unfold addQ; rw [hin]; rfl)
              have hlook := MapIs.look_yes MP6.out intKeyed Try.underlying85 hkok hkey (kvN_yes (ky := kyI) hin) (kvN_uni (ky := kyI) hndj (fun a _ h => kyI_inj h) hin) true
              skip
              unfold kyI at hlook
              skip
              simp only [if_true] at hlook
              rw [HI.out] at hlook
              clear hkok hkey hin
              generalize place Aj nxt = pl at *
              obtain ⟨y0, y1, y2, y3⟩ := OP6.out.at_
              go_wp2_with (at_builtin; refine wpList_append_lies _ rfl _ _ 22 rfl b1 2 j0 (Value.int .i64 0) 1 8 Try.underlying22 hj0 hw0 hw1 hw2 rfl (by decide) (.slice Ao NT.length co) NT.length (i64s NT) rfl (OP6.out.ra.alloc _) ⟨w5.heap.size, 0, none⟩ 1 1 [.int .i64 (pl : Int)] rfl rfl (cell_one_new _ _ _) (ints_oneCell .i64 [(pl : Int)]) (by decide) (by have := HTL.out; unfold maxLen; omega) (by have := HTL.out; omega) (Nat.le_trans OP6.out.size ((Below.refl w5.heap.size w5).alloc (Nat.le_refl _) _).size) (w5.heap.size + 1) (by simp) ?_; intro g8 c8 w9 hown hgrow hat hlt7; obtain ⟨pp7, pf7⟩ := OP6.out.cells (.inl rfl) hgrow; obtain ⟨t0, t1, t2, t3⟩ := pp7; have f2 := pf7 2; have OA9 := hid (OP6.out.addA (x := (pl : Int)) (by rw [show i64s NT ++ [Value.int .i64 (pl : Int)] = i64s (NT ++ [(pl : Int)]) by simp [i64s]] at hown; exact hown) hgrow hat); clear hown hgrow hat pf7)
              go_roundw
              case rel => exact ⟨j + 1, gp, cp, some ⟨g8, 0, none⟩, c8, hjl, by go_num, by rw [HA2.out, E2.out], by rw [HA2.out, E2.out]; exact own_keep RP6.out (OA9.out.2.1 gp (by simp)), by rw [HA2.out, E2.out]; exact MP6.out.keep (OA9.out.2.1 bm (by simp)), hgb, by rw [HT2.out, HI.out]; exact OA9.out.1, BL6.out.trans OA9.out.2.2⟩
              case measure =>
                show l - ((j : Int) + 1).toNat < l - ((j : Int)).toNat
                omega
          · obtain rfl : j = l := by omega
            have PZ1 := hid (PZ.out.keep fun o => BL.out.cell (p := ⟨w.heap.size, o, none⟩) hzb)
            have FZ1 := hid (fun o => (BL.out.frozen (p := ⟨w.heap.size, o, none⟩) hzb).trans (FZ.out o))
            have hlen := hid (show (adds nx code q j).length = (Q nx j c0 (k + 1)).length by rw [HQ1.out])
            by_cases h65 : 64 < (adds nx code q j).length
            · have HANS := hid (ans_unique HR.out ⟨k + 1, HD2.out, .inl ⟨by rw [← hlen.out]; omega, by rw [← hlen.out]; exact h65, rfl⟩⟩)
              obtain ⟨z0, z1, z2, z3⟩ := PZ1.out
              have fz := FZ1.out
              have k0 := fz 0
              have k1 := fz 1
              have k2 := fz 2
              have k3 := fz 3
              clear fz
              have h65i : ((adds nx code q j).length : Int) > 64 := by omega
              have h65j : (64 : Int) < ((adds nx code q j).length : Int) := by omega
              have hbzw : w.heap.size ≤ w.heap.size := hbz0
              go_wp2_with fail
              rw [HANS.out]
              exact bodyPost_ret (v := .tuple #[.agg #[.int .i64 0, .int .i64 0, .slice none 0 0, .slice none 0 0], .bool false]) (by simp [results, Try.results73, go_sem, z0, z1, z2, z3]) rfl
                ⟨fun _ => ⟨none, 0, none, 0, rfl, ownP_nil _, within_nil _ _, ((((BELR.out.setCell hbzw _).setCell hbzw _).setCell hbzw _).setCell hbzw _)⟩, fun _ _ _ h => nomatch h⟩
            · have h65i : ¬ ((adds nx code q j).length : Int) > 64 := by omega
              have h65j : ¬ (64 : Int) < ((adds nx code q j).length : Int) := by omega
              go_wp2_with fail
              go_roundw
              case rel => exact ⟨k + 1, gp, cp, Ao, co, some ⟨g7, 0, none⟩, c7, by go_num, by rw [HQ1.out], by rw [HQ1.out]; exact RP, by rw [HQ1.out]; exact MP, hgb, by rw [HN1.out, HDE.out]; exact OP.out.more (fun x hx => by simp at hx ⊢; omega), BL, HD2.out, by rw [HQ1.out]; omega⟩
              case measure =>
                show 65 - ((k : Int) + 1).toNat < 65 - ((k : Int)).toNat
                omega
    · have hkl : (Q nx l c0 k).length = k := by omega
      have HANS := hid (ans_unique HR.out ⟨k, HD.out, .inr ⟨hkl.symm, by omega, rfl⟩⟩)
      have PZ1 := hid (PZ.out.keep fun o => BL.out.cell (p := ⟨w.heap.size, o, none⟩) hzb)
      have FZ1 := hid (fun o => (BL.out.frozen (p := ⟨w.heap.size, o, none⟩) hzb).trans (FZ.out o))
      obtain ⟨y0, y1, y2, y3⟩ := OP.out.at_
      obtain ⟨z0, z1, z2, z3⟩ := PZ1.out
      have fz := FZ1.out
      have k0 := fz 0
      have k1 := fz 1
      have k2 := fz 2
      have k3 := fz 3
      have f0 := OP.out.fr 0
      have hlt2 : ¬ (k : Int) < ((Q nx l c0 k).length : Int) := by omega
      have hne : b1 ≠ w.heap.size := by omega
      have hne2 : w.heap.size ≠ b1 := by omega
      have hlb := OP.out.lt
      have hbzw : w.heap.size ≤ w.heap.size := hbz0
      obtain ⟨ho, hwi⟩ := OP.out.own
      have HO := hid ho
      have HW := hid hwi
      have HNA := hid (fun g (hg : rowN (N nx l c0 k).length Ao = some g) => show g ≠ b1 from fun e => OP.out.na (by rw [← e]; unfold rowN at hg; split at hg; cases hg; exact hg))
      have HNB := hid (fun g (hg : rowN (D nx en l c0 k).length Bo = some g) => show g ≠ b1 from fun e => OP.out.nb (by rw [← e]; unfold rowN at hg; split at hg; cases hg; exact hg))
      clear fz ho hwi
      go_wp2_with fail
      rw [HANS.out]
      have FI := hid (ownP_five HO.out HW.out (bo := b1) (bz := w.heap.size) HNA.out HNB.out hzb (.int .i64 (k : Int)) (.int .i64 (k : Int)) (.int .i64 (l : Int)) (.slice Ao (N nx l c0 k).length co) (.slice Bo (D nx en l c0 k).length do_))
      exact bodyPost_ret (v := .tuple #[.agg #[.int .i64 (k : Int), .int .i64 l, .slice Ao (N nx l c0 k).length co, .slice Bo (D nx en l c0 k).length do_], .bool true]) (by simp [results, Try.results73, go_sem, z0, z1, z2, z3]) rfl
        ⟨(fun h => nomatch h), fun i N' D' h => by
          cases h
          exact ⟨Ao, co, Bo, do_, rfl, FI.out, HW.out.mono hbw (by simp [World.setCell]), (((((BELR.out.setCell hbw _).setCell hbzw _).setCell hbzw _).setCell hbzw _).setCell hbzw _)⟩⟩
end Go.Proofs.Ytlfmcdobiojdlaa.Num
