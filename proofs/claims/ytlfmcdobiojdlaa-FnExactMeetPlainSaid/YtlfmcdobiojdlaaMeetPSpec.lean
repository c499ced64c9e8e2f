/-
  MeetPlain, by the reference.
-/
import Derived.Test.YtlfmcdobiojdlaaOutP
import Derived.StillTailTactics
import Derived.Deep.RegionLaw
import Derived.Deep.CutRange
namespace Go.Proofs.Ytlfmcdobiojdlaa.fnExactMeetPlain
open Go.RowKit Go.Proofs.Fl Go.Proofs.Ytlfmcdobiojdlaa.Num Go.Proofs.Exp
open Go.Proofs.Ytlfmcdobiojdlaa.fnExactApartWord (nxA nxA_lt Pl nx_facts own_one)
open Go.Proofs.Ytlfmcdobiojdlaa.fnExactOtherPlain (RetBP ownP_nil within_nil own_any)
set_option linter.unusedVariables false
set_option linter.unusedSimpArgs false
def enA (bs bs' : List Bool) (s' : Nat) (c : Nat) : Bool := bs.getD (c / s') false && bs'.getD (c % s') false
theorem idx_place (q : List Nat) (c : Nat) : idx q c = place q c := rfl
set_option maxHeartbeats 1600000 in
theorem spec_no (S L : Int) (A : Option Addr) (n c : Nat) (B : Option Addr) (m d : Nat) (xs : List Int) (hx : xs.length = n) (hn : n ≤ 1048576) (hm : m ≤ 1048576) (S' L' : Int) (A' : Option Addr) (n' c' : Nat) (B' : Option Addr) (m' d' : Nat) (xs' : List Int) (hx' : xs'.length = n') (hn' : n' ≤ 1048576) (hm' : m' ≤ 1048576) (w : World)
    (hl : Rd w w.heap.size A (i64s xs)) (hl' : Rd w w.heap.size A' (i64s xs')) (h : alikeP S L n xs m S' L' n' xs' m' = false) :
    Calls Try.prog 38 #[.agg #[.int .i64 S, .int .i64 L, .slice A n c, .slice B m d], .agg #[.int .i64 S', .int .i64 L', .slice A' n' c', .slice B' m' d']] w (RetBP 0 0 0 0 [] [] false w) := by
  have HAL := hid (h ▸ fun b b' w hp ha hp' ha' => l02Alike_calls b b' S L A n c B m d xs hx hn hm S' L' A' n' c' B' m' d' xs' hx' hn' hm' w hp ha hp' ha')
  have HL := hid hl
  have HL' := hid hl'
  clear hl hl' h
  go_enter Try.func38, Try.ntmps38
  go_wp2_with fail
  refine (HAL.out w.heap.size (w.heap.size + 1) _ ⟨by go_simp, by go_simp, by go_simp, by go_simp⟩ (rd_alloc (rd_alloc (rd_alloc HL.out _) _) _) ⟨by go_simp, by go_simp, by go_simp, by go_simp⟩ (rd_alloc (rd_alloc (rd_alloc HL'.out _) _) _)).mono ?_
  rintro e w1 ⟨rfl, k1, h1⟩
  have BEL := hid (show Below w.heap.size w w1 by rw [h1]; exact below_drewN ((((Below.refl w.heap.size w).alloc (Nat.le_refl _) (.cells #[.int .i64 S, .int .i64 L, .slice A n c, .slice B m d] 31)).alloc (by simp) (.cells #[.int .i64 S', .int .i64 L', .slice A' n' c', .slice B' m' d'] 31)).alloc (by simp; omega) (.cells #[.int .i64 0, .int .i64 0, .slice none 0 0, .slice none 0 0] 31)) _)
  obtain ⟨z0, z1, z2, z3⟩ := show PlainAt w1 (w.heap.size + 2) 0 0 none 0 0 none 0 0 by rw [h1]; exact PlainAt.drewN ⟨by go_simp, by go_simp, by go_simp, by go_simp⟩ _
  have fz : ∀ o, w1.frozen? ⟨w.heap.size + 2, o, none⟩ = false := fun o => by rw [h1]; show World.frozen? (((w.alloc _).alloc _).alloc _) _ = _; go_simp
  have j0 := fz 0
  have j1 := fz 1
  have j2 := fz 2
  have j3 := fz 3
  clear fz h1
  go_wp2_with fail
  exact bodyPost_ret (v := .tuple #[.agg #[.int .i64 0, .int .i64 0, .slice none 0 0, .slice none 0 0], .bool false]) (by simp [results, Try.results38, go_sem, z0, z1, z2, z3]) rfl
    ⟨none, 0, none, 0, rfl, ownP_nil _, within_nil _ _, ((((BEL.out.setCell (by simp; omega) _).setCell (by simp; omega) _).setCell (by simp; omega) _).setCell (by simp; omega) _)⟩
set_option maxRecDepth 100000 in
set_option maxHeartbeats 12800000 in
theorem spec_yes (s l : Nat) (A : Option Addr) (n c : Nat) (B : Option Addr) (m d : Nat) (xs : List Int) (bs : List Bool) (hP : Pl s l n xs m bs) (hn : n ≤ 1048576) (hm : m ≤ 1048576) (s' : Nat) (A' : Option Addr) (n' c' : Nat) (B' : Option Addr) (m' d' : Nat) (xs' : List Int) (bs' : List Bool) (hP' : Pl s' l n' xs' m' bs') (hn' : n' ≤ 1048576) (hm' : m' ≤ 1048576)
    (r : Option (Nat × List Int × List Bool)) (hr : Ans (nxA xs xs' l s') (enA bs bs' s') l 0 r) (w : World) (hl : ListsP w A B xs bs) (hl' : ListsP w A' B' xs' bs') (h : alikeP s l n xs m s' l n' xs' m' = true) :
    Calls Try.prog 38 #[.agg #[.int .i64 s, .int .i64 l, .slice A n c, .slice B m d], .agg #[.int .i64 s', .int .i64 l, .slice A' n' c', .slice B' m' d']] w (RetM l r w) := by
  obtain ⟨j0, hj0, hw0, hw1, hw2⟩ := info_parts toInt64S_info
  obtain ⟨i0, hi0, hz0, hz1, hz2⟩ := info_parts toBoolS_info
  have HAL := hid (h ▸ fun b b' w hp ha hp' ha' => l02Alike_calls b b' s l A n c B m d xs hP.xl hn hm s' l A' n' c' B' m' d' xs' hP'.xl hn' hm' w hp ha hp' ha')
  have HP := hid hP
  have HP' := hid hP'
  have HR := hid hr
  have HL := hid hl
  have HL' := hid hl'
  have hs1 := hP.s1
  have hs2 := hP.s2
  have hs1' := hP'.s1
  have hs2' := hP'.s2
  have hl1 := hP.l1
  have hl2 := hP.l2
  have hM := hid (Pl.mulb hP hP')
  have HQL := hid fun i hi => Q_lt (nx := nxA xs xs' l s') (L := l) (c0 := 0) (M := s * s') (Nat.mul_pos (show 0 < s by omega) (show 0 < s' by omega)) (fun c k hc hk => nxA_lt hP hP' hc hk) i hi
  clear hl hl' hr h
  go_enter Try.func38, Try.ntmps38
  go_wp2_with fail
  refine (HAL.out w.heap.size (w.heap.size + 1) _ ⟨by go_simp, by go_simp, by go_simp, by go_simp⟩ (rd_alloc (rd_alloc (rd_alloc HL.out.a _) _) _) ⟨by go_simp, by go_simp, by go_simp, by go_simp⟩ (rd_alloc (rd_alloc (rd_alloc HL'.out.a _) _) _)).mono ?_
  rintro e w1 ⟨rfl, k1, h1⟩
  have BEL := hid (show Below w.heap.size w w1 by rw [h1]; exact below_drewN ((((Below.refl w.heap.size w).alloc (Nat.le_refl _) (.cells #[.int .i64 (s : Int), .int .i64 (l : Int), .slice A n c, .slice B m d] 31)).alloc (by simp) (.cells #[.int .i64 (s' : Int), .int .i64 (l : Int), .slice A' n' c', .slice B' m' d'] 31)).alloc (by simp; omega) (.cells #[.int .i64 0, .int .i64 0, .slice none 0 0, .slice none 0 0] 31)) _)
  have PA := hid (show PlainAt w1 w.heap.size s l A n c B m d by rw [h1]; exact PlainAt.drewN ⟨by go_simp, by go_simp, by go_simp, by go_simp⟩ _)
  have PB := hid (show PlainAt w1 (w.heap.size + 1) s' l A' n' c' B' m' d' by rw [h1]; exact PlainAt.drewN ⟨by go_simp, by go_simp, by go_simp, by go_simp⟩ _)
  have PZ := hid (show PlainAt w1 (w.heap.size + 2) 0 0 none 0 0 none 0 0 by rw [h1]; exact PlainAt.drewN ⟨by go_simp, by go_simp, by go_simp, by go_simp⟩ _)
  have FZ := hid (show ∀ o, w1.frozen? ⟨w.heap.size + 2, o, none⟩ = false from fun o => by rw [h1]; show World.frozen? (((w.alloc _).alloc _).alloc _) _ = _; go_simp)
  have s1 : w.heap.size + 3 = w1.heap.size := by rw [h1]; simp [World.drewN]
  clear h1 HAL
  obtain ⟨a0, a1, a2, a3⟩ := PA.out.step ((Below.refl _ _).alloc (Nat.le_refl _) (.cells #[.int .i64 0] 2)) (by omega)
  go_wp2_with fail
  clear a0 a1 a2 a3
  have RQ0 := hid ((own_one w1 2 (.int .i64 0)).alloc (.cells #[.int .i64 0, .int .i64 (l : Int), .slice none 0 0, .slice none 0 0] 31))
  have OP0 := hid (outP_new (w1.alloc (.cells #[.int .i64 0] 2)) (l : Int) (base := w1.heap.size) (by simp) (E := [w1.heap.size]) (fun e he => by rw [List.mem_singleton.1 he]; simp))
  have BL0 := hid ((((Below.refl w1.heap.size w1).alloc (Nat.le_refl _) (.cells #[.int .i64 0] 2)).alloc (by simp) (.cells #[.int .i64 0, .int .i64 (l : Int), .slice none 0 0, .slice none 0 0] 31)))
  have z1 : (w1.alloc (.cells #[.int .i64 0] 2)).heap.size = w1.heap.size + 1 := by simp
  rw [z1] at OP0
  generalize hb1 : w1.heap.size = b1 at *
  have hnil : OutP ((w1.alloc (.cells #[.int .i64 0] 2)).alloc (.cells #[.int .i64 0, .int .i64 (l : Int), .slice none 0 0, .slice none 0 0] 31)) b1 (b1 + 1) l (N (nxA xs xs' l s') l 0 0) (D (nxA xs xs' l s') (enA bs bs' s') l 0 0) none 0 none 0 [b1] := OP0.out
  have OPZ := hid hnil
  clear hnil OP0 z1
  generalize (w1.alloc (.cells #[.int .i64 0] 2)).alloc (.cells #[.int .i64 0, .int .i64 (l : Int), .slice none 0 0, .slice none 0 0] 31) = v0 at *
  go_loopw [6, 8] (fun v6 i wr => ∃ (k gp cp : Nat) (Ao : Option Addr) (co : Nat) (Bo : Option Addr) (do_ : Nat), i = .int .i64 k ∧ v6 = .slice (some ⟨gp, 0, none⟩) (Q (nxA xs xs' l s') l 0 k).length cp ∧ Hid (wr.ownsRow b1 2 1 (.slice (some ⟨gp, 0, none⟩) (Q (nxA xs xs' l s') l 0 k).length cp) (Q (nxA xs xs' l s') l 0 k).length (i64s (nats (Q (nxA xs xs' l s') l 0 k)))) ∧ Hid (OutP wr b1 (b1 + 1) l (N (nxA xs xs' l s') l 0 k) (D (nxA xs xs' l s') (enA bs bs' s') l 0 k) Ao co Bo do_ [gp]) ∧ Hid (Below b1 w1 wr) ∧ Hid (∀ j, j < k → j < (Q (nxA xs xs' l s') l 0 j).length ∧ (Q (nxA xs xs' l s') l 0 j).length ≤ 64)) (fun _ i _ => 65 - (intOf i).toNat)
  case atStart => exact ⟨0, b1, 1, none, 0, none, 0, rfl, rfl, RQ0, OPZ, BL0, fun j hj => absurd hj (by omega)⟩
  case round =>
    clear RQ0 OPZ BL0
    obtain ⟨k, gp, cp, Ao, co, Bo, do_, rfl, rfl, RQ, OP, BL, HD⟩ := hrel
    have hge := Q_ge (nx := nxA xs xs' l s') (L := l) (c0 := 0) k fun j hj => (HD.out j hj).1
    have BELR := hid (BEL.out.trans (BL.out.mono (by omega)))
    have hsz := BL.out.size
    have PZ1 := hid (PZ.out.keep fun o => BL.out.cell (p := ⟨w.heap.size + 2, o, none⟩) (show w.heap.size + 2 < b1 by omega))
    have FZ1 := hid (fun o => (BL.out.frozen (p := ⟨w.heap.size + 2, o, none⟩) (show w.heap.size + 2 < b1 by omega)).trans (FZ.out o))
    by_cases hlt : k < (Q (nxA xs xs' l s') l 0 k).length
    · by_cases h64 : 64 < (Q (nxA xs xs' l s') l 0 k).length
      · have HANS := hid (ans_unique HR.out ⟨k, HD.out, .inl ⟨hlt, h64, rfl⟩⟩)
        obtain ⟨z0, z1, z2, z3⟩ := PZ1.out
        have fz := FZ1.out
        have k0 := fz 0
        have k1 := fz 1
        have k2 := fz 2
        have k3 := fz 3
        clear fz
        have h64i : ((Q (nxA xs xs' l s') l 0 k).length : Int) > 64 := by omega
        go_wp2_with fail
        rw [HANS.out]
        exact bodyPost_ret (v := .tuple #[.agg #[.int .i64 0, .int .i64 0, .slice none 0 0, .slice none 0 0], .bool false]) (by simp [results, Try.results38, go_sem, z0, z1, z2, z3]) rfl
          ⟨fun _ => ⟨none, 0, none, 0, rfl, ownP_nil _, within_nil _ _, ((((BELR.out.setCell (by simp; omega) _).setCell (by simp; omega) _).setCell (by simp; omega) _).setCell (by simp; omega) _)⟩, fun _ _ _ h => nomatch h⟩
      · have PA1 := hid (PA.out.keep fun o => BL.out.cell (p := ⟨w.heap.size, o, none⟩) (show w.heap.size < b1 by omega))
        have PB1 := hid (PB.out.keep fun o => BL.out.cell (p := ⟨w.heap.size + 1, o, none⟩) (show w.heap.size + 1 < b1 by omega))
        obtain ⟨code, hcode, pc⟩ := own_nats RQ.out hlt
        have hat_ : at_ (Q (nxA xs xs' l s') l 0 k) k = code := by unfold at_; rw [List.getD_eq_getElem?_getD, hcode]; rfl
        have hc : code < s * s' := HQL.out k (fun j hj => (HD.out j hj).1) code (List.mem_of_getElem? hcode)
        have HAT := hid hat_
        clear hat_ hcode
        have b0' := PB1.out.c0
        have q0 : ((s' : Nat) : Int) ≠ 0 := by omega
        obtain ⟨X, hX⟩ : ∃ X, X = code / s' := ⟨_, rfl⟩
        obtain ⟨Y, hY⟩ : ∃ Y, Y = code % s' := ⟨_, rfl⟩
        have hXs : X < s := by rw [hX]; exact Nat.div_lt_of_lt_mul (by rw [Nat.mul_comm]; exact hc)
        have hYs : Y < s' := by rw [hY]; exact Nat.mod_lt _ (by omega)
        have EX := hid hX
        have EY := hid hY
        have hcd : code < 4096 := by have := hM.out; omega
        have W6 : wrap64 ((code : Int) / (s' : Int)) = (X : Int) := by
          have : ((code / s' : Nat) : Int) = (code : Int) / (s' : Int) := Int.natCast_ediv _ _
          rw [← this, ← hX]
          unfold wrap64
          omega
        have W7 : (code : Int) % (s' : Int) = (Y : Int) := by
          have : ((code % s' : Nat) : Int) = (code : Int) % (s' : Int) := Int.natCast_emod _ _
          rw [← this, ← hY]
        clear hX hY
        have h64n : ¬ ((Q (nxA xs xs' l s') l 0 k).length : Int) > 64 := by omega
        have h64m : ¬ (64 : Int) < ((Q (nxA xs xs' l s') l 0 k).length : Int) := by omega
        go_wp2_with fail
        go_quiet (fail)
        revert nq
        intro na
        go_wp2_with fail
        go_quiet (fail)
        revert nq
        intro nb
        go_wp2_with fail
        rw [W6, W7]
        clear W6 W7
        have hXb : X < bs.length := by have h1 := HP.out.bl; have h2 := HP.out.ms; omega
        have hYb : Y < bs'.length := by have h1 := HP'.out.bl; have h2 := HP'.out.ms; omega
        have HEN := hid (show enA bs bs' s' code = (bs[X] && bs'[Y]) by unfold enA; rw [← EX.out, ← EY.out]; simp [List.getD_eq_getElem?_getD, hXb, hYb])
        obtain ⟨b5, o5, rfl, hb5, e1⟩ := bools_at (rd_step HL.out.b BELR.out) hXb
        obtain ⟨b6, o6, rfl, hb6, e2⟩ := bools_at (rd_step HL'.out.b BELR.out) hYb
        have a3 := PA1.out.c3
        have b3 := PB1.out.c3
        have hXm : (X : Int) < (m : Int) := by have h2 := HP.out.ms; omega
        have hYm : (Y : Int) < (m' : Int) := by have h2 := HP'.out.ms; omega
        generalize bs[X] = p1 at *
        generalize bs'[Y] = p2 at *
        have OPD := hid ((OP.out.step (below_drewN (Below.refl _ _) na)).step (below_drewN (Below.refl _ _) nb))
        have BLV := hid (below_drewN (below_drewN BL.out na) nb)
        have RQV := hid (show ((wr.drewN na).drewN nb).ownsRow b1 2 1 (.slice (some ⟨gp, 0, none⟩) (Q (nxA xs xs' l s') l 0 k).length cp) (Q (nxA xs xs' l s') l 0 k).length (i64s (nats (Q (nxA xs xs' l s') l 0 k))) from RQ.out)
        have HDL := hid (D_len (nxA xs xs' l s') (enA bs bs' s') l 0 k)
        have HD1 := hid (show D (nxA xs xs' l s') (enA bs bs' s') l 0 (k + 1) = D (nxA xs xs' l s') (enA bs bs' s') l 0 k ++ [enA bs bs' s' code] by rw [← HAT.out]; rfl)
        have a3v : ((wr.drewN na).drewN nb).drew.cell? ⟨w.heap.size, 3, none⟩ = some (.slice (some ⟨b5, o5, none⟩) m d) := a3
        have b3v : ((wr.drewN na).drewN nb).drew.cell? ⟨w.heap.size + 1, 3, none⟩ = some (.slice (some ⟨b6, o6, none⟩) m' d') := b3
        have e1v : ((wr.drewN na).drewN nb).drew.cell? ⟨b5, o5 + X, none⟩ = some (.bool p1) := e1
        have e2v : ((wr.drewN na).drewN nb).drew.cell? ⟨b6, o6 + Y, none⟩ = some (.bool p2) := e2
        clear OP RQ pc b0' PA1 PB1 a3 b3 e1 e2
        generalize (wr.drewN na).drewN nb = wv at *
        have hbw := OPD.out.size
        obtain ⟨y0, y1, y2, y3⟩ := OPD.out.drew'.at_
        have ylt : b1 + 1 < wv.heap.size := OPD.out.lt
        have hkk : k ≤ 64 := by omega
        generalize hD1e : D (nxA xs xs' l s') (enA bs bs' s') l 0 (k + 1) = D1 at *
        have HDE := hid hD1e
        clear hD1e
        generalize D (nxA xs xs' l s') (enA bs bs' s') l 0 k = D0 at *
        obtain ⟨p, hp⟩ : ∃ p, p = (p1 && p2) := ⟨_, rfl⟩
        have HPP := hid hp
        have ya : ∀ q : Bool, (wv.alloc (.cells #[.bool q] 4)).cell? ⟨b1 + 1, 3, none⟩ = some (.slice Bo D0.length do_) := fun q => ((Below.refl wv.heap.size wv).alloc (Nat.le_refl _) (.cells #[.bool q] 4)).cell (p := ⟨b1 + 1, 3, none⟩) ylt |>.trans OPD.out.at_.c3
        have yat := ya true
        have yaf := ya false
        have yap := ya p2
        clear ya hp
        go_cut [] from 46 to 62 (fun wx => ∃ (g7 c7 : Nat), Hid (OutP wx b1 (b1 + 1) l (N (nxA xs xs' l s') l 0 k) D1 Ao co (some ⟨g7, 0, none⟩) c7 [gp]) ∧ Hid (wx.ownsRow b1 2 1 (.slice (some ⟨gp, 0, none⟩) (Q (nxA xs xs' l s') l 0 k).length cp) (Q (nxA xs xs' l s') l 0 k).length (i64s (nats (Q (nxA xs xs' l s') l 0 k)))) ∧ Hid (Below b1 w1 wx))
        case first =>
          cases p1
          · first | (go_region_law (refine step_append_lies _ (by rfl) _ _ 26 (by rfl) b1 4 i0 (Value.bool false) 1 1 Try.underlying26 hi0 hz0 hz1 hz2 rfl (by decide) (.slice Bo D0.length do_) D0.length (bools D0) (by rfl) (show ((wv.alloc (.cells #[.bool false] 4)).drew).ownsRow _ _ _ _ _ _ from OPD.out.rb.alloc _) ⟨wv.heap.size, 0, none⟩ 1 1 [.bool false] (by rfl) rfl (World.news_of_block (w := (wv.alloc (.cells #[.bool false] 4)).drew) (heap_alloc_new wv (.cells #[.bool false] 4))) (fun u hu => by rw [List.mem_singleton.1 hu]; rfl) (by decide) (by have := HDL.out; unfold maxLen; omega) (by have := HDL.out; omega) (Nat.le_trans hbw ((Below.refl wv.heap.size wv).alloc (Nat.le_refl _) _).size) (wv.heap.size + 1) (by show (wv.alloc (.cells #[.bool false] 4)).heap.size = _; simp) ?_; intro g7 c7 w7 hown hgrow hat hlt7; replace hgrow := grown_undrew hgrow; obtain ⟨pp7, pf7⟩ := OPD.out.cells (.inr rfl) hgrow; obtain ⟨t0, t1, t2, t3⟩ := pp7; have f3 := pf7 3; have OA7 := hid (OPD.out.addB (x := false) (by rw [show bools D0 ++ [Value.bool false] = bools (D0 ++ [false]) by simp [bools]] at hown; exact hown) hgrow hat); clear hown hgrow hat pf7)) | fail
            all_goals
              go_wp2_with fail
              go_meet
              case rel => exact ⟨g7, c7, by rw [HD1.out, HEN.out]; exact OA7.out.1, own_keep RQV.out (OA7.out.2.1 gp (by simp)), BLV.out.trans OA7.out.2.2⟩
          · first | (go_region_law (refine step_append_lies _ (by rfl) _ _ 26 (by rfl) b1 4 i0 (Value.bool false) 1 1 Try.underlying26 hi0 hz0 hz1 hz2 rfl (by decide) (.slice Bo D0.length do_) D0.length (bools D0) (by rfl) (show ((wv.alloc (.cells #[.bool p2] 4)).drew).ownsRow _ _ _ _ _ _ from OPD.out.rb.alloc _) ⟨wv.heap.size, 0, none⟩ 1 1 [.bool p2] (by rfl) rfl (World.news_of_block (w := (wv.alloc (.cells #[.bool p2] 4)).drew) (heap_alloc_new wv (.cells #[.bool p2] 4))) (fun u hu => by rw [List.mem_singleton.1 hu]; rfl) (by decide) (by have := HDL.out; unfold maxLen; omega) (by have := HDL.out; omega) (Nat.le_trans hbw ((Below.refl wv.heap.size wv).alloc (Nat.le_refl _) _).size) (wv.heap.size + 1) (by show (wv.alloc (.cells #[.bool p2] 4)).heap.size = _; simp) ?_; intro g7 c7 w7 hown hgrow hat hlt7; replace hgrow := grown_undrew hgrow; obtain ⟨pp7, pf7⟩ := OPD.out.cells (.inr rfl) hgrow; obtain ⟨t0, t1, t2, t3⟩ := pp7; have f3 := pf7 3; have OA7 := hid (OPD.out.addB (x := p2) (by rw [show bools D0 ++ [Value.bool p2] = bools (D0 ++ [p2]) by simp [bools]] at hown; exact hown) hgrow hat); clear hown hgrow hat pf7)) | fail
            all_goals
              go_wp2_with fail
              go_meet
              case rel => exact ⟨g7, c7, by rw [HD1.out, HEN.out]; exact OA7.out.1, own_keep RQV.out (OA7.out.2.1 gp (by simp)), BLV.out.trans OA7.out.2.2⟩
        case rest =>
          obtain ⟨g7, c7, OPB, RQB, BLB⟩ := hcut
          generalize wc = w2 at *
          clear a3v b3v e1v e2v yat yaf yap y0 y1 y2 y3 OPD RQV BLV HEN HDL HD1 HPP hXm hYm
          generalize hqq : Q (nxA xs xs' l s') l 0 k = q at *
          have EQ := hid hqq
          clear hqq
          have HNL := hid (show (N (nxA xs xs' l s') l 0 k).length ≤ 256 by rw [N_len]; have := Nat.mul_le_mul (show k ≤ 64 by omega) hl2; omega)
          have HQ1 := hid (show Q (nxA xs xs' l s') l 0 (k + 1) = adds (nxA xs xs' l s') code q l by rw [← EQ.out, ← HAT.out, ← EQ.out]; rfl)
          have HN1 := hid (show N (nxA xs xs' l s') l 0 (k + 1) = N (nxA xs xs' l s') l 0 k ++ tells (nxA xs xs' l s') code q l by rw [← EQ.out, ← HAT.out, ← EQ.out]; rfl)
          have HD2 := hid (show ∀ j, j < k + 1 → j < (Q (nxA xs xs' l s') l 0 j).length ∧ (Q (nxA xs xs' l s') l 0 j).length ≤ 64 from fun j hj => by
            by_cases e : j = k
            · subst e; rw [EQ.out]; exact ⟨hlt, by omega⟩
            · exact HD.out j (by omega))
          generalize N (nxA xs xs' l s') l 0 k = N0 at *
          go_wp2_with fail
          go_loopw [6, 11] (fun v6 i wr => ∃ (j gp cp : Nat) (Ao : Option Addr) (co : Nat), j ≤ l ∧ i = .int .i64 j ∧ v6 = .slice (some ⟨gp, 0, none⟩) (adds (nxA xs xs' l s') code q j).length cp ∧ Hid (wr.ownsRow b1 2 1 (.slice (some ⟨gp, 0, none⟩) (adds (nxA xs xs' l s') code q j).length cp) (adds (nxA xs xs' l s') code q j).length (i64s (nats (adds (nxA xs xs' l s') code q j)))) ∧ Hid (OutP wr b1 (b1 + 1) l (N0 ++ tells (nxA xs xs' l s') code q j) D1 Ao co (some ⟨g7, 0, none⟩) c7 [gp]) ∧ Hid (Below b1 w1 wr)) (fun _ i _ => l - (intOf i).toNat)
          case atStart => exact ⟨0, gp, cp, Ao, co, Nat.zero_le _, rfl, rfl, RQB, by rw [show N0 ++ tells (nxA xs xs' l s') code q 0 = N0 from List.append_nil _]; exact OPB, BLB⟩
          case round =>
            clear RQB OPB BLB
            obtain ⟨j, gp, cp, Ao, co, hj, rfl, rfl, RQ, OP, BL⟩ := hrel
            have BELR := hid (BEL.out.trans (BL.out.mono (by omega)))
            have PA1 := hid (PA.out.keep fun o => BL.out.cell (p := ⟨w.heap.size, o, none⟩) (show w.heap.size < b1 by omega))
            have a1 := PA1.out.c1
            by_cases hjl : j < l
            · have PB1 := hid (PB.out.keep fun o => BL.out.cell (p := ⟨w.heap.size + 1, o, none⟩) (show w.heap.size + 1 < b1 by omega))
              obtain ⟨i1, i2, v1, v2, nxt, NF⟩ := nx_facts HP.out HP'.out EX.out EY.out hXs hYs hjl
              obtain ⟨b3, o3, rfl, hb3, e3⟩ := i64s_at (rd_step HL.out.a BELR.out) NF.l1
              obtain ⟨b4, o4, rfl, hb4, e4⟩ := i64s_at (rd_step HL'.out.a BELR.out) NF.l2
              rw [NF.x1] at e3
              rw [NF.x2] at e4
              have HNXT := hid NF.e
              have hin1 : (i1 : Int) < (n : Int) := by have := NF.i1; omega
              have hin2 : (i2 : Int) < (n' : Int) := by have := NF.i2; omega
              have hnb := NF.nb
              obtain ⟨W1, U1⟩ := NF.w1
              obtain ⟨W2, U2⟩ := NF.w2
              obtain ⟨W3, U3⟩ := NF.w3
              obtain ⟨W4, U4⟩ := NF.w4
              obtain ⟨W5, U5⟩ := NF.w5
              obtain ⟨W6, U6⟩ := NF.w6
              clear NF
              have a2 := PA1.out.c2
              have b0 := PB1.out.c0
              have b1' := PB1.out.c1
              have b2' := PB1.out.c2
              go_wp2_with fail
              go_quiet (fail)
              revert nq
              intro nd
              go_wp2_with fail
              have HA2 := hid (show adds (nxA xs xs' l s') code q (j + 1) = addQ (adds (nxA xs xs' l s') code q j) nxt by rw [← HNXT.out]; rfl)
              have HT2 := hid (show N0 ++ tells (nxA xs xs' l s') code q (j + 1) = N0 ++ tells (nxA xs xs' l s') code q j ++ [(idx (adds (nxA xs xs' l s') code q j) nxt : Int)] by rw [← HNXT.out, List.append_assoc]; rfl)
              have hbig : (adds (nxA xs xs' l s') code q j).length ≤ 68 := by have := (adds_le (nxA xs xs' l s') code q j).2; omega
              have HTL := hid (show (N0 ++ tells (nxA xs xs' l s') code q j).length ≤ 1000 by rw [List.length_append, tells_len]; have := HNL.out; omega)
              have OPQ := hid (OP.out.step (below_drewN (Below.refl _ _) nd))
              have RQQ := hid (show (wr.drewN nd).ownsRow b1 2 1 (.slice (some ⟨gp, 0, none⟩) (adds (nxA xs xs' l s') code q j).length cp) (adds (nxA xs xs' l s') code q j).length (i64s (nats (adds (nxA xs xs' l s') code q j))) from RQ.out)
              have BLQ := hid (below_drewN BL.out nd)
              clear a2 b0 b1' b2' a1 PA1 PB1 e3 e4 W1 W2 W3 W4 W5 W6 U1 U2 U3 U4 U5 U6 HNXT RQ OP BL
              generalize wr.drewN nd = wq at *
              generalize N0 ++ tells (nxA xs xs' l s') code q j = NT at *
              generalize adds (nxA xs xs' l s') code q j = Aj at *
              cases hin : Aj.contains nxt
              · have IX := hid (l02Index_add b1 gp Aj.length cp Aj nxt (by omega) hin wq OPQ.out.size RQQ.out)
                have HI := hid (idx_not_mem hin)
                have E2 := hid (show addQ Aj nxt = Aj ++ [nxt] by unfold addQ; rw [hin]; rfl)
                clear hin
                refine IX.out.mono ?_
                rintro e w5 ⟨gp', cp', rfl, ow5, gr5⟩
                have OP5 := hid (OPQ.out.grew gr5 (own_lt ow5) (by simp) (E' := [gp']) (fun x hx => .inr (List.mem_singleton.1 hx)))
                have B5 := hid (BLQ.out.trans (gr5.kept.below OPQ.out.size fun r hr g e => by rw [List.mem_singleton.1 hr] at e; rw [← Option.some.inj e]; exact Go.Proofs.Ytlfmcdobiojdlaa.fnExactOtherPlain.own_ge RQQ.out))
                have R5 := hid ow5
                clear IX ow5 gr5
                obtain ⟨y0, y1, y2, y3⟩ := OP5.out.at_
                go_wp2_with (at_builtin; refine wpList_append_lies _ rfl _ _ 22 rfl b1 2 j0 (Value.int .i64 0) 1 8 Try.underlying22 hj0 hw0 hw1 hw2 rfl (by decide) (.slice Ao NT.length co) NT.length (i64s NT) rfl (OP5.out.ra.alloc _) ⟨w5.heap.size, 0, none⟩ 1 1 [.int .i64 (Aj.length : Int)] rfl rfl (cell_one_new _ _ _) (ints_oneCell .i64 [(Aj.length : Int)]) (by decide) (by have := HTL.out; unfold maxLen; omega) (by have := HTL.out; omega) (Nat.le_trans OP5.out.size ((Below.refl w5.heap.size w5).alloc (Nat.le_refl _) _).size) (w5.heap.size + 1) (by simp) ?_; intro g8 c8 w7 hown hgrow hat hlt7; obtain ⟨pp7, pf7⟩ := OP5.out.cells (.inl rfl) hgrow; obtain ⟨t0, t1, t2, t3⟩ := pp7; have f2 := pf7 2; have OA7 := hid (OP5.out.addA (x := (Aj.length : Int)) (by rw [show i64s NT ++ [Value.int .i64 (Aj.length : Int)] = i64s (NT ++ [(Aj.length : Int)]) by simp [i64s]] at hown; exact hown) hgrow hat); clear hown hgrow hat pf7)
                go_roundw
                case rel => exact ⟨j + 1, gp', cp', some ⟨g8, 0, none⟩, c8, hjl, by go_num, by rw [HA2.out, E2.out]; simp, by rw [HA2.out, E2.out, List.length_append]; exact own_keep R5.out (OA7.out.2.1 gp' (by simp)), by rw [HT2.out, HI.out]; exact OA7.out.1, B5.out.trans OA7.out.2.2⟩
                case measure =>
                  show l - ((j : Int) + 1).toNat < l - ((j : Int)).toNat
                  omega
              · have IX := hid (l02Index_found b1 gp Aj.length cp Aj nxt (by omega) hin wq RQQ.out)
                have E2 := hid (show addQ Aj nxt = Aj by unfold addQ; rw [hin]; rfl)
                have HI := hid (show idx Aj nxt = place Aj nxt from rfl)
                clear hin
                refine IX.out.mono ?_
                rintro e w5 ⟨rfl, h5⟩
                subst h5
                clear IX
                generalize place Aj nxt = pl at *
                have OP5 := OPQ
                obtain ⟨y0, y1, y2, y3⟩ := OP5.out.at_
                go_wp2_with (at_builtin; refine wpList_append_lies _ rfl _ _ 22 rfl b1 2 j0 (Value.int .i64 0) 1 8 Try.underlying22 hj0 hw0 hw1 hw2 rfl (by decide) (.slice Ao NT.length co) NT.length (i64s NT) rfl (OP5.out.ra.alloc _) ⟨w5.heap.size, 0, none⟩ 1 1 [.int .i64 (pl : Int)] rfl rfl (cell_one_new _ _ _) (ints_oneCell .i64 [(pl : Int)]) (by decide) (by have := HTL.out; unfold maxLen; omega) (by have := HTL.out; omega) (Nat.le_trans OP5.out.size ((Below.refl w5.heap.size w5).alloc (Nat.le_refl _) _).size) (w5.heap.size + 1) (by simp) ?_; intro g8 c8 w7 hown hgrow hat hlt7; obtain ⟨pp7, pf7⟩ := OP5.out.cells (.inl rfl) hgrow; obtain ⟨t0, t1, t2, t3⟩ := pp7; have f2 := pf7 2; have OA7 := hid (OP5.out.addA (x := (pl : Int)) (by rw [show i64s NT ++ [Value.int .i64 (pl : Int)] = i64s (NT ++ [(pl : Int)]) by simp [i64s]] at hown; exact hown) hgrow hat); clear hown hgrow hat pf7)
                go_roundw
                case rel => exact ⟨j + 1, gp, cp, some ⟨g8, 0, none⟩, c8, hjl, by go_num, by rw [HA2.out, E2.out], by rw [HA2.out, E2.out]; exact own_keep RQQ.out (OA7.out.2.1 gp (by simp)), by rw [HT2.out, HI.out]; exact OA7.out.1, BLQ.out.trans OA7.out.2.2⟩
                case measure =>
                  show l - ((j : Int) + 1).toNat < l - ((j : Int)).toNat
                  omega
            · obtain rfl : j = l := by omega
              go_wp2_with fail
              go_roundw
              case rel => exact ⟨k + 1, gp, cp, Ao, co, some ⟨g7, 0, none⟩, c7, by go_num, by rw [HQ1.out], by rw [HQ1.out]; exact RQ, by rw [HN1.out, HDE.out]; exact OP, BL, HD2.out⟩
              case measure =>
                show 65 - ((k : Int) + 1).toNat < 65 - ((k : Int)).toNat
                omega
    · have hkl : (Q (nxA xs xs' l s') l 0 k).length = k := by omega
      have h64 : k ≤ 64 := by
        cases k with
        | zero => omega
        | succ k => have := HD.out k (by omega); omega
      have HANS := hid (ans_unique HR.out ⟨k, HD.out, .inr ⟨hkl.symm, h64, rfl⟩⟩)
      obtain ⟨y0, y1, y2, y3⟩ := OP.out.at_
      obtain ⟨z0, z1, z2, z3⟩ := PZ1.out
      have fz := FZ1.out
      have k0 := fz 0
      have k1 := fz 1
      have k2 := fz 2
      have k3 := fz 3
      have f0 := OP.out.fr 0
      have hlt2 : ¬ (k : Int) < ((Q (nxA xs xs' l s') l 0 k).length : Int) := by omega
      have hne : b1 + 1 ≠ w.heap.size + 2 := by omega
      have hlb := OP.out.lt
      obtain ⟨ho, hwi⟩ := OP.out.own
      have HO := hid ho
      have HW := hid hwi
      have HNA := hid (fun g (hg : rowN (N (nxA xs xs' l s') l 0 k).length Ao = some g) => show g ≠ b1 + 1 from fun e => OP.out.na (by rw [← e]; unfold rowN at hg; split at hg; cases hg; exact hg))
      have HNB := hid (fun g (hg : rowN (D (nxA xs xs' l s') (enA bs bs' s') l 0 k).length Bo = some g) => show g ≠ b1 + 1 from fun e => OP.out.nb (by rw [← e]; unfold rowN at hg; split at hg; cases hg; exact hg))
      clear fz ho hwi
      go_wp2_with fail
      rw [HANS.out]
      have FI := hid (ownP_five HO.out HW.out (bo := b1 + 1) (bz := w.heap.size + 2) HNA.out HNB.out (by omega) (.int .i64 (k : Int)) (.int .i64 (k : Int)) (.int .i64 (l : Int)) (.slice Ao (N (nxA xs xs' l s') l 0 k).length co) (.slice Bo (D (nxA xs xs' l s') (enA bs bs' s') l 0 k).length do_))
      exact bodyPost_ret (v := .tuple #[.agg #[.int .i64 (k : Int), .int .i64 l, .slice Ao (N (nxA xs xs' l s') l 0 k).length co, .slice Bo (D (nxA xs xs' l s') (enA bs bs' s') l 0 k).length do_], .bool true]) (by simp [results, Try.results38, go_sem, z0, z1, z2, z3]) rfl
        ⟨(fun h => nomatch h), fun i N' D' h => by
          cases h
          exact ⟨Ao, co, Bo, do_, rfl, FI.out, HW.out.mono (by omega) (by simp [World.setCell]), (((((BELR.out.setCell (by simp; omega) _).setCell (by simp; omega) _).setCell (by simp; omega) _).setCell (by simp; omega) _).setCell (by simp; omega) _)⟩⟩
end Go.Proofs.Ytlfmcdobiojdlaa.fnExactMeetPlain
