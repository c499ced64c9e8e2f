/-
  The smallest machine, by the reference.
-/
import Derived.Test.YtlfmcdobiojdlaaMember
import Derived.Deep.RegionLaw
namespace Go.Proofs.Ytlfmcdobiojdlaa.fnExactLeastPlain
open Go.RowKit Go.Proofs.Fl Go.Proofs.Ytlfmcdobiojdlaa.Num Go.Proofs.Exp
open Go.Proofs.Ytlfmcdobiojdlaa.fnExactApartWord (Pl toN idx_lt mul_cast_small own_one own_mono grew_lies bel_al)
set_option linter.unusedVariables false
set_option linter.unusedSimpArgs false
/-- the states beside the classes found -/
def Reps (xs : List Int) (bs : List Bool) (s l : Nat) (q ss : List Nat) : Prop := ss.length = q.length ∧ ∀ j, j < q.length → at_ ss j < s ∧ clF xs bs s l (at_ ss j) = at_ q j
theorem Reps.add {xs : List Int} {bs : List Bool} {s l : Nat} {q ss : List Nat} (h : Reps xs bs s l q ss) {v c : Nat} (hv : v < s) (hc : clF xs bs s l v = c) : Reps xs bs s l (q ++ [c]) (ss ++ [v]) := by
  refine ⟨by simp [h.1], fun j hj => ?_⟩
  by_cases hj2 : j < q.length
  · rw [at_app hj2, at_app (by rw [h.1]; exact hj2)]
    exact h.2 j hj2
  · have e : j = q.length := by simp at hj; omega
    subst e
    have a : at_ (q ++ [c]) q.length = c := by unfold at_; simp [List.getD_eq_getElem?_getD]
    have b : at_ (ss ++ [v]) q.length = v := by unfold at_; rw [← h.1]; simp [List.getD_eq_getElem?_getD]
    rw [a, b]
    exact ⟨hv, hc⟩
theorem own_at {w : World} {base g n c : Nat} {q : List Nat} (ho : w.ownsRow base 2 1 (.slice (some ⟨g, 0, none⟩) n c) n (i64s (nats q))) {k : Nat} (hk : k < n) : w.cell? ⟨g, k, none⟩ = some (.int .i64 ((at_ q k : Nat) : Int)) := by
  obtain ⟨x, hx, hc⟩ := own_nats ho hk
  have : at_ q k = x := by unfold at_; rw [List.getD_eq_getElem?_getD, hx]; rfl
  rw [this]
  exact hc
/-- returned the smallest machine, in lists of its own -/
def RetSmall (l : Nat) (r : Option (Nat × List Int × List Bool)) (w : World) (e : Ending) (w' : World) : Prop :=
  ∃ (i : Nat) (N : List Int) (D : List Bool) (A : Option Addr) (c : Nat) (B : Option Addr) (d : Nat), r = some (i, N, D) ∧ e = .returned (.agg #[.int .i64 (i : Int), .int .i64 (l : Int), .slice A N.length c, .slice B D.length d]) ∧ OwnP w' A N.length c B D.length d N D ∧ Within w.heap.size w'.heap.size (rowsP N.length A D.length B) ∧ Below w.heap.size w w'
set_option maxRecDepth 100000 in
set_option maxHeartbeats 12800000 in
theorem l02Small_calls (b s l : Nat) (A : Option Addr) (n c : Nat) (B : Option Addr) (m d : Nat) (xs : List Int) (bs : List Bool) (hP : Pl s l n xs m bs) (r : Option (Nat × List Int × List Bool)) (hr : Ans (nxL xs bs s l) (enC xs bs s l) l (clF xs bs s l 0) r) (w : World) (hp : PlainAt w b s l A n c B m d) (hb : b < w.heap.size) (hl : ListsP w A B xs bs) :
    Calls Try.prog 68 #[.pointer (some ⟨b, 0, none⟩)] w (RetSmall l r w) := by
  obtain ⟨j0, hj0, hw0, hw1, hw2⟩ := info_parts toInt64S_info
  obtain ⟨i0, hi0, hz0, hz1, hz2⟩ := info_parts toBoolS_info
  have HP := hid hP
  have PA0 := hid hp
  have HL := hid hl
  have HR := hid hr
  have hs1 := hP.s1
  have hs2 := hP.s2
  have hl1 := hP.l1
  have hl2 := hP.l2
  have HQM := hid fun i hi => Q_len (nx := (nxL xs bs s l)) (L := l) (c0 := (clF xs bs s l 0)) (M := nCl xs bs s l) (cl_lt hP (show 0 < s from hs1)) (fun c k hc hk => nxL_lt hP hc hk) i hi
  have hnc := nCl_le xs bs s l
  have PA0' := hid (hp.step ((Below.refl w.heap.size w).alloc (Nat.le_refl _) (.cells #[.int .i64 0, .int .i64 0, .slice none 0 0, .slice none 0 0] 31)) hb)
  have HCL := hid (l02Classes_calls b s l A n c B m d xs bs hP (w.alloc (.cells #[.int .i64 0, .int .i64 0, .slice none 0 0, .slice none 0 0] 31)) PA0'.out (by simp; omega) (hl.alloc _))
  clear hp hl hr PA0'
  go_enter Try.func68, Try.ntmps68
  go_wp2_with fail
  refine HCL.out.mono ?_
  rintro e w1 ⟨g3, c3, rfl, ho3, bel1⟩
  have hc1 := (old_cell bel1).1
  have hf1 := (old_cell bel1).2
  have s1 : w.heap.size + 1 ≤ w1.heap.size := by have := bel1.size; simp at this; omega
  have BEL := hid (((Below.refl w.heap.size w).alloc (Nat.le_refl _) (.cells #[.int .i64 0, .int .i64 0, .slice none 0 0, .slice none 0 0] 31)).trans (bel1.mono (by simp)))
  have PZ := hid (show PlainAt w1 w.heap.size 0 0 none 0 0 none 0 0 from ⟨by rw [hc1 _ _ (by simp)]; go_simp, by rw [hc1 _ _ (by simp)]; go_simp, by rw [hc1 _ _ (by simp)]; go_simp, by rw [hc1 _ _ (by simp)]; go_simp⟩)
  have FZ := hid (show ∀ o, w1.frozen? ⟨w.heap.size, o, none⟩ = false from fun o => by rw [hf1 _ _ (by simp)]; go_simp)
  have PA := hid (PA0.out.step BEL.out hb)
  have O3 := hid (show w1.ownsRow w.heap.size 2 1 (.slice (some ⟨g3, 0, none⟩) s c3) s (i64s (nats (clsL xs bs s l s))) from own_mono ho3 (by simp))
  have hg3 := own_lt ho3
  clear hc1 hf1 bel1 ho3 HCL PA0
  obtain ⟨gz, hgz, ck0⟩ := own_nats' O3.out (show 0 < s from hs1) (clsL_get xs bs s l s (show 0 < s from hs1))
  cases hgz
  have ck1 : w1.cell? ⟨g3, 0, none⟩ = some (.int .i64 ((clF xs bs s l 0) : Int)) := ck0
  clear ck0
  have hsI : (0 : Int) < (s : Int) := by omega
  obtain ⟨a0, a1, a2, a3⟩ := PA.out.step ((((Below.refl w1.heap.size w1).alloc (Nat.le_refl _) (.cells #[.int .i64 ((clF xs bs s l 0) : Int)] 2)).alloc (by simp) (.cells #[.int .i64 0] 2))) (by omega)
  go_wp2_with fail
  clear a0 a1 a2 a3 ck1
  have z1 : (w1.alloc (.cells #[.int .i64 ((clF xs bs s l 0) : Int)] 2)).heap.size = w1.heap.size + 1 := by simp
  have z2 : ((w1.alloc (.cells #[.int .i64 ((clF xs bs s l 0) : Int)] 2)).alloc (.cells #[.int .i64 0] 2)).heap.size = w1.heap.size + 2 := by simp
  have RQ0 := hid (((own_one w1 2 (.int .i64 ((clF xs bs s l 0) : Int))).alloc (.cells #[.int .i64 0] 2)).alloc (.cells #[.int .i64 0, .int .i64 (l : Int), .slice none 0 0, .slice none 0 0] 31))
  have RS0 := hid (own_mono ((own_one (w1.alloc (.cells #[.int .i64 ((clF xs bs s l 0) : Int)] 2)) 2 (.int .i64 0)).alloc (.cells #[.int .i64 0, .int .i64 (l : Int), .slice none 0 0, .slice none 0 0] 31)) (show w1.heap.size ≤ (w1.alloc (.cells #[.int .i64 ((clF xs bs s l 0) : Int)] 2)).heap.size by rw [z1]; omega))
  have OP0 := hid (outP_new ((w1.alloc (.cells #[.int .i64 ((clF xs bs s l 0) : Int)] 2)).alloc (.cells #[.int .i64 0] 2)) (l : Int) (base := w1.heap.size) (by rw [z2]; omega) (E := [w1.heap.size, w1.heap.size + 1]) (fun e he => by rw [z2]; simp at he; rcases he with rfl | rfl <;> omega))
  have BL0 := hid ((((Below.refl w1.heap.size w1).alloc (Nat.le_refl _) (.cells #[.int .i64 ((clF xs bs s l 0) : Int)] 2)).alloc (by rw [z1]; omega) (.cells #[.int .i64 0] 2)).alloc (by rw [z2]; omega) (.cells #[.int .i64 0, .int .i64 (l : Int), .slice none 0 0, .slice none 0 0] 31))
  rw [z2] at OP0
  rw [z1] at RS0
  have RP0 := hid (show Reps xs bs s l (Q (nxL xs bs s l) l (clF xs bs s l 0) 0) [0] from ⟨rfl, fun j hj => by
    have e : j = 0 := by simp [Exp.Q] at hj; exact hj
    subst e
    exact ⟨hs1, rfl⟩⟩)
  generalize hb1 : w1.heap.size = b1 at *
  have OPZ := hid (show OutP (((w1.alloc (.cells #[.int .i64 ((clF xs bs s l 0) : Int)] 2)).alloc (.cells #[.int .i64 0] 2)).alloc (.cells #[.int .i64 0, .int .i64 (l : Int), .slice none 0 0, .slice none 0 0] 31)) b1 (b1 + 2) l (N (nxL xs bs s l) l (clF xs bs s l 0) 0) (D (nxL xs bs s l) (enC xs bs s l) l (clF xs bs s l 0) 0) none 0 none 0 [b1, b1 + 1] from OP0.out)
  clear OP0 z1 z2
  generalize ((w1.alloc (.cells #[.int .i64 ((clF xs bs s l 0) : Int)] 2)).alloc (.cells #[.int .i64 0] 2)).alloc (.cells #[.int .i64 0, .int .i64 (l : Int), .slice none 0 0, .slice none 0 0] 31) = v0 at *
  go_loopw [4, 5, 7] (fun v4 v5 i wr => ∃ (k gp cp gs cs2 : Nat) (ss : List Nat) (Ao : Option Addr) (co : Nat) (Bo : Option Addr) (do_ : Nat), i = .int .i64 k ∧ v4 = .slice (some ⟨gp, 0, none⟩) (Q (nxL xs bs s l) l (clF xs bs s l 0) k).length cp ∧ v5 = .slice (some ⟨gs, 0, none⟩) (Q (nxL xs bs s l) l (clF xs bs s l 0) k).length cs2 ∧ Hid (wr.ownsRow b1 2 1 (.slice (some ⟨gp, 0, none⟩) (Q (nxL xs bs s l) l (clF xs bs s l 0) k).length cp) (Q (nxL xs bs s l) l (clF xs bs s l 0) k).length (i64s (nats (Q (nxL xs bs s l) l (clF xs bs s l 0) k)))) ∧ Hid (wr.ownsRow b1 2 1 (.slice (some ⟨gs, 0, none⟩) (Q (nxL xs bs s l) l (clF xs bs s l 0) k).length cs2) (Q (nxL xs bs s l) l (clF xs bs s l 0) k).length (i64s (nats ss))) ∧ Hid (Reps xs bs s l (Q (nxL xs bs s l) l (clF xs bs s l 0) k) ss) ∧ gp ≠ gs ∧ Hid (OutP wr b1 (b1 + 2) l (N (nxL xs bs s l) l (clF xs bs s l 0) k) (D (nxL xs bs s l) (enC xs bs s l) l (clF xs bs s l 0) k) Ao co Bo do_ [gp, gs]) ∧ Hid (Below b1 w1 wr) ∧ Hid (∀ j, j < k → j < (Q (nxL xs bs s l) l (clF xs bs s l 0) j).length ∧ (Q (nxL xs bs s l) l (clF xs bs s l 0) j).length ≤ 64)) (fun _ _ i _ => 65 - (intOf i).toNat)
  case atStart => exact ⟨0, b1, 1, b1 + 1, 1, [0], none, 0, none, 0, rfl, rfl, rfl, RQ0, RS0, RP0, by omega, OPZ, BL0, fun j hj => absurd hj (by omega)⟩
  case round =>
    clear RQ0 RS0 RP0 OPZ BL0
    obtain ⟨k, gp, cp, gs, cs2, ss, Ao, co, Bo, do_, rfl, rfl, rfl, RQ, RS, RE, hgs, OP, BL, HD⟩ := hrel
    have hge := Q_ge (nx := (nxL xs bs s l)) (L := l) (c0 := (clF xs bs s l 0)) k fun j hj => (HD.out j hj).1
    have h64 : (Q (nxL xs bs s l) l (clF xs bs s l 0) k).length ≤ 64 := by have := HQM.out k fun j hj => (HD.out j hj).1; omega
    have BELR := hid (BEL.out.trans (BL.out.mono (by omega)))
    have PA1 := hid (PA.out.keep fun o => BL.out.cell (p := ⟨b, o, none⟩) (show b < b1 by omega))
    by_cases hlt : k < (Q (nxL xs bs s l) l (clF xs bs s l 0) k).length
    · obtain ⟨st, hst⟩ : ∃ x, x = at_ ss k := ⟨_, rfl⟩
      obtain ⟨code, hcode⟩ : ∃ x, x = at_ (Q (nxL xs bs s l) l (clF xs bs s l 0) k) k := ⟨_, rfl⟩
      obtain ⟨hss, hcl⟩ := RE.out.2 k hlt
      rw [← hst] at hss hcl
      rw [← hcode] at hcl
      have sc := own_at RS.out hlt
      rw [← hst] at sc
      have HAT := hid hcode
      have HST := hid hst
      clear hcode hst
      have hsb : st < bs.length := by have h1 := HP.out.bl; have h2 := HP.out.ms; omega
      have hsm : (st : Int) < (m : Int) := by have h2 := HP.out.ms; omega
      have hkI : (k : Int) < ((Q (nxL xs bs s l) l (clF xs bs s l 0) k).length : Int) := by omega
      have HEN := hid (show enC xs bs s l code = bs[st] by rw [← enC_of HP.out hss hcl]; unfold enL; simp [List.getD_eq_getElem?_getD, hsb])
      obtain ⟨b5, o5, rfl, hb5, e1⟩ := bools_at (rd_step HL.out.b BELR.out) hsb
      have a3 := PA1.out.c3
      have y3 := OP.out.at_.c3
      have HDL := hid (D_len (nxL xs bs s l) (enC xs bs s l) l (clF xs bs s l 0) k)
      have HD1 := hid (show (D (nxL xs bs s l) (enC xs bs s l) l (clF xs bs s l 0) (k + 1)) = (D (nxL xs bs s l) (enC xs bs s l) l (clF xs bs s l 0) k) ++ [(enC xs bs s l) code] by rw [HAT.out]; rfl)
      have hkk : k ≤ 64 := by omega
      generalize bs[st] = p at *
      have y3a := ((Below.refl wr.heap.size wr).alloc (Nat.le_refl _) (.cells #[.bool p] 4)).cell (p := ⟨b1 + 2, 3, none⟩) OP.out.lt |>.trans y3
      generalize hD1e : (D (nxL xs bs s l) (enC xs bs s l) l (clF xs bs s l 0) (k + 1)) = D1 at *
      have HDE := hid hD1e
      clear hD1e
      generalize (D (nxL xs bs s l) (enC xs bs s l) l (clF xs bs s l 0) k) = D0 at *
      go_wp2_with fail
      go_cut [] from 30 to 44 (fun wx => ∃ (g7 c7 : Nat), Hid (OutP wx b1 (b1 + 2) l (N (nxL xs bs s l) l (clF xs bs s l 0) k) D1 Ao co (some ⟨g7, 0, none⟩) c7 [gp, gs]) ∧ Hid (wx.ownsRow b1 2 1 (.slice (some ⟨gp, 0, none⟩) (Q (nxL xs bs s l) l (clF xs bs s l 0) k).length cp) (Q (nxL xs bs s l) l (clF xs bs s l 0) k).length (i64s (nats (Q (nxL xs bs s l) l (clF xs bs s l 0) k)))) ∧ Hid (wx.ownsRow b1 2 1 (.slice (some ⟨gs, 0, none⟩) (Q (nxL xs bs s l) l (clF xs bs s l 0) k).length cs2) (Q (nxL xs bs s l) l (clF xs bs s l 0) k).length (i64s (nats ss))) ∧ Hid (Below b1 w1 wx))
      case first =>
        first | (go_region_law (refine step_append_lies _ (by rfl) _ _ 26 (by rfl) b1 4 i0 (Value.bool false) 1 1 Try.underlying26 hi0 hz0 hz1 hz2 rfl (by decide) (.slice Bo D0.length do_) D0.length (bools D0) (by rfl) (show ((wr.alloc (.cells #[.bool p] 4)).drew).ownsRow _ _ _ _ _ _ from OP.out.rb.alloc _) ⟨wr.heap.size, 0, none⟩ 1 1 [.bool p] (by rfl) rfl (World.news_of_block (w := (wr.alloc (.cells #[.bool p] 4)).drew) (heap_alloc_new wr (.cells #[.bool p] 4))) (fun u hu => by rw [List.mem_singleton.1 hu]; rfl) (by decide) (by have := HDL.out; unfold maxLen; omega) (by have := HDL.out; omega) (Nat.le_trans OP.out.size ((Below.refl wr.heap.size wr).alloc (Nat.le_refl _) _).size) (wr.heap.size + 1) (by show (wr.alloc (.cells #[.bool p] 4)).heap.size = _; simp) ?_; intro g7 c7 w7 hown hgrow hat hlt7; replace hgrow := grown_undrew hgrow; obtain ⟨pp7, pf7⟩ := OP.out.cells (.inr rfl) hgrow; obtain ⟨t0, t1, t2, t3⟩ := pp7; have f3 := pf7 3; have OA7 := hid (OP.out.addB (x := p) (by rw [show bools D0 ++ [Value.bool p] = bools (D0 ++ [p]) by simp [bools]] at hown; exact hown) hgrow hat); clear hown hgrow hat pf7)) | fail
        all_goals
          go_wp2_with fail
          go_meet
          case rel => exact ⟨g7, c7, by rw [HD1.out, HEN.out]; exact OA7.out.1, own_keep RQ.out (OA7.out.2.1 gp (by simp)), own_keep RS.out (OA7.out.2.1 gs (by simp)), BL.out.trans OA7.out.2.2⟩
      case rest =>
        obtain ⟨g7, c7, OPB, RQB, RSB, BLB⟩ := hcut
        generalize wc = w2 at *
        clear OP RQ RS BL BELR PA1 y3 y3a a3 e1 sc HDL HD1 HEN
        generalize hqq : (Q (nxL xs bs s l) l (clF xs bs s l 0) k) = q at *
        have EQ := hid hqq
        clear hqq
        have HNL := hid (show (N (nxL xs bs s l) l (clF xs bs s l 0) k).length ≤ 256 by rw [N_len]; have := Nat.mul_le_mul (show k ≤ 64 by omega) hl2; omega)
        have HQ1 := hid (show (Q (nxL xs bs s l) l (clF xs bs s l 0) (k + 1)) = adds (nxL xs bs s l) code q l by rw [HAT.out, ← EQ.out]; rfl)
        have HN1 := hid (show (N (nxL xs bs s l) l (clF xs bs s l 0) (k + 1)) = (N (nxL xs bs s l) l (clF xs bs s l 0) k) ++ tells (nxL xs bs s l) code q l by rw [HAT.out, ← EQ.out]; rfl)
        have HD2 := hid (show ∀ j, j < k + 1 → j < (Q (nxL xs bs s l) l (clF xs bs s l 0) j).length ∧ (Q (nxL xs bs s l) l (clF xs bs s l 0) j).length ≤ 64 from fun j hj => by
          by_cases e : j = k
          · subst e; rw [EQ.out]; exact ⟨hlt, h64⟩
          · exact HD.out j (by omega))
        generalize (N (nxL xs bs s l) l (clF xs bs s l 0) k) = N0 at *
        go_wp2_with fail
        go_loopw [4, 5, 8] (fun v4 v5 i wr => ∃ (j gp cp gs cs2 : Nat) (ss : List Nat) (Ao : Option Addr) (co : Nat), j ≤ l ∧ i = .int .i64 j ∧ v4 = .slice (some ⟨gp, 0, none⟩) (adds (nxL xs bs s l) code q j).length cp ∧ v5 = .slice (some ⟨gs, 0, none⟩) (adds (nxL xs bs s l) code q j).length cs2 ∧ Hid (wr.ownsRow b1 2 1 (.slice (some ⟨gp, 0, none⟩) (adds (nxL xs bs s l) code q j).length cp) (adds (nxL xs bs s l) code q j).length (i64s (nats (adds (nxL xs bs s l) code q j)))) ∧ Hid (wr.ownsRow b1 2 1 (.slice (some ⟨gs, 0, none⟩) (adds (nxL xs bs s l) code q j).length cs2) (adds (nxL xs bs s l) code q j).length (i64s (nats ss))) ∧ Hid (Reps xs bs s l (adds (nxL xs bs s l) code q j) ss) ∧ gp ≠ gs ∧ Hid (OutP wr b1 (b1 + 2) l (N0 ++ tells (nxL xs bs s l) code q j) D1 Ao co (some ⟨g7, 0, none⟩) c7 [gp, gs]) ∧ Hid (Below b1 w1 wr)) (fun _ _ i _ => l - (intOf i).toNat)
        case atStart => exact ⟨0, gp, cp, gs, cs2, ss, Ao, co, Nat.zero_le _, rfl, rfl, rfl, RQB, RSB, RE, hgs, by rw [show N0 ++ tells (nxL xs bs s l) code q 0 = N0 from List.append_nil _]; exact OPB, BLB⟩
        case round =>
          clear RQB RSB RE OPB BLB hgs hss hcl hsb hsm HST
          obtain ⟨j, gp, cp, gs, cs2, ss, Ao, co, hj, rfl, rfl, rfl, RQ, RS, RE, hgs, OP, BL⟩ := hrel
          have BELR := hid (BEL.out.trans (BL.out.mono (by omega)))
          have PA1 := hid (PA.out.keep fun o => BL.out.cell (p := ⟨b, o, none⟩) (show b < b1 by omega))
          have a1 := PA1.out.c1
          by_cases hjl : j < l
          · have hbig : (adds (nxL xs bs s l) code q j).length ≤ 68 := by have := (adds_le (nxL xs bs s l) code q j).2; omega
            have hkl2 : k < (adds (nxL xs bs s l) code q j).length := by have := (adds_le (nxL xs bs s l) code q j).1; omega
            obtain ⟨st, hst⟩ : ∃ x, x = at_ ss k := ⟨_, rfl⟩
            obtain ⟨hss, hcl⟩ := RE.out.2 k hkl2
            rw [← hst] at hss hcl
            rw [adds_at (nxL xs bs s l) code q j hlt, show at_ q k = code from HAT.out.symm] at hcl
            have sc := own_at RS.out hkl2
            rw [← hst] at sc
            clear hst
            obtain ⟨v, hv, he, ht⟩ := HP.out.to hss hjl
            have HNXT := hid (show clF xs bs s l v = (nxL xs bs s l) code j by rw [← ht]; exact nxL_of HP.out hss hcl hjl)
            have hp1 : st * l + j < n := by rw [HP.out.ns]; exact idx_lt hss hjl
            obtain ⟨i1, hi1⟩ : ∃ i1, i1 = st * l + j := ⟨_, rfl⟩
            rw [← hi1] at he hp1
            have hp2 : (i1 : Int) < (n : Int) := by omega
            have hpl : i1 < xs.length := (List.getElem?_eq_some_iff.1 he).1
            obtain ⟨b6, o6, rfl, hb6, e6⟩ := i64s_at (rd_step HL.out.a BELR.out) hpl
            rw [(List.getElem?_eq_some_iff.1 he).2] at e6
            have mc := mul_cast_small (a := st) (b := l) (k := j) (c := i1) (by omega) (by omega) (by omega) hi1
            clear hi1
            obtain ⟨W1, U1⟩ := mc.1
            obtain ⟨W2, U2⟩ := mc.2.1
            have hvs : (v : Int) < (s : Int) := by omega
            obtain ⟨gz, hgz, cv0⟩ := own_nats' (own_keep O3.out (BL.out.block g3 hg3)) hv (clsL_get xs bs s l s hv)
            cases hgz
            rw [show Cls.cls (enL bs) (toN xs l) l s v = (nxL xs bs s l) code j from HNXT.out] at cv0
            have a2 := PA1.out.c2
            have hkI2 : (k : Int) < ((adds (nxL xs bs s l) code q j).length : Int) := by omega
            have HA2 := hid (show adds (nxL xs bs s l) code q (j + 1) = addQ (adds (nxL xs bs s l) code q j) ((nxL xs bs s l) code j) from rfl)
            have HT2 := hid (show N0 ++ tells (nxL xs bs s l) code q (j + 1) = N0 ++ tells (nxL xs bs s l) code q j ++ [(idx (adds (nxL xs bs s l) code q j) ((nxL xs bs s l) code j) : Int)] by rw [List.append_assoc]; rfl)
            have HTL := hid (show (N0 ++ tells (nxL xs bs s l) code q j).length ≤ 1000 by rw [List.length_append, tells_len]; have := HNL.out; omega)
            generalize (nxL xs bs s l) code j = nxt at *
            generalize hNT : N0 ++ tells (nxL xs bs s l) code q j = NT at *
            generalize hAj : adds (nxL xs bs s l) code q j = Aj at *
            clear hNT hAj mc ht
            go_wp2_with fail
            go_quiet (fail)
            revert nq
            intro nd
            have OPQ := hid (OP.out.step (below_drewN (Below.refl _ _) nd))
            have RQQ := hid (show (wr.drewN nd).ownsRow b1 2 1 (.slice (some ⟨gp, 0, none⟩) Aj.length cp) Aj.length (i64s (nats Aj)) from RQ.out)
            have RSQ := hid (show (wr.drewN nd).ownsRow b1 2 1 (.slice (some ⟨gs, 0, none⟩) Aj.length cs2) Aj.length (i64s (nats ss)) from RS.out)
            have BLQ := hid (below_drewN BL.out nd)
            have cvq : (wr.drewN nd).cell? ⟨g3, v, none⟩ = some (.int .i64 (nxt : Int)) := cv0
            clear RQ RS OP BL BELR PA1 a1 a2 e6 sc cv0
            generalize wr.drewN nd = wq at *
            go_wp2_with fail
            cases hin : Aj.contains nxt
            · have IX := hid (l02Index_add b1 gp Aj.length cp Aj nxt (by omega) hin wq OPQ.out.size RQQ.out)
              have HI := hid (idx_not_mem hin)
              have E2 := hid (show addQ Aj nxt = Aj ++ [nxt] by unfold addQ; rw [hin]; rfl)
              clear hin
              refine IX.out.mono ?_
              rintro e w5 ⟨gp', cp', rfl, ow5, gr5⟩
              have OP5 := hid (OPQ.out.grew gr5 (own_lt ow5) (by simp) (E' := [gp', gs]) (fun x hx => by simp at hx; rcases hx with rfl | rfl; exact .inr rfl; exact .inl (by simp)))
              have B5 := hid (BLQ.out.trans (gr5.kept.below OPQ.out.size fun r hr g e => by rw [List.mem_singleton.1 hr] at e; rw [← Option.some.inj e]; exact Go.Proofs.Ytlfmcdobiojdlaa.fnExactOtherPlain.own_ge RQQ.out))
              have R5 := hid ow5
              have S5 := hid (own_keep RSQ.out (gr5.kept.block gs (own_lt RSQ.out) fun r hr e => by rw [List.mem_singleton.1 hr] at e; exact hgs (Option.some.inj e).symm))
              have hgs5 : gp' ≠ gs := by
                rcases gr5.at_ with e | e
                · rw [e]; exact hgs
                · have := own_lt RSQ.out; omega
              have hgt : ((Aj.length : Nat) : Int) < ((Aj.length + 1 : Nat) : Int) := by omega
              have hgt2 : ((Aj.length : Nat) : Int) < ((Aj.length : Nat) : Int) + 1 := by omega
              clear IX ow5 gr5 cvq
              go_wp2_with (first | (at_builtin; refine wpList_append_lies _ rfl _ _ 22 rfl b1 2 j0 (Value.int .i64 0) 1 8 Try.underlying22 hj0 hw0 hw1 hw2 rfl (by decide) (.slice (some ⟨gs, 0, none⟩) Aj.length cs2) Aj.length (i64s (nats ss)) rfl (S5.out.alloc _) ⟨w5.heap.size, 0, none⟩ 1 1 [.int .i64 (v : Int)] rfl rfl (cell_one_new _ _ _) (ints_oneCell .i64 [(v : Int)]) (by decide) (by unfold maxLen; omega) (by omega) (Nat.le_trans OP5.out.size ((Below.refl w5.heap.size w5).alloc (Nat.le_refl _) _).size) (w5.heap.size + 1) (by simp) ?_; intro gs' cs' w8 hown hgrow hat hlt8; have GR8 := hid (grew_lies hgrow hat); have S8 := hid (show w8.ownsRow b1 2 1 (.slice (some ⟨gs', 0, none⟩) (Aj.length + 1) cs') (Aj.length + 1) (i64s (nats (ss ++ [v]))) by rw [show i64s (nats ss) ++ [Value.int .i64 (v : Int)] = i64s (nats (ss ++ [v])) by simp [i64s, nats]] at hown; exact hown); have R8 := hid (own_keep R5.out (GR8.out.kept.block gp' (own_lt R5.out) (fun r hr e => by rw [List.mem_singleton.1 hr] at e; exact hgs5 (Option.some.inj e)))); have OP8 := hid (OP5.out.grew GR8.out hlt8 (by simp) (E' := [gp', gs']) (fun x hx => by simp at hx; rcases hx with rfl | rfl; exact .inl (by simp); exact .inr rfl)); have B8 := hid (B5.out.trans (GR8.out.kept.below OP5.out.size (fun r hr g e => by rw [List.mem_singleton.1 hr] at e; rw [← Option.some.inj e]; exact Go.Proofs.Ytlfmcdobiojdlaa.fnExactOtherPlain.own_ge S5.out))); have hgs8 : gp' ≠ gs' := (by rcases GR8.out.at_ with e | e; rw [e]; exact hgs5; have := own_lt R5.out; omega); obtain ⟨y0, y1, y2, y3⟩ := OP8.out.at_; clear hown hgrow hat) | (at_builtin; refine wpList_append_lies _ rfl _ _ 22 rfl b1 2 j0 (Value.int .i64 0) 1 8 Try.underlying22 hj0 hw0 hw1 hw2 rfl (by decide) (.slice Ao NT.length co) NT.length (i64s NT) rfl (OP8.out.ra.alloc _) ⟨w8.heap.size, 0, none⟩ 1 1 [.int .i64 (Aj.length : Int)] rfl rfl (cell_one_new _ _ _) (ints_oneCell .i64 [(Aj.length : Int)]) (by decide) (by have := HTL.out; unfold maxLen; omega) (by have := HTL.out; omega) (Nat.le_trans OP8.out.size ((Below.refl w8.heap.size w8).alloc (Nat.le_refl _) _).size) (w8.heap.size + 1) (by simp) ?_; intro g8 c8 w9 hown hgrow hat hlt9; obtain ⟨pp7, pf7⟩ := OP8.out.cells (.inl rfl) hgrow; obtain ⟨t0, t1, t2, t3⟩ := pp7; have f2 := pf7 2; have OA9 := hid (OP8.out.addA (x := (Aj.length : Int)) (by rw [show i64s NT ++ [Value.int .i64 (Aj.length : Int)] = i64s (NT ++ [(Aj.length : Int)]) by simp [i64s]] at hown; exact hown) hgrow hat); clear hown hgrow hat pf7))
              go_roundw
              case rel => exact ⟨j + 1, gp', cp', gs', cs', ss ++ [v], some ⟨g8, 0, none⟩, c8, hjl, by go_num, by rw [HA2.out, E2.out]; simp, by rw [HA2.out, E2.out]; simp, by rw [HA2.out, E2.out, List.length_append]; exact own_keep R8.out (OA9.out.2.1 gp' (by simp)), by rw [HA2.out, E2.out, List.length_append]; exact own_keep S8.out (OA9.out.2.1 gs' (by simp)), by rw [HA2.out, E2.out]; exact RE.out.add hv HNXT.out, hgs8, by rw [HT2.out, HI.out]; exact OA9.out.1, B8.out.trans OA9.out.2.2⟩
              case measure =>
                show l - ((j : Int) + 1).toNat < l - ((j : Int)).toNat
                omega
            · have IX := hid (l02Index_found b1 gp Aj.length cp Aj nxt (by omega) hin wq RQQ.out)
              have E2 := hid (show addQ Aj nxt = Aj by unfold addQ; rw [hin]; rfl)
              have HI := hid (show idx Aj nxt = place Aj nxt from rfl)
              clear hin
              refine IX.out.mono ?_
              rintro e w5 ⟨rfl, h5⟩
              subst h5
              clear IX cvq
              generalize place Aj nxt = pl at *
              have hngt : ¬ ((Aj.length : Nat) : Int) < ((Aj.length : Nat) : Int) := by omega
              obtain ⟨y0, y1, y2, y3⟩ := OPQ.out.at_
              go_wp2_with (at_builtin; refine wpList_append_lies _ rfl _ _ 22 rfl b1 2 j0 (Value.int .i64 0) 1 8 Try.underlying22 hj0 hw0 hw1 hw2 rfl (by decide) (.slice Ao NT.length co) NT.length (i64s NT) rfl (OPQ.out.ra.alloc _) ⟨w5.heap.size, 0, none⟩ 1 1 [.int .i64 (pl : Int)] rfl rfl (cell_one_new _ _ _) (ints_oneCell .i64 [(pl : Int)]) (by decide) (by have := HTL.out; unfold maxLen; omega) (by have := HTL.out; omega) (Nat.le_trans OPQ.out.size ((Below.refl w5.heap.size w5).alloc (Nat.le_refl _) _).size) (w5.heap.size + 1) (by simp) ?_; intro g8 c8 w9 hown hgrow hat hlt9; obtain ⟨pp7, pf7⟩ := OPQ.out.cells (.inl rfl) hgrow; obtain ⟨t0, t1, t2, t3⟩ := pp7; have f2 := pf7 2; have OA9 := hid (OPQ.out.addA (x := (pl : Int)) (by rw [show i64s NT ++ [Value.int .i64 (pl : Int)] = i64s (NT ++ [(pl : Int)]) by simp [i64s]] at hown; exact hown) hgrow hat); clear hown hgrow hat pf7)
              go_roundw
              case rel => exact ⟨j + 1, gp, cp, gs, cs2, ss, some ⟨g8, 0, none⟩, c8, hjl, by go_num, by rw [HA2.out, E2.out], by rw [HA2.out, E2.out], by rw [HA2.out, E2.out]; exact own_keep RQQ.out (OA9.out.2.1 gp (by simp)), by rw [HA2.out, E2.out]; exact own_keep RSQ.out (OA9.out.2.1 gs (by simp)), by rw [HA2.out, E2.out]; exact RE, hgs, by rw [HT2.out, HI.out]; exact OA9.out.1, BLQ.out.trans OA9.out.2.2⟩
              case measure =>
                show l - ((j : Int) + 1).toNat < l - ((j : Int)).toNat
                omega
          · have hje : j = l := by omega
            subst hje
            go_wp2_with fail
            go_roundw
            case rel => exact ⟨k + 1, gp, cp, gs, cs2, ss, Ao, co, some ⟨g7, 0, none⟩, c7, by go_num, by rw [HQ1.out], by rw [HQ1.out], by rw [HQ1.out]; exact RQ, by rw [HQ1.out]; exact RS, by rw [HQ1.out]; exact RE, hgs, by rw [HN1.out, HDE.out]; exact OP, BL, HD2.out⟩
            case measure =>
              show 65 - ((k : Int) + 1).toNat < 65 - ((k : Int)).toNat
              omega
    · have hkl : (Q (nxL xs bs s l) l (clF xs bs s l 0) k).length = k := by omega
      have HANS := hid (ans_unique HR.out ⟨k, HD.out, .inr ⟨hkl.symm, by omega, rfl⟩⟩)
      have PZ1 := hid (PZ.out.keep fun o => BL.out.cell (p := ⟨w.heap.size, o, none⟩) (show w.heap.size < b1 by omega))
      have FZ1 := hid (fun o => (BL.out.frozen (p := ⟨w.heap.size, o, none⟩) (show w.heap.size < b1 by omega)).trans (FZ.out o))
      obtain ⟨y0, y1, y2, y3⟩ := OP.out.at_
      obtain ⟨z0, z1, z2, z3⟩ := PZ1.out
      have fz := FZ1.out
      have k0 := fz 0
      have k1 := fz 1
      have k2 := fz 2
      have k3 := fz 3
      have f0 := OP.out.fr 0
      have hlt2 : ¬ (k : Int) < ((Q (nxL xs bs s l) l (clF xs bs s l 0) k).length : Int) := by omega
      have hne : b1 + 2 ≠ w.heap.size := by omega
      have hlb := OP.out.lt
      obtain ⟨ho, hwi⟩ := OP.out.own
      have HO := hid ho
      have HW := hid hwi
      have HNA := hid (fun g (hg : rowN (N (nxL xs bs s l) l (clF xs bs s l 0) k).length Ao = some g) => show g ≠ b1 + 2 from fun e => OP.out.na (by rw [← e]; unfold rowN at hg; split at hg; cases hg; exact hg))
      have HNB := hid (fun g (hg : rowN (D (nxL xs bs s l) (enC xs bs s l) l (clF xs bs s l 0) k).length Bo = some g) => show g ≠ b1 + 2 from fun e => OP.out.nb (by rw [← e]; unfold rowN at hg; split at hg; cases hg; exact hg))
      have hwb1 : w.heap.size ≤ b1 := by omega
      have hwb2 : w.heap.size ≤ b1 + 2 := by omega
      clear fz ho hwi
      go_wp2_with fail
      rw [HANS.out]
      have FI := hid (ownP_five HO.out HW.out (bo := b1 + 2) (bz := w.heap.size) HNA.out HNB.out (by omega) (.int .i64 (k : Int)) (.int .i64 (k : Int)) (.int .i64 (l : Int)) (.slice Ao (N (nxL xs bs s l) l (clF xs bs s l 0) k).length co) (.slice Bo (D (nxL xs bs s l) (enC xs bs s l) l (clF xs bs s l 0) k).length do_))
      exact bodyPost_ret (v := .agg #[.int .i64 (k : Int), .int .i64 l, .slice Ao (N (nxL xs bs s l) l (clF xs bs s l 0) k).length co, .slice Bo (D (nxL xs bs s l) (enC xs bs s l) l (clF xs bs s l 0) k).length do_]) (by simp [results, Try.results68, go_sem, z0, z1, z2, z3]) rfl
        ⟨k, (N (nxL xs bs s l) l (clF xs bs s l 0) k), (D (nxL xs bs s l) (enC xs bs s l) l (clF xs bs s l 0) k), Ao, co, Bo, do_, rfl, rfl, FI.out, HW.out.mono hwb1 (by simp [World.setCell]), (((((BELR.out.setCell hwb2 _).setCell (Nat.le_refl _) _).setCell (Nat.le_refl _) _).setCell (Nat.le_refl _) _).setCell (Nat.le_refl _) _)⟩
end Go.Proofs.Ytlfmcdobiojdlaa.fnExactLeastPlain
