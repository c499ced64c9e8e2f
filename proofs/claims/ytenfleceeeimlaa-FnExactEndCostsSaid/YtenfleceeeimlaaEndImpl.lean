/-
  The least costs to ends, by the program.
-/
import Derived.Test.YtenfleceeeimlaaEndSpec
import Derived.Laws.Cover3
import Derived.RegionTactic
import Derived.BigRegion
import Derived.StillTailTactics
namespace Go.Proofs.Ytenfleceeeimlaa.fnExactEndCosts
open Go.RowKit Go.Proofs.Fl Go.Proofs.Ytenfleceeeimlaa.Num
open Go.Proofs.Ytenfleceeeimlaa.fnExactBackOf (own_any own_some own_succ own_empty i64s_one OwnL.set2 rowN_is cloneI_calls RetClone)
open Go.Proofs.Ytenfleceeeimlaa.fnExactMeetOf (app_one RetL ga_at)
set_option linter.unusedVariables false
set_option linter.unusedSimpArgs false
/-- turned by f up to a place -/
def mixF (f : Int → Int) (xs : List Int) (k : Nat) : List Int := (xs.take k).map f ++ xs.drop k
theorem mixF_zero (f : Int → Int) (xs : List Int) : mixF f xs 0 = xs := by simp [mixF]
theorem mixF_all (f : Int → Int) (xs : List Int) (k : Nat) (h : xs.length ≤ k) : mixF f xs k = xs.map f := by
  unfold mixF
  rw [List.take_of_length_le h, List.drop_of_length_le h, List.append_nil]
theorem mixF_len (f : Int → Int) (xs : List Int) (k : Nat) : (mixF f xs k).length = xs.length := by
  unfold mixF
  simp
  omega
theorem mixF_ga (f : Int → Int) {xs : List Int} {k : Nat} (h : k < xs.length) : ga (mixF f xs k) k = ga xs k := by
  unfold mixF ga
  rw [List.getD_eq_getElem?_getD, List.getElem?_append_right (by simp; omega), List.getElem?_drop, List.getD_eq_getElem?_getD]
  congr 2
  simp
  omega
theorem mixF_set (f : Int → Int) {xs : List Int} {k : Nat} (h : k < xs.length) : (mixF f xs k).set k (f (ga xs k)) = mixF f xs (k + 1) := by
  apply List.ext_getElem?
  intro j
  unfold mixF
  rw [List.getElem?_set]
  by_cases e : k = j
  · subst e
    rw [if_pos rfl, if_pos (by simp; omega), List.getElem?_append_left (by simp; omega)]
    simp [ga, List.getD_eq_getElem?_getD, h]
  · rw [if_neg e]
    by_cases hl : j < k
    · rw [List.getElem?_append_left (by simp; omega), List.getElem?_append_left (by simp; omega)]
      simp [hl, show j < k + 1 by omega]
    · rw [List.getElem?_append_right (by simp; omega), List.getElem?_append_right (by simp; omega), List.getElem?_drop, List.getElem?_drop]
      congr 1
      simp
      omega
theorem mixF_skip (f : Int → Int) {xs : List Int} {k : Nat} (h : k < xs.length) (hf : f (ga xs k) = ga xs k) : mixF f xs k = mixF f xs (k + 1) := by
  rw [← mixF_set f h, hf, ← mixF_ga f h]
  apply List.ext_getElem?
  intro j
  rw [List.getElem?_set]
  split
  · rename_i e
    subst e
    have hl : k < (mixF f xs k).length := by rw [mixF_len]; exact h
    rw [if_pos hl, List.getElem?_eq_getElem hl, ga_get hl]
  · rfl
def ff (y : Int) : Int := if y < 0 then 1099511627776 else y
theorem initE_ff (ys : List Int) : initE 1099511627776 ys = ys.map ff := rfl
theorem ownL_put {w : World} {g n c k : Nat} {cur nxt : List Int} {x : Int} (ho : w.ownsRow g 2 1 (.slice (some ⟨g, 0, none⟩) n c) n (i64s cur)) (h : cur.set k x = nxt) : OwnL (w.setCell ⟨g, k, none⟩ (.int .i64 x)) 2 1 (some ⟨g, 0, none⟩) n c nxt := by
  subst h
  have h1 := OwnL.set2 ho k x
  exact ⟨by have := h1.1; rw [i64s_length] at this; exact this, .inr ⟨g, rfl, h1⟩⟩
theorem own_ga {w : World} {g n c : Nat} {zs : List Int} (ho : w.ownsRow g 2 1 (.slice (some ⟨g, 0, none⟩) n c) n (i64s zs)) {k : Nat} (hk : k < n) : w.cell? ⟨g, k, none⟩ = some (.int .i64 (ga zs k)) := by
  have hl : zs.length = n := by have := ho.1; rw [i64s_length] at this; omega
  rw [World.ownsRow.cellAt ho _ (by omega)]
  unfold i64s ga
  rw [List.getElem?_map, List.getD_eq_getElem?_getD, List.getElem?_eq_getElem (by omega)]
  rfl
set_option maxHeartbeats 1600000 in
theorem farther_calls (A : Option Addr) (n c : Nat) (xs : List Int) (hx : xs.length = n) (hn : n ≤ 1048576) (w : World) (h : Rd w w.heap.size A (i64s xs)) :
    Calls Try.prog 57 #[.slice A n c] w (RetClone 2 1 n (initE 1099511627776 xs) w) := by
  have HC := hid (cloneI_calls A n c xs hx hn w h)
  have HX := hid hx
  clear h hx
  go_enter Try.func57, Try.ntmps57
  go_wp2_with fail
  refine HC.out.mono ?_
  rintro e w1 ⟨A4, c4, rfl, hol, hrow, bel1⟩
  have OL0 := hid (show OwnL w1 2 1 A4 n c4 (mixF ff xs 0) by rw [mixF_zero]; exact hol)
  have OR := hid hrow
  have BE0 := hid bel1
  clear hol hrow bel1 HC
  go_wp2_with fail
  go_loopw [10] (fun i wr => ∃ k : Nat, k ≤ n ∧ i = .int .i64 k ∧ Hid (OwnL wr 2 1 A4 n c4 (mixF ff xs k)) ∧ Hid (Below w.heap.size w wr)) (fun i _ => n - (intOf i).toNat)
  case atStart => exact ⟨0, Nat.zero_le _, rfl, OL0, BE0⟩
  case round =>
    clear OL0 BE0
    obtain ⟨k, hk, rfl, OL, hbel⟩ := hrel
    by_cases hlt : k < n
    · rcases OL.out.2 with h0 | ⟨g, rfl, ho⟩
      · omega
      have hkx : k < xs.length := by rw [HX.out]; exact hlt
      have hgr := OR.out g (rowN_some (by omega))
      have p0 := own_ga ho hlt
      rw [mixF_ga ff hkx] at p0
      have f0 := World.ownsRow.frozenAt ho k
      by_cases hy : ga xs k < 0
      · have HS := hid (show (mixF ff xs k).set k 1099511627776 = mixF ff xs (k + 1) by rw [← mixF_set ff hkx]; unfold ff; rw [if_pos hy])
        have O2 := hid (ownL_put ho HS.out)
        have B2 := hid (hbel.out.setCell (p := ⟨g, k, none⟩) hgr (.int .i64 1099511627776))
        clear ho
        generalize ga xs k = y at *
        go_wp2_with fail
        go_roundw
        case rel => exact ⟨k + 1, hlt, by go_num, O2, B2⟩
        case measure => simp [intOf]; omega
      · have HS := hid (show mixF ff xs k = mixF ff xs (k + 1) from mixF_skip ff hkx (by unfold ff; rw [if_neg hy]))
        have O2 := hid (HS.out ▸ OL.out)
        clear ho
        generalize ga xs k = y at *
        go_wp2_with fail
        go_roundw
        case rel => exact ⟨k + 1, hlt, by go_num, O2, hbel⟩
        case measure => simp [intOf]; omega
    · have he : k = n := by omega
      subst he
      have O2 := hid (show OwnL wr 2 1 A4 k c4 (initE 1099511627776 xs) by rw [initE_ff, ← mixF_all ff xs k (by rw [HX.out]; omega)]; exact OL.out)
      clear OL
      go_wp2_with fail
      go_ret
      exact ⟨A4, c4, rfl, O2.out, OR.out, hbel.out⟩
theorem min_if (a b : Int) : min a b = if b < a then b else a := by split <;> omega
set_option maxHeartbeats 3200000 in
theorem endCosts_calls (S L : Int) (A : Option Addr) (n c : Nat) (B : Option Addr) (m d : Nat) (C : Option Addr) (q f : Nat) (zs xs ys : List Int) (hF : Fits n m q zs xs ys) (hv : validM S L n zs m xs q ys = true) (w : World) (hl : Lists w A B C zs xs ys) :
    Calls Try.prog 43 #[.agg #[.int .i64 S, .int .i64 L, .slice A n c, .slice B m d, .slice C q f]] w (RetClone 2 1 q (relaxR zs n q (initE 1099511627776 ys)) w) := by
  have HF := hid hF
  have HL := hid hl
  obtain ⟨va, vy, vn, vq, vq1, rfl⟩ := valid_ends hF.y hv
  have HA := hid va
  have HYB := hid vy
  have HFA := hid (fun w h => farther_calls C q f ys hF.y (by omega) w h)
  clear hF hv hl va vy
  go_enter Try.func43, Try.ntmps43
  go_wp2_with fail
  refine (HFA.out _ (HL.out.alloc _).c).mono ?_
  rintro e w1 ⟨A4, c4, rfl, hol, hrow, bel1⟩
  have hz1 : w.heap.size + 1 ≤ w1.heap.size := by have := bel1.size; simp at this; omega
  have BEL := hid (((Below.refl w.heap.size w).alloc (Nat.le_refl _) _).trans (bel1.mono (by simp)))
  have hc := (old_cell bel1).1
  have PA := hid (show MachAt w1 w.heap.size (q : Int) L A n c B m d C q f from ⟨by rw [hc _ _ (by simp)]; go_simp, by rw [hc _ _ (by simp)]; go_simp, by rw [hc _ _ (by simp)]; go_simp, by rw [hc _ _ (by simp)]; go_simp, by rw [hc _ _ (by simp)]; go_simp⟩)
  obtain ⟨g, rfl⟩ : ∃ g, A4 = some ⟨g, 0, none⟩ := by
    rcases hol.2 with h0 | ⟨g, h0, _⟩
    · omega
    · exact ⟨g, h0⟩
  have hg := hrow g (rowN_some (by omega))
  have hgl := hol.row_lt (rowN_some (by omega))
  have hg : w.heap.size < g := by simp at hg; omega
  have O0 := hid (show w1.ownsRow g 2 1 (.slice (some ⟨g, 0, none⟩) q c4) q (i64s (relaxR zs n 0 (initE 1099511627776 ys))) from by
    rcases hol.2 with h0 | ⟨g', h0, ho⟩
    · omega
    · cases h0; exact ho)
  clear hol hrow bel1 hc HFA
  go_wp2_with fail
  go_loopw [11] (fun i w2 => ∃ a : Nat, a ≤ q ∧ i = .int .i64 a ∧ Hid (w2.ownsRow g 2 1 (.slice (some ⟨g, 0, none⟩) q c4) q (i64s (relaxR zs n a (initE 1099511627776 ys)))) ∧ Hid (MachAt w2 w.heap.size (q : Int) L A n c B m d C q f) ∧ Hid (Below w.heap.size w w2)) (fun i _ => q - (intOf i).toNat)
  case atStart => exact ⟨0, Nat.zero_le _, rfl, O0, PA, BEL⟩
  case round =>
    clear O0 PA BEL hz1
    obtain ⟨a, ha, rfl, OW, PA, hbel⟩ := hrel
    by_cases hla : a < q
    · have OW1 := hid (show wr.ownsRow g 2 1 (.slice (some ⟨g, 0, none⟩) q c4) q (i64s (relaxA zs 0 (relaxR zs n a (initE 1099511627776 ys)))) from OW.out)
      have hlr : (relaxR zs n a (initE 1099511627776 ys)).length = q := by rw [relaxR_len, initE_len]; exact HF.out.y
      have HIN := hid (InF.relaxR (F := 1099511627776) (zs := zs) (n := n) (xs := initE 1099511627776 ys) (by rw [initE_len, HF.out.y]; exact HA.out) (InF.init (by omega) (by rw [HF.out.y]; exact HYB.out)) a)
      have HLR := hid hlr
      have HRR := hid (show relaxR zs n (a + 1) (initE 1099511627776 ys) = relaxA zs n (relaxR zs n a (initE 1099511627776 ys)) from rfl)
      have c2 := PA.out.c2
      clear hlr OW
      generalize relaxR zs n a (initE 1099511627776 ys) = rs at *
      go_wp2_with fail
      clear c2
      go_loopw [16] (fun i w2 => ∃ j : Nat, j ≤ n ∧ i = .int .i64 j ∧ Hid (w2.ownsRow g 2 1 (.slice (some ⟨g, 0, none⟩) q c4) q (i64s (relaxA zs j rs))) ∧ Hid (MachAt w2 w.heap.size (q : Int) L A n c B m d C q f) ∧ Hid (Below w.heap.size w w2)) (fun i _ => n - (intOf i).toNat)
      case atStart => exact ⟨0, Nat.zero_le _, rfl, OW1, PA, hbel⟩
      case round =>
        clear OW1 PA hbel
        obtain ⟨j, hj, rfl, OW, PA, hbel⟩ := hrel
        by_cases hlj : j < n
        · obtain ⟨b1, o1, rfl, hb1, p0, p1, p2, p3⟩ := arcs_at (rd_step HL.out.a hbel.out) HF.out.z hlj
          obtain ⟨y0, y1, y2, y3, y4, y5⟩ := HA.out j hlj
          have HRX := hid (show relaxA zs (j + 1) rs = relax1 zs j (relaxA zs j rs) from rfl)
          have hlc : (relaxA zs j rs).length = q := by rw [relaxA_len]; exact HLR.out
          have hin := InF.relaxA (n := n) (by rw [HLR.out]; exact HA.out) HIN.out j hj
          have hu := hin (fromA zs j) (by rw [hlc]; unfold fromA; omega)
          have hv := hin (toA zs j) (by rw [hlc]; unfold toA; omega)
          obtain ⟨u, hue⟩ := Int.eq_ofNat_of_zero_le y0
          obtain ⟨v, hve⟩ := Int.eq_ofNat_of_zero_le y2
          have euf : fromA zs j = u := by unfold fromA; omega
          have evf : toA zs j = v := by unfold toA; omega
          rw [euf] at hu
          rw [evf] at hv
          have huk : u < q := by omega
          have hvk : v < q := by omega
          have pu := own_ga OW.out huk
          have pv := own_ga OW.out hvk
          have fu := World.ownsRow.frozenAt OW.out u
          have HRY := hid (show relaxA zs (j + 1) rs = (relaxA zs j rs).set u (if ga (relaxA zs j rs) v + ga zs (j * 4 + 3) < ga (relaxA zs j rs) u then ga (relaxA zs j rs) v + ga zs (j * 4 + 3) else ga (relaxA zs j rs) u) by rw [HRX.out, Int.add_comm, ← min_if]; unfold fnExactEndCosts.relax1; rw [euf, evf])
          clear HRX hin euf evf
          have hgl := own_lt OW.out
          rw [hue] at p0
          rw [hve] at p1
          generalize ga (relaxA zs j rs) u = cu at *
          generalize ga (relaxA zs j rs) v = cv at *
          generalize relaxA zs j rs = cur at *
          generalize ga zs (j * 4 + 2) = x2 at *
          generalize ga zs (j * 4 + 3) = x3 at *
          clear hue hve y0 y1 y2 y3
          have hbs := hbel.out.size
          have PA2 := hid (PA.out.step ((Below.refl wr.heap.size wr).alloc (Nat.le_refl _) (.cells #[.int .i64 (u : Int), .int .i64 (v : Int), .int .i64 x2, .int .i64 x3] 50)) (by omega))
          have hold := (old_cell ((Below.refl wr.heap.size wr).alloc (Nat.le_refl _) (.cells #[.int .i64 (u : Int), .int .i64 (v : Int), .int .i64 x2, .int .i64 x3] 50)))
          have e0 : (wr.alloc (.cells #[.int .i64 (u : Int), .int .i64 (v : Int), .int .i64 x2, .int .i64 x3] 50)).cell? ⟨wr.heap.size, 0, none⟩ = some (.int .i64 (u : Int)) := by go_simp
          have e1 : (wr.alloc (.cells #[.int .i64 (u : Int), .int .i64 (v : Int), .int .i64 x2, .int .i64 x3] 50)).cell? ⟨wr.heap.size, 1, none⟩ = some (.int .i64 (v : Int)) := by go_simp
          have e3 : (wr.alloc (.cells #[.int .i64 (u : Int), .int .i64 (v : Int), .int .i64 x2, .int .i64 x3] 50)).cell? ⟨wr.heap.size, 3, none⟩ = some (.int .i64 x3) := by go_simp
          have du := (hold.1 g u hgl).trans pu
          have dv := (hold.1 g v hgl).trans pv
          have hf := (hold.2 g u hgl).trans fu
          have O2 := hid (OW.out.alloc (.cells #[.int .i64 (u : Int), .int .i64 (v : Int), .int .i64 x2, .int .i64 x3] 50))
          have B2 := hid (hbel.out.alloc hbel.out.size (.cells #[.int .i64 (u : Int), .int .i64 (v : Int), .int .i64 x2, .int .i64 x3] 50))
          clear hold OW hbel pu pv fu PA
          go_wp2_with fail
          generalize wr.alloc (.cells #[.int .i64 (u : Int), .int .i64 (v : Int), .int .i64 x2, .int .i64 x3] 50) = v1 at *
          generalize wr.heap.size = bb at *
          have du' := show v1.drew.cell? _ = _ from du
          have dv' := show v1.drew.cell? _ = _ from dv
          have e0' := show v1.drew.cell? _ = _ from e0
          have e1' := show v1.drew.cell? _ = _ from e1
          have e3' := show v1.drew.cell? _ = _ from e3
          have hf' := show v1.drew.frozen? _ = _ from hf
          have O3 := hid (show (v1.drew.setCell ⟨g, u, none⟩ (.int .i64 (if cv + x3 < cu then cv + x3 else cu))).ownsRow g 2 1 (.slice (some ⟨g, 0, none⟩) q c4) q (i64s (relaxA zs (j + 1) rs)) from own_put HRY.out O2.out)
          have B3 := hid (show Below w.heap.size w (v1.drew.setCell ⟨g, u, none⟩ (.int .i64 (if cv + x3 < cu then cv + x3 else cu))) from B2.out.drew.setCell (p := ⟨g, u, none⟩) (by simp; omega) _)
          have PA3 := hid (show MachAt (v1.drew.setCell ⟨g, u, none⟩ (.int .i64 (if cv + x3 < cu then cv + x3 else cu))) w.heap.size (q : Int) L (some ⟨b1, o1, none⟩) n c B m d C q f from PA2.out.drew.keep fun o => World.cell?_of_block (w := v1.drew) (Below.heap_setCell _ _ _ _ (show w.heap.size ≠ g by omega)))
          clear O2 B2 du dv e0 e1 e3 hf HRY PA2
          refine wp_region_still_tail 18 (by kernel_rfl) (by kernel_rfl) ?_
          change wpStill _ _ v1.drew (fun a' => wpList _ _ _ _ a' v1.drew) _ _
          generalize v1.drew = v2 at *
          simp only [List.take_succ_cons, List.take_zero, List.drop_succ_cons, List.drop_zero]
          have W : IntKind.i64.wrap (cv + x3) = cv + x3 := by rw [IntKind.wrap_i64]; omega
          repeat still_step
          refine wpStill_nil ?_
          go_wp2_with fail
          go_roundw
          case rel => exact ⟨j + 1, hlj, by go_num, O3, PA3, B3⟩
          case measure => simp [intOf]; omega
        · obtain rfl : j = n := by omega
          go_wp2_with fail
          go_roundw
          case rel => exact ⟨a + 1, hla, by go_num, by rw [HRR.out]; exact OW, PA, hbel⟩
          case measure => simp [intOf]; omega
    · obtain rfl : a = q := by omega
      have HFI := hid OW.out
      go_wp2_with fail
      go_ret
      exact ⟨some ⟨g, 0, none⟩, c4, rfl, ⟨by rw [relaxR_len, initE_len, HF.out.y]; omega, .inr ⟨g, rfl, HFI.out⟩⟩, fun x hx => by have := rowN_is hx; omega, hbel.out⟩
def tt (x : Int) : Int := if 1099511627776 ≤ x then -1 else x
theorem toldE_tt (xs : List Int) : toldE 1099511627776 xs = xs.map tt := rfl
set_option maxHeartbeats 3200000 in
theorem impl_yes (S L : Int) (A : Option Addr) (n c : Nat) (B : Option Addr) (m d : Nat) (C : Option Addr) (q f : Nat) (zs xs ys : List Int) (hF : Fits n m q zs xs ys) (hv : validM S L n zs m xs q ys = true) (w : World) (hl : Lists w A B C zs xs ys) :
    Calls Try.prog 20 #[.agg #[.int .i64 S, .int .i64 L, .slice A n c, .slice B m d, .slice C q f]] w (RetBL q (endsOf 1099511627776 zs n ys) true w) := by
  have HL := hid hl
  have HV := hid (hv ▸ fun w hl => implValid_calls S L A n c B m d C q f zs xs ys hF w hl)
  have HE := hid fun w hl => endCosts_calls S L A n c B m d C q f zs xs ys hF hv w hl
  have hlen := hid (show (relaxR zs n q (initE 1099511627776 ys)).length = q by rw [relaxR_len, initE_len]; exact hF.y)
  have HEN := hid (show endsOf 1099511627776 zs n ys = (relaxR zs n q (initE 1099511627776 ys)).map tt by unfold endsOf; rw [hF.y]; rfl)
  have hvq := (valid_ends hF.y hv).2.2.2.1
  have hvq1 := (valid_ends hF.y hv).2.2.2.2.1
  clear hl hF hv
  go_enter Try.func20, Try.ntmps20
  go_wp2_with fail
  refine (HV.out _ (HL.out.alloc _)).mono ?_
  rintro e w1 ⟨rfl, bel1⟩
  have hc := (old_cell bel1).1
  have s1 : w.heap.size + 1 ≤ w1.heap.size := by have := bel1.size; simp at this; omega
  have BEL := hid (((Below.refl w.heap.size w).alloc (Nat.le_refl _) _).trans (bel1.mono (by simp)))
  have PA := hid (show MachAt w1 w.heap.size S L A n c B m d C q f from ⟨by rw [hc _ _ (by simp)]; go_simp, by rw [hc _ _ (by simp)]; go_simp, by rw [hc _ _ (by simp)]; go_simp, by rw [hc _ _ (by simp)]; go_simp, by rw [hc _ _ (by simp)]; go_simp⟩)
  clear hc bel1
  obtain ⟨a0, a1, a2, a3, a4⟩ := PA.out
  go_wp2_with fail
  refine (HE.out _ (HL.out.step BEL.out)).mono ?_
  rintro e w2 ⟨A4, c4, rfl, hol, hrow, bel2⟩
  clear a0 a1 a2 a3 a4 PA
  generalize relaxR zs n q (initE 1099511627776 ys) = es at *
  have OL0 := hid (show OwnL w2 2 1 A4 q c4 (mixF tt es 0) by rw [mixF_zero]; exact hol)
  obtain ⟨g, rfl⟩ : ∃ g, A4 = some ⟨g, 0, none⟩ := by
    rcases hol.2 with h0 | ⟨g, h0, _⟩
    · omega
    · exact ⟨g, h0⟩
  have hg := hrow g (rowN_some (by omega))
  have BE0 := hid (BEL.out.trans (bel2.mono (by omega)))
  clear hol hrow bel2 BEL
  go_wp2_with fail
  go_loopw [14] (fun i wr => ∃ k : Nat, k ≤ q ∧ i = .int .i64 k ∧ Hid (OwnL wr 2 1 (some ⟨g, 0, none⟩) q c4 (mixF tt es k)) ∧ Hid (Below w.heap.size w wr)) (fun i _ => q - (intOf i).toNat)
  case atStart => exact ⟨0, Nat.zero_le _, rfl, OL0, BE0⟩
  case round =>
    clear OL0 BE0
    obtain ⟨k, hk, rfl, OL, hbel⟩ := hrel
    by_cases hlt : k < q
    · rcases OL.out.2 with h0 | ⟨g', hgg, ho⟩
      · omega
      cases hgg
      have hkx : k < es.length := by rw [hlen.out]; exact hlt
      have p0 := own_ga ho hlt
      rw [mixF_ga tt hkx] at p0
      have f0 := World.ownsRow.frozenAt ho k
      by_cases hy : 1099511627776 ≤ ga es k
      · have HS := hid (show (mixF tt es k).set k (-1) = mixF tt es (k + 1) by rw [← mixF_set tt hkx]; unfold tt; rw [if_pos hy])
        have O2 := hid (ownL_put ho HS.out)
        have B2 := hid (hbel.out.setCell (p := ⟨g, k, none⟩) (by simp; omega) (.int .i64 (-1)))
        clear ho
        generalize ga es k = y at *
        go_wp2_with fail
        go_roundw
        case rel => exact ⟨k + 1, hlt, by go_num, O2, B2⟩
        case measure => simp [intOf]; omega
      · have HS := hid (show mixF tt es k = mixF tt es (k + 1) from mixF_skip tt hkx (by unfold tt; rw [if_neg hy]))
        have O2 := hid (HS.out ▸ OL.out)
        clear ho
        generalize ga es k = y at *
        go_wp2_with fail
        go_roundw
        case rel => exact ⟨k + 1, hlt, by go_num, O2, hbel⟩
        case measure => simp [intOf]; omega
    · have he : k = q := by omega
      subst he
      have O2 := hid (show OwnL wr 2 1 (some ⟨g, 0, none⟩) k c4 (endsOf 1099511627776 zs n ys) by rw [HEN.out, ← mixF_all tt es k (by rw [hlen.out]; omega)]; exact OL.out)
      clear OL
      go_wp2_with fail
      go_ret2
      exact ⟨some ⟨g, 0, none⟩, c4, rfl, O2.out, (fun r hr x hx => by rw [List.mem_singleton.1 hr] at hx; have h1 := rowN_is hx; have h2 := O2.out.row_lt hx; omega), hbel.out⟩
set_option maxHeartbeats 1600000 in
theorem impl_no (S L : Int) (A : Option Addr) (n c : Nat) (B : Option Addr) (m d : Nat) (C : Option Addr) (q f : Nat) (zs xs ys : List Int) (hF : Fits n m q zs xs ys) (hv : validM S L n zs m xs q ys = false) (w : World) (hl : Lists w A B C zs xs ys) :
    Calls Try.prog 20 #[.agg #[.int .i64 S, .int .i64 L, .slice A n c, .slice B m d, .slice C q f]] w (RetBL 0 [] false w) := by
  have HL := hid hl
  have HV := hid (hv ▸ fun w hl => implValid_calls S L A n c B m d C q f zs xs ys hF w hl)
  clear hl hF hv
  go_enter Try.func20, Try.ntmps20
  go_wp2_with fail
  refine (HV.out _ (HL.out.alloc _)).mono ?_
  rintro e w1 ⟨rfl, bel1⟩
  have BEL := hid (((Below.refl w.heap.size w).alloc (Nat.le_refl _) _).trans (bel1.mono (by simp)))
  clear bel1
  go_wp2_with fail
  go_ret2
  exact retBL_nil BEL.out
end Go.Proofs.Ytenfleceeeimlaa.fnExactEndCosts
