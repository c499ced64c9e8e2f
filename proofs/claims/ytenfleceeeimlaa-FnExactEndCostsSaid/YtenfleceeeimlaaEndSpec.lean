/-
  The least costs to ends, by the reference.
-/
import Derived.Test.YtenfleceeeimlaaEndPlain
import Derived.Test.YtenfleceeeimlaaPairs
import Derived.Test.YtenfleceeeimlaaEndLaw
import Derived.StillTailTactics
namespace Go.Proofs.Ytenfleceeeimlaa.fnExactEndCosts
open Go.RowKit Go.Proofs.Fl Go.Proofs.Ytenfleceeeimlaa.Num
open Go.Proofs.Ytenfleceeeimlaa.fnExactBackOf (own_any own_some own_succ own_empty i64s_one OwnL.set2 rowN_is)
open Go.Proofs.Ytenfleceeeimlaa.fnExactMeetOf (app_one RetL ga_at)
set_option linter.unusedVariables false
set_option linter.unusedSimpArgs false
def Still (v : Value) (w : World) (e : Ending) (w' : World) : Prop := e = .returned v ∧ w' = w
theorem l00Min_calls (a b : Int) (w : World) : Calls Try.prog 56 #[.int .i64 a, .int .i64 b] w (Still (.int .i64 (min a b)) w) := by
  by_cases h : a < b
  · have e : min a b = a := by omega
    rw [e]
    clear e
    go_enter Try.func56, Try.ntmps56
    go_wp2
    go_ret
    exact ⟨rfl, rfl⟩
  · have e : min a b = b := by omega
    rw [e]
    clear e
    go_enter Try.func56, Try.ntmps56
    go_wp2
    go_ret
    exact ⟨rfl, rfl⟩
theorem l02Told_calls (a : Int) (w : World) : Calls Try.prog 42 #[.int .i64 a] w (Still (.int .i64 (if 1000000000 ≤ a then -1 else a)) w) := by
  by_cases h : 1000000000 ≤ a
  · rw [if_pos h]
    go_enter Try.func42, Try.ntmps42
    go_wp2
    go_ret
    exact ⟨rfl, rfl⟩
  · rw [if_neg h]
    go_enter Try.func42, Try.ntmps42
    go_wp2
    go_ret
    exact ⟨rfl, rfl⟩
theorem take_ga {xs : List Int} {k : Nat} (h : k < xs.length) : xs.take (k + 1) = xs.take k ++ [ga xs k] := by
  rw [List.take_succ_eq_append_getElem h, ga_get h]
theorem initE_ga (F : Int) {ys : List Int} {k : Nat} (h : k < ys.length) : ga (initE F ys) k = if ga ys k < 0 then F else ga ys k := by
  unfold initE
  exact ga_map _ _ _ h
theorem own_put {w : World} {base e size : Nat} {n u : Nat} {cur nxt : List Int} {x : Int} (h : nxt = cur.set u x) {g c : Nat} (ho : w.ownsRow base e size (.slice (some ⟨g, 0, none⟩) n c) n (i64s cur)) : (w.drew.setCell ⟨g, u, none⟩ (.int .i64 x)).ownsRow base e size (.slice (some ⟨g, 0, none⟩) n c) n (i64s nxt) := by
  have := (World.ownsRow.stored (show w.drew.ownsRow base e size (.slice (some ⟨g, 0, none⟩) n c) n (i64s cur) from ho) u (.int .i64 x)).1
  have e : i64s nxt = (i64s cur).set u (.int .i64 x) := by rw [h]; unfold i64s; rw [List.map_set]
  rw [e]
  exact this
theorem retL_of {w w' : World} {v : Value} {n : Nat} {zs : List Int} (h : w'.ownsRow w.heap.size 2 1 v n (i64s zs)) (hz : zs.length = n) (hb : Below w.heap.size w w') : RetL zs w (.returned v) w' := by
  subst hz
  obtain ⟨A, c, rfl, ho, hr⟩ := own_any h
  exact ⟨A, c, rfl, ho, hr, hb⟩
set_option maxHeartbeats 3200000 in
theorem l02ToEnd_calls (b : Nat) (S L : Int) (A : Option Addr) (n c : Nat) (B : Option Addr) (m d : Nat) (C : Option Addr) (q f : Nat) (zs xs ys : List Int) (hF : Fits n m q zs xs ys) (hv : validM S L n zs m xs q ys = true) (w : World) (hp : MachAt w b S L A n c B m d C q f) (hb : b < w.heap.size) (hl : Lists w A B C zs xs ys) :
    Calls Try.prog 41 #[.pointer (some ⟨b, 0, none⟩)] w (RetL (relaxR zs n q (initE 1000000000 ys)) w) := by
  obtain ⟨j0, hj0, hw0, hw1, hw2⟩ := info_parts toInt64S_info
  have HF := hid hF
  have HL := hid hl
  have HP := hid hp
  have HB := hid hb
  obtain ⟨va, vy, vn, vq, vq1, rfl⟩ := valid_ends hF.y hv
  have HA := hid va
  have HYB := hid vy
  clear hF hv hp hl va vy
  go_enter Try.func41, Try.ntmps41
  go_wp2_with fail
  have O0 := hid (own_empty w 2 1)
  have B0 := hid ((Below.refl w.heap.size w).alloc (Nat.le_refl _) (.cells #[] 2))
  go_loopw [3, 4] (fun v i wr => ∃ (k : Nat) (A5 : Option Addr) (c5 : Nat), k ≤ q ∧ i = .int .i64 k ∧ v = .slice A5 k c5 ∧ Hid (wr.ownsRow w.heap.size 2 1 (.slice A5 k c5) k (i64s ((initE 1000000000 ys).take k))) ∧ Hid (Below w.heap.size w wr)) (fun _ i _ => q - (intOf i).toNat)
  case atStart => exact ⟨0, _, 0, Nat.zero_le _, rfl, rfl, O0, B0⟩
  case round =>
    clear O0 B0
    obtain ⟨k, A5, c5, hk, rfl, rfl, OW, hbel⟩ := hrel
    have hsz := hbel.out.size
    have PA := hid (HP.out.step hbel.out HB.out)
    by_cases hlt : k < q
    · have hky : k < ys.length := by have := HF.out.y; omega
      have HSN := hid (take_ga (xs := initE 1000000000 ys) (k := k) (by rw [initE_len]; exact hky))
      have HGA := hid (initE_ga 1000000000 hky)
      obtain ⟨b4, o4, rfl, hb4, p4⟩ := i64s_at (rd_step HL.out.c hbel.out) hky
      rw [ga_at hky] at p4
      have c0 := PA.out.c0
      have c4 := PA.out.c4
      generalize ga ys k = y at *
      by_cases hy : y < 0
      · have HACC := hid (show i64s ((initE 1000000000 ys).take k) ++ [Value.int .i64 1000000000] = i64s ((initE 1000000000 ys).take (k + 1)) by rw [HSN.out, HGA.out, if_pos hy]; unfold i64s; rw [List.map_append]; rfl)
        go_wp2_with (at_builtin; refine wpList_append_own_at _ rfl _ _ 23 rfl w.heap.size 2 j0 (Value.int .i64 0) 1 8 Try.underlying23 hj0 hw0 hw1 hw2 rfl (by decide) (.slice A5 k c5) k (i64s ((initE 1000000000 ys).take k)) rfl (OW.out.alloc _) ⟨wr.heap.size, 0, none⟩ 1 1 [.int .i64 1000000000] rfl rfl (cell_one_new _ _ _) (ints_oneCell .i64 [1000000000]) (by unfold maxLen; omega) (by omega) (by simp; omega) ?_; intro v' w5 hown' hgrow hnil hat; have hb5 := app_one OW.out hsz hgrow; rw [HACC.out] at hown'; obtain ⟨A6, c6, rfl, hol, hrow⟩ := own_any hown'; have OW6 := hid hown'; have BW := hid hb5; clear hgrow hat hnil hown' hol hrow hb5)
        go_roundw
        case rel => exact ⟨k + 1, A6, c6, hlt, by go_num, rfl, OW6, hbel.out.trans BW.out⟩
        case measure => simp [intOf]; omega
      · have HACC := hid (show i64s ((initE 1000000000 ys).take k) ++ [Value.int .i64 y] = i64s ((initE 1000000000 ys).take (k + 1)) by rw [HSN.out, HGA.out, if_neg hy]; unfold i64s; rw [List.map_append]; rfl)
        go_wp2_with (at_builtin; refine wpList_append_own_at _ rfl _ _ 23 rfl w.heap.size 2 j0 (Value.int .i64 0) 1 8 Try.underlying23 hj0 hw0 hw1 hw2 rfl (by decide) (.slice A5 k c5) k (i64s ((initE 1000000000 ys).take k)) rfl (OW.out.alloc _) ⟨wr.heap.size, 0, none⟩ 1 1 [.int .i64 y] rfl rfl (cell_one_new _ _ _) (ints_oneCell .i64 [y]) (by unfold maxLen; omega) (by omega) (by simp; omega) ?_; intro v' w5 hown' hgrow hnil hat; have hb5 := app_one OW.out hsz hgrow; rw [HACC.out] at hown'; obtain ⟨A6, c6, rfl, hol, hrow⟩ := own_any hown'; have OW6 := hid hown'; have BW := hid hb5; clear hgrow hat hnil hown' hol hrow hb5)
        go_roundw
        case rel => exact ⟨k + 1, A6, c6, hlt, by go_num, rfl, OW6, hbel.out.trans BW.out⟩
        case measure => simp [intOf]; omega
    · have he : k = q := by omega
      subst he
      have HT := hid (show (initE 1000000000 ys).take k = initE 1000000000 ys from List.take_of_length_le (by rw [initE_len]; have := HF.out.y; omega))
      rw [HT.out] at OW
      obtain ⟨g, cap, hg⟩ := own_some OW.out (by omega)
      cases hg
      have OW0 := hid (show wr.ownsRow w.heap.size 2 1 (.slice (some ⟨g, 0, none⟩) k c5) k (i64s (relaxR zs n 0 (initE 1000000000 ys))) from OW.out)
      have c0 := PA.out.c0
      clear OW HT PA
      have hlk : ¬ (k : Int) < (k : Int) := by omega
      go_wp2_with fail
      go_loopw [5] (fun i w2 => ∃ a : Nat, a ≤ k ∧ i = .int .i64 a ∧ Hid (w2.ownsRow w.heap.size 2 1 (.slice (some ⟨g, 0, none⟩) k c5) k (i64s (relaxR zs n a (initE 1000000000 ys)))) ∧ Hid (Below w.heap.size w w2)) (fun i _ => k - (intOf i).toNat)
      case atStart => exact ⟨0, Nat.zero_le _, rfl, OW0, hbel⟩
      case round =>
        clear OW0 hbel hsz
        obtain ⟨a, ha, rfl, OW, hbel⟩ := hrel
        have PA := hid (HP.out.step hbel.out HB.out)
        have c0 := PA.out.c0
        by_cases hla : a < k
        · have OW1 := hid (show wr.ownsRow w.heap.size 2 1 (.slice (some ⟨g, 0, none⟩) k c5) k (i64s (relaxA zs 0 (relaxR zs n a (initE 1000000000 ys)))) from OW.out)
          have hlr : (relaxR zs n a (initE 1000000000 ys)).length = k := by rw [relaxR_len, initE_len]; exact HF.out.y
          have HIN := hid (InF.relaxR (F := 1000000000) (zs := zs) (n := n) (xs := initE 1000000000 ys) (by rw [initE_len, HF.out.y]; exact HA.out) (InF.init (by omega) (by rw [HF.out.y]; exact HYB.out)) a)
          have HLR := hid hlr
          clear hlr OW PA
          have HRR := hid (show relaxR zs n (a + 1) (initE 1000000000 ys) = relaxA zs n (relaxR zs n a (initE 1000000000 ys)) from rfl)
          generalize relaxR zs n a (initE 1000000000 ys) = rs at *
          go_wp2_with fail
          go_loopw [6] (fun i w2 => ∃ j : Nat, j ≤ n ∧ i = .int .i64 j ∧ Hid (w2.ownsRow w.heap.size 2 1 (.slice (some ⟨g, 0, none⟩) k c5) k (i64s (relaxA zs j rs))) ∧ Hid (Below w.heap.size w w2)) (fun i _ => n - (intOf i).toNat)
          case atStart => exact ⟨0, Nat.zero_le _, rfl, OW1, hbel⟩
          case round =>
            clear OW1 hbel c0
            obtain ⟨j, hj, rfl, OW, hbel⟩ := hrel
            have PA := hid (HP.out.step hbel.out HB.out)
            have c2 := PA.out.c2
            by_cases hlj : j < n
            · obtain ⟨b1, o1, rfl, hb1, p0, p1, p2, p3⟩ := arcs_at (rd_step HL.out.a hbel.out) HF.out.z hlj
              obtain ⟨y0, y1, y2, y3, y4, y5⟩ := HA.out j hlj
              have HRX := hid (show relaxA zs (j + 1) rs = relax1 zs j (relaxA zs j rs) from rfl)
              have hlc : (relaxA zs j rs).length = k := by rw [relaxA_len]; exact HLR.out
              have hin := InF.relaxA (n := n) (by rw [HLR.out]; exact HA.out) HIN.out j hj
              have hu := hin (fromA zs j) (by rw [hlc]; unfold fromA; omega)
              have hv := hin (toA zs j) (by rw [hlc]; unfold toA; omega)
              have cell : ∀ r, r < k → wr.cell? ⟨g, r, none⟩ = some (.int .i64 (ga (relaxA zs j rs) r)) := fun r hr => by
                rw [World.ownsRow.cellAt OW.out _ (by omega)]
                unfold i64s ga
                rw [List.getElem?_map, List.getD_eq_getElem?_getD, List.getElem?_eq_getElem (by rw [hlc]; exact hr)]
                rfl
              obtain ⟨u, hue⟩ := Int.eq_ofNat_of_zero_le y0
              obtain ⟨v, hve⟩ := Int.eq_ofNat_of_zero_le y2
              have euf : fromA zs j = u := by unfold fromA; omega
              have evf : toA zs j = v := by unfold toA; omega
              rw [euf] at hu
              rw [evf] at hv
              have huk : u < k := by omega
              have hvk : v < k := by omega
              have pu := cell u huk
              have pv := cell v hvk
              have fu := World.ownsRow.frozenAt OW.out u
              have HRY := hid (show relaxA zs (j + 1) rs = (relaxA zs j rs).set u (min (ga (relaxA zs j rs) u) (ga zs (j * 4 + 3) + ga (relaxA zs j rs) v)) by rw [HRX.out]; unfold fnExactEndCosts.relax1; rw [euf, evf])
              clear HRX cell hin euf evf
              have hgl := own_lt OW.out
              have HG := hid (own_base OW.out)
              rw [hue] at p0
              rw [hve] at p1
              generalize ga (relaxA zs j rs) u = cu at *
              generalize ga (relaxA zs j rs) v = cv at *
              generalize relaxA zs j rs = cur at *
              generalize ga zs (j * 4 + 2) = x2 at *
              generalize ga zs (j * 4 + 3) = x3 at *
              clear hue hve y0 y1 y2 y3
              have neg : ¬ g = wr.heap.size := by omega
              have hold := (old_cell ((Below.refl wr.heap.size wr).alloc (Nat.le_refl _) (.cells #[.int .i64 (u : Int), .int .i64 (v : Int), .int .i64 x2, .int .i64 x3] 50)))
              have e0 : (wr.alloc (.cells #[.int .i64 (u : Int), .int .i64 (v : Int), .int .i64 x2, .int .i64 x3] 50)).cell? ⟨wr.heap.size, 0, none⟩ = some (.int .i64 (u : Int)) := by go_simp
              have e1 : (wr.alloc (.cells #[.int .i64 (u : Int), .int .i64 (v : Int), .int .i64 x2, .int .i64 x3] 50)).cell? ⟨wr.heap.size, 1, none⟩ = some (.int .i64 (v : Int)) := by go_simp
              have e3 : (wr.alloc (.cells #[.int .i64 (u : Int), .int .i64 (v : Int), .int .i64 x2, .int .i64 x3] 50)).cell? ⟨wr.heap.size, 3, none⟩ = some (.int .i64 x3) := by go_simp
              have du := (hold.1 g u hgl).trans pu
              have dv := (hold.1 g v hgl).trans pv
              have hf := (hold.2 g u hgl).trans fu
              have O2 := hid (OW.out.alloc (.cells #[.int .i64 (u : Int), .int .i64 (v : Int), .int .i64 x2, .int .i64 x3] 50))
              have B2 := hid (hbel.out.alloc hbel.out.size (.cells #[.int .i64 (u : Int), .int .i64 (v : Int), .int .i64 x2, .int .i64 x3] 50))
              have hbs := hbel.out.size
              clear hold OW hbel pu pv fu PA
              go_wp2_with fail
              generalize wr.alloc (.cells #[.int .i64 (u : Int), .int .i64 (v : Int), .int .i64 x2, .int .i64 x3] 50) = v1 at *
              generalize wr.heap.size = bb at *
              have du' := show v1.drew.cell? _ = _ from du
              have dv' := show v1.drew.cell? _ = _ from dv
              have e0' := show v1.drew.cell? _ = _ from e0
              have e1' := show v1.drew.cell? _ = _ from e1
              have e3' := show v1.drew.cell? _ = _ from e3
              have hf' := show v1.drew.frozen? _ = _ from hf
              have O3 := hid (show (v1.drew.setCell ⟨g, u, none⟩ (.int .i64 (min cu (x3 + cv)))).ownsRow w.heap.size 2 1 (.slice (some ⟨g, 0, none⟩) k c5) k (i64s (relaxA zs (j + 1) rs)) from own_put HRY.out O2.out)
              have B3 := hid (show Below w.heap.size w (v1.drew.setCell ⟨g, u, none⟩ (.int .i64 (min cu (x3 + cv)))) from B2.out.drew.setCell (p := ⟨g, u, none⟩) HG.out _)
              clear O2 B2 du dv e0 e1 e3 hf HRY
              refine wp_region_still_tail 18 (by kernel_rfl) (by kernel_rfl) ?_
              change wpStill _ _ v1.drew (fun a' => wpList _ _ _ _ a' v1.drew) _ _
              generalize v1.drew = v2 at *
              simp only [List.take_succ_cons, List.take_zero, List.drop_succ_cons, List.drop_zero]
              have W : IntKind.i64.wrap (x3 + cv) = x3 + cv := by rw [IntKind.wrap_i64]; omega
              repeat still_step
              still_call (l00Min_calls _ _ _)
              repeat still_step
              refine wpStill_nil ?_
              go_wp2_with fail
              go_roundw
              case rel => exact ⟨j + 1, hlj, by go_num, O3, B3⟩
              case measure => simp [intOf]; omega
            · obtain rfl : j = n := by omega
              go_wp2_with fail
              go_roundw
              case rel => exact ⟨a + 1, hla, by go_num, by rw [HRR.out]; exact OW, hbel⟩
              case measure => simp [intOf]; omega
        · obtain rfl : a = k := by omega
          have HFI := hid OW.out
          go_wp2_with fail
          go_ret
          exact retL_of HFI.out (by rw [relaxR_len, initE_len]; exact HF.out.y) hbel.out
theorem retBL_of {w w' : World} {v : Value} {n base : Nat} {zs : List Int} (h : w'.ownsRow base 2 1 v n (i64s zs)) (hz : zs.length = n) (hbase : w.heap.size ≤ base) (hb : Below w.heap.size w w') (ok : Bool) : ∃ A c, v = .slice A n c ∧ RetBL n zs ok w (.returned (.tuple #[.slice A n c, .bool ok])) w' := by
  obtain ⟨A, c, rfl, ho, hr⟩ := own_any h
  refine ⟨A, c, rfl, A, c, rfl, ho, fun r hm g hg => ?_, hb⟩
  simp at hm
  subst hm
  exact ⟨Nat.le_trans hbase (hr g hg), ho.row_lt hg⟩
theorem toldE_ga (F : Int) {xs : List Int} {k : Nat} (h : k < xs.length) : ga (toldE F xs) k = if F ≤ ga xs k then -1 else ga xs k := by
  unfold toldE
  exact ga_map _ _ _ h
theorem ownL_grown {w w5 : World} {X : Obj} {e size g2 g5 k c5 : Nat} {n c : Nat} {zs : List Int} (h : OwnL w e size (some ⟨g2, 0, none⟩) n c zs) (hg : (w.alloc X).grownBy w5 (Value.slice (some ⟨g5, 0, none⟩) k c5).ownBlock) (hr : g5 ≠ g2) : OwnL w5 e size (some ⟨g2, 0, none⟩) n c zs :=
  (h.step ((Below.refl w.heap.size w).alloc (Nat.le_refl _) X)).apart (fnExactBackOf.Kept.of_grown hg) fun x hx r' hr' e => by
    simp at hr'
    subst hr'
    have h1 := rowN_is hx
    simp [Value.ownBlock] at e
    omega
theorem own_ne {w : World} {X : Obj} {g5 k c5 g6 k6 c6 g2 : Nat} (hat : (Value.slice (some ⟨g6, 0, none⟩) k6 c6).ownBlock = (Value.slice (some ⟨g5, 0, none⟩) k c5).ownBlock ∨ (Value.slice (some ⟨g6, 0, none⟩) k6 c6).ownBlock = some (w.alloc X).heap.size) (hne : g5 ≠ g2) (hl : g2 < w.heap.size) : g6 ≠ g2 := by
  rcases hat with h | h
  · simp [Value.ownBlock] at h; omega
  · simp [Value.ownBlock] at h; omega
set_option maxHeartbeats 3200000 in
theorem spec_yes (S L : Int) (A : Option Addr) (n c : Nat) (B : Option Addr) (m d : Nat) (C : Option Addr) (q f : Nat) (zs xs ys : List Int) (hF : Fits n m q zs xs ys) (hv : validM S L n zs m xs q ys = true) (w : World) (hl : Lists w A B C zs xs ys) :
    Calls Try.prog 19 #[.agg #[.int .i64 S, .int .i64 L, .slice A n c, .slice B m d, .slice C q f]] w (RetBL q (endsOf 1000000000 zs n ys) true w) := by
  obtain ⟨j0, hj0, hw0, hw1, hw2⟩ := info_parts toInt64S_info
  have HL := hid hl
  have HF := hid hF
  have HV := hid (hv ▸ fun b w hp hb hl => l02Is_calls b S L A n c B m d C q f zs xs ys hF w hp hb hl)
  have HE := hid fun b w hp hb hl => l02ToEnd_calls b S L A n c B m d C q f zs xs ys hF hv w hp hb hl
  have hvm := valid_ends hF.y hv
  have hvq := hvm.2.2.2.1
  have hvq1 := hvm.2.2.2.2.1
  have hlen := hid (show (relaxR zs n q (initE 1000000000 ys)).length = q by rw [relaxR_len, initE_len]; exact hF.y)
  have HEN := hid (show endsOf 1000000000 zs n ys = toldE 1000000000 (relaxR zs n q (initE 1000000000 ys)) by unfold endsOf; rw [hF.y])
  clear hl hF hv hvm
  go_enter Try.func19, Try.ntmps19
  go_wp2_with fail
  refine (HV.out w.heap.size _ ⟨by go_simp, by go_simp, by go_simp, by go_simp, by go_simp⟩ (by simp) (HL.out.alloc _)).mono ?_
  rintro e w1 ⟨rfl, bel1⟩
  have hc := (old_cell bel1).1
  have s1 : w.heap.size + 1 ≤ w1.heap.size := by have := bel1.size; simp at this; omega
  have BEL := hid (((Below.refl w.heap.size w).alloc (Nat.le_refl _) _).trans (bel1.mono (by simp)))
  have PA := hid (show MachAt w1 w.heap.size S L A n c B m d C q f from ⟨by rw [hc _ _ (by simp)]; go_simp, by rw [hc _ _ (by simp)]; go_simp, by rw [hc _ _ (by simp)]; go_simp, by rw [hc _ _ (by simp)]; go_simp, by rw [hc _ _ (by simp)]; go_simp⟩)
  clear hc bel1
  go_wp2_with fail
  have B1 := hid ((Below.refl w1.heap.size w1).alloc (Nat.le_refl _) (.cells #[] 2))
  have s2 : (w1.alloc (.cells #[] 2)).heap.size = w1.heap.size + 1 := by simp
  have O1 := hid (own_empty w1 2 1)
  refine (HE.out w.heap.size _ (PA.out.step ((Below.refl w1.heap.size w1).alloc (Nat.le_refl _) _) (by omega)) (by omega) ((HL.out.step BEL.out).alloc _)).mono ?_
  rintro e w2 ⟨A2, c2, rfl, hol, hrow, bel2⟩
  have O2 := hid (show w2.ownsRow w1.heap.size 2 1 (.slice (some ⟨w1.heap.size, 0, none⟩) 0 0) 0 (i64s ((toldE 1000000000 (relaxR zs n q (initE 1000000000 ys))).take 0)) from own_keep (O1.out) (bel2.block _ (by omega)))
  have s3 := bel2.size
  have B2 := hid (B1.out.trans (bel2.mono (by omega)))
  rw [hlen.out] at hol hrow
  have OE := hid hol
  have HLE := hid (show toldE 1000000000 (relaxR zs n q (initE 1000000000 ys)) = endsOf 1000000000 zs n ys from HEN.out.symm)
  have HRO := hid hrow
  clear O1 B1 hol hrow bel2 HEN
  rw [hlen.out]
  generalize relaxR zs n q (initE 1000000000 ys) = es at *
  obtain ⟨g2, rfl⟩ : ∃ g2, A2 = some ⟨g2, 0, none⟩ := by
    rcases OE.out.2 with h0 | ⟨g2, h0, _⟩
    · omega
    · exact ⟨g2, h0⟩
  have hg2 := HRO.out g2 (rowN_some (by omega))
  have hg2l := OE.out.row_lt (rowN_some (by omega))
  have s4 : w1.heap.size ≤ w2.heap.size := by omega
  have hg2 : w1.heap.size < g2 := by omega
  have HQ := hid (show q ≠ 0 by omega)
  clear PA s3 HRO s2
  go_wp2_with fail
  go_loopw [4, 6] (fun v i wr => ∃ k g5 c5 : Nat, k ≤ q ∧ i = .int .i64 k ∧ v = .slice (some ⟨g5, 0, none⟩) k c5 ∧ g5 ≠ g2 ∧ w1.heap.size ≤ wr.heap.size ∧ Hid (wr.ownsRow w1.heap.size 2 1 (.slice (some ⟨g5, 0, none⟩) k c5) k (i64s ((toldE 1000000000 es).take k))) ∧ Hid (OwnL wr 2 1 (some ⟨g2, 0, none⟩) q c2 es) ∧ Hid (Below w1.heap.size w1 wr)) (fun _ i _ => q - (intOf i).toNat)
  case atStart => exact ⟨0, w1.heap.size, 0, Nat.zero_le _, rfl, rfl, by omega, s4, O2, OE, B2⟩
  case round =>
    clear O2 OE B2
    obtain ⟨k, g5, c5, hk, rfl, rfl, hne, hsz, OW, OE, hbel⟩ := hrel
    by_cases hlt : k < q
    · have hke : k < es.length := by rw [hlen.out]; exact hlt
      have HSN := hid (take_ga (xs := toldE 1000000000 es) (k := k) (by unfold toldE; rw [List.length_map]; exact hke))
      have HGA := hid (toldE_ga 1000000000 hke)
      obtain ⟨b4, o4, hb4e, hb4, p4⟩ := i64s_at OE.out.rd hke
      cases hb4e
      rw [ga_at hke, Nat.zero_add] at p4
      have hg2w := OE.out.row_lt (rowN_some HQ.out)
      have hs1 := hbel.out.size
      have HTC := hid (fun w => l02Told_calls (ga es k) w)
      rw [← HGA.out] at HTC
      have HACC := hid (show i64s ((toldE 1000000000 es).take k) ++ [Value.int .i64 (ga (toldE 1000000000 es) k)] = i64s ((toldE 1000000000 es).take (k + 1)) by rw [HSN.out]; unfold i64s; rw [List.map_append]; rfl)
      generalize ga (toldE 1000000000 es) k = t at *
      generalize ga es k = y at *
      clear HSN HGA
      go_wp2_with fail
      refine (HTC.out _).mono ?_
      rintro e w3 ⟨rfl, rfl⟩
      go_wp2_with (at_builtin; refine wpList_append_own_at _ rfl _ _ 23 rfl w1.heap.size 2 j0 (Value.int .i64 0) 1 8 Try.underlying23 hj0 hw0 hw1 hw2 rfl (by decide) (.slice (some ⟨g5, 0, none⟩) k c5) k (i64s ((toldE 1000000000 es).take k)) rfl (OW.out.alloc _) ⟨w3.heap.size, 0, none⟩ 1 1 [.int .i64 t] rfl rfl (cell_one_new _ _ _) (ints_oneCell .i64 [t]) (by unfold maxLen; omega) (by omega) (by simp; omega) ?_; intro v' w5 hown' hgrow hnil hat; have hb5 := app_one OW.out hs1 hgrow; have oe5 := hid (ownL_grown OE.out hgrow hne); rw [HACC.out] at hown'; obtain ⟨g6, c6, rfl⟩ := own_succ hown'; have hne6 := own_ne hat hne hg2w; have OW6 := hid hown'; have BW := hid hb5; clear hgrow hat hnil hown' hb5)
      go_roundw
      case rel => exact ⟨k + 1, g6, c6, hlt, by go_num, rfl, hne6, by have := BW.out.size; omega, OW6, oe5, hbel.out.trans BW.out⟩
      case measure => simp [intOf]; omega
    · have he : k = q := by omega
      subst he
      have HT := hid (show (toldE 1000000000 es).take k = toldE 1000000000 es from List.take_of_length_le (by unfold toldE; rw [List.length_map, hlen.out]; omega))
      rw [HT.out, HLE.out] at OW
      have hlx : (endsOf 1000000000 zs n ys).length = k := by rw [← HLE.out]; unfold toldE; rw [List.length_map]; exact hlen.out
      obtain ⟨A9, c9, hv9, hR⟩ := retBL_of (w := w) OW.out hlx (by omega) (BEL.out.trans (hbel.out.mono (by omega))) true
      cases hv9
      have HR := hid hR
      clear hR hlx
      go_wp2_with fail
      go_ret2
      exact HR.out
theorem retBL_nil {w w' : World} (hb : Below w.heap.size w w') : RetBL 0 [] false w (.returned (.tuple #[.slice none 0 0, .bool false])) w' :=
  ⟨none, 0, rfl, ⟨rfl, .inl rfl⟩, (fun r hr g hg => by rw [List.mem_singleton.1 hr] at hg; cases hg), hb⟩
set_option maxHeartbeats 1600000 in
theorem spec_no (S L : Int) (A : Option Addr) (n c : Nat) (B : Option Addr) (m d : Nat) (C : Option Addr) (q f : Nat) (zs xs ys : List Int) (hF : Fits n m q zs xs ys) (hv : validM S L n zs m xs q ys = false) (w : World) (hl : Lists w A B C zs xs ys) :
    Calls Try.prog 19 #[.agg #[.int .i64 S, .int .i64 L, .slice A n c, .slice B m d, .slice C q f]] w (RetBL 0 [] false w) := by
  have HL := hid hl
  have HV := hid (hv ▸ fun b w hp hb hl => l02Is_calls b S L A n c B m d C q f zs xs ys hF w hp hb hl)
  clear hl hF hv
  go_enter Try.func19, Try.ntmps19
  go_wp2_with fail
  refine (HV.out w.heap.size _ ⟨by go_simp, by go_simp, by go_simp, by go_simp, by go_simp⟩ (by simp) (HL.out.alloc _)).mono ?_
  rintro e w1 ⟨rfl, bel1⟩
  have BEL := hid (((Below.refl w.heap.size w).alloc (Nat.le_refl _) _).trans (bel1.mono (by simp)))
  clear bel1
  go_wp2_with fail
  go_ret2
  exact retBL_nil BEL.out
end Go.Proofs.Ytenfleceeeimlaa.fnExactEndCosts
