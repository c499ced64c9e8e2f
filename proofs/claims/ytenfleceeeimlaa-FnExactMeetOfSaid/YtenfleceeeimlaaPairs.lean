/-
  The sums of all pairs of marks, by both texts.
-/
import Derived.Test.YtenfleceeeimlaaBackImpl
namespace Go.Proofs.Ytenfleceeeimlaa.fnExactMeetOf
open Go.RowKit Go.Proofs.Fl Go.Proofs.Ytenfleceeeimlaa.Num
open Go.Proofs.Ytenfleceeeimlaa.fnExactBackOf (own_any own_some own_succ own_empty i64s_one RetClone)
set_option linter.unusedVariables false
set_option linter.unusedSimpArgs false
def pr (x y : Int) : Int := if 0 ≤ x ∧ 0 ≤ y then wrap64 (x + y) else -1
def accP (xs ys : List Int) (a k : Nat) : List Int := ((xs.take a).flatMap fun x => ys.map (pr x)) ++ (ys.take k).map (pr (ga xs a))
theorem ga_at {xs : List Int} {k : Nat} (h : k < xs.length) : xs[k] = ga xs k := (ga_get h).symm
theorem accP_zero (xs ys : List Int) : accP xs ys 0 0 = [] := by simp [accP]
theorem accP_snoc (xs ys : List Int) (a k : Nat) (h : k < ys.length) : accP xs ys a (k + 1) = accP xs ys a k ++ [pr (ga xs a) (ga ys k)] := by
  unfold accP
  rw [List.take_succ_eq_append_getElem h, List.map_append, ← List.append_assoc, ga_at h]
  rfl
theorem accP_next (xs ys : List Int) (a k : Nat) (h : a < xs.length) (hk : k = ys.length) : accP xs ys a k = accP xs ys (a + 1) 0 := by
  subst hk
  unfold accP
  rw [List.take_succ_eq_append_getElem h, List.flatMap_append, List.take_length, ga_at h]
  simp
theorem accP_le (xs ys : List Int) (k : Nat) : ∀ a, (accP xs ys a k).length ≤ a * ys.length + k := by
  intro a
  unfold accP
  rw [List.length_append, List.length_flatMap]
  have h1 : (List.map (pr (ga xs a)) (List.take k ys)).length ≤ k := by simp; omega
  have h2 : (List.map (fun x => (List.map (pr x) ys).length) (List.take a xs)).sum ≤ a * ys.length := by
    have : (List.map (fun x => (List.map (pr x) ys).length) (List.take a xs)) = List.replicate (List.take a xs).length ys.length := by
      apply List.ext_getElem?
      intro i
      by_cases hi : i < (List.take a xs).length
      · simp [hi, List.getElem?_replicate]
        simp at hi
        simp [hi]
      · have : ¬ i < min a xs.length := by simpa using hi
        simp [List.getElem?_replicate, this]
    rw [this, List.sum_replicate_nat]
    exact Nat.mul_le_mul_right _ (by simp; omega)
  omega
def pairsOf (xs ys : List Int) : List Int := xs.flatMap fun x => ys.map (pr x)
theorem accP_all (xs ys : List Int) (n : Nat) (h : xs.length = n) : accP xs ys n 0 = pairsOf xs ys := by
  unfold accP pairsOf
  rw [List.take_of_length_le (by omega)]
  simp
theorem pr_pos {x y : Int} (h1 : 0 ≤ x) (h2 : 0 ≤ y) : pr x y = wrap64 (x + y) := if_pos ⟨h1, h2⟩
theorem pr_neg1 {x y : Int} (h : x < 0) : pr x y = -1 := if_neg (by omega)
theorem pr_neg2 {x y : Int} (h : y < 0) : pr x y = -1 := if_neg (by omega)
/-- behind an append of one number to a row that the call owns -/
theorem app_one {wr w5 : World} {X : Obj} {base : Nat} {e size : Nat} {A : Option Addr} {j c : Nat} {xs : List Value} (ho : wr.ownsRow base e size (.slice A j c) j xs) (hb : base ≤ wr.heap.size) (hgrow : (wr.alloc X).grownBy w5 (Value.slice A j c).ownBlock) : Below base wr w5 := by
  have hbel : Below base wr (wr.alloc X) := (Below.refl _ _).alloc hb _
  refine hbel.trans (Kept.below (fnExactBackOf.Kept.of_grown hgrow) (by simp; omega) fun r hr g' hg' => ?_)
  simp at hr
  subst hr
  rcases ho.2 with ⟨hv, _⟩ | ⟨g, cap, cur, hv, hbb, _⟩
  · injection hv with h1; subst h1; cases hg'
  · injection hv with h1; subst h1; simp [Value.ownBlock] at hg'; omega
/-- returned a list of one's own -/
def RetL (zs : List Int) (w : World) (e : Ending) (w' : World) : Prop := ∃ A c, e = .returned (.slice A zs.length c) ∧ OwnL w' 2 1 A zs.length c zs ∧ (∀ g, rowN zs.length A = some g → w.heap.size ≤ g) ∧ Below w.heap.size w w'
set_option maxHeartbeats 3200000 in
theorem l02Pairs_calls (A : Option Addr) (n c : Nat) (B : Option Addr) (m d : Nat) (xs ys : List Int) (hx : xs.length = n) (hy : ys.length = m) (hn : n ≤ 16) (hm : m ≤ 16) (w : World) (ha : Rd w w.heap.size A (i64s xs)) (hb : Rd w w.heap.size B (i64s ys)) :
    Calls Try.prog 46 #[.slice A n c, .slice B m d] w (RetL (pairsOf xs ys) w) := by
  obtain ⟨j0, hj0, hw0, hw1, hw2⟩ := info_parts toInt64S_info
  have HX := hid hx
  have HY := hid hy
  have HA := hid ha
  have HB := hid hb
  clear hx hy ha hb
  go_enter Try.func46, Try.ntmps46
  go_wp2_with fail
  have O0 := hid (own_empty w 2 1)
  have B0 := hid ((Below.refl w.heap.size w).alloc (Nat.le_refl _) (.cells #[] 2))
  go_loopw [5, 6] (fun v i wr => ∃ (a : Nat) (A5 : Option Addr) (c5 : Nat), a ≤ n ∧ i = .int .i64 a ∧ v = .slice A5 (accP xs ys a 0).length c5 ∧ Hid (wr.ownsRow w.heap.size 2 1 (.slice A5 (accP xs ys a 0).length c5) (accP xs ys a 0).length (i64s (accP xs ys a 0))) ∧ Hid (Below w.heap.size w wr)) (fun _ i _ => n - (intOf i).toNat)
  case atStart => exact ⟨0, _, 0, Nat.zero_le _, rfl, by rw [accP_zero]; rfl, by rw [accP_zero]; exact O0, B0⟩
  case round =>
    clear O0 B0
    obtain ⟨a, A5, c5, ha, rfl, rfl, OW, hbel⟩ := hrel
    have hsz := hbel.out.size
    by_cases hla : a < n
    · have hax : a < xs.length := by have := HX.out; omega
      have HN := hid (fun k hk => accP_next xs ys a k hax hk)
      go_wp2_with fail
      go_loopw [5, 7] (fun v i wr => ∃ (k : Nat) (A5 : Option Addr) (c5 : Nat), k ≤ m ∧ i = .int .i64 k ∧ v = .slice A5 (accP xs ys a k).length c5 ∧ Hid (wr.ownsRow w.heap.size 2 1 (.slice A5 (accP xs ys a k).length c5) (accP xs ys a k).length (i64s (accP xs ys a k))) ∧ Hid (Below w.heap.size w wr)) (fun _ i _ => m - (intOf i).toNat)
      case atStart => exact ⟨0, A5, c5, Nat.zero_le _, rfl, rfl, OW, hbel⟩
      case round =>
        clear OW hbel hsz
        obtain ⟨k, A5, c5, hk, rfl, rfl, OW, hbel⟩ := hrel
        have hsz := hbel.out.size
        by_cases hlk : k < m
        · have hky : k < ys.length := by have := HY.out; omega
          have HSN := hid (accP_snoc xs ys a k hky)
          have hlen : (accP xs ys a k).length ≤ 272 := by
            have h1 := accP_le xs ys k a
            have h2 := Nat.mul_le_mul (show a ≤ 16 by omega) (show ys.length ≤ 16 by have := HY.out; omega)
            omega
          obtain ⟨b1, o1, rfl, hb1, p1⟩ := i64s_at (rd_step HA.out hbel.out) hax
          obtain ⟨b2, o2, rfl, hb2, p2⟩ := i64s_at (rd_step HB.out hbel.out) hky
          rw [ga_at hax] at p1
          rw [ga_at hky] at p2
          generalize ga xs a = x at *
          generalize ga ys k = y at *
          have hcase : (x < 0) ∨ (0 ≤ x ∧ y < 0) ∨ (0 ≤ x ∧ 0 ≤ y) := by omega
          rcases hcase with hc | ⟨hc1, hc2⟩ | ⟨hc1, hc2⟩
          · have HACC := hid (show i64s (accP xs ys a k) ++ [Value.int .i64 (-1)] = i64s (accP xs ys a (k + 1)) by rw [HSN.out, pr_neg1 hc]; unfold i64s; rw [List.map_append]; rfl)
            have HLE := hid (show (accP xs ys a (k + 1)).length = (accP xs ys a k).length + 1 by rw [HSN.out]; simp)
            go_wp2_with (at_builtin; refine wpList_append_own_at _ rfl _ _ 23 rfl w.heap.size 2 j0 (Value.int .i64 0) 1 8 Try.underlying23 hj0 hw0 hw1 hw2 rfl (by decide) (.slice A5 (accP xs ys a k).length c5) (accP xs ys a k).length (i64s (accP xs ys a k)) rfl (OW.out.alloc _) ⟨wr.heap.size, 0, none⟩ 1 1 [.int .i64 (-1)] rfl rfl (cell_one_new _ _ _) (ints_oneCell .i64 [-1]) (by unfold maxLen; omega) (by omega) (by simp; omega) ?_; intro v' w5 hown' hgrow hnil hat; have hb5 := app_one OW.out hsz hgrow; rw [HACC.out] at hown'; obtain ⟨A6, c6, rfl, hol, hrow⟩ := own_any hown'; have OW6 := hid hown'; have BW := hid hb5; clear hgrow hat hnil hown' hol hrow hb5)
            go_roundw
            case rel => exact ⟨k + 1, A6, c6, hlk, by go_num, by rw [HLE.out], by rw [HLE.out]; exact OW6, hbel.out.trans BW.out⟩
            case measure => simp [intOf]; omega
          · have HACC := hid (show i64s (accP xs ys a k) ++ [Value.int .i64 (-1)] = i64s (accP xs ys a (k + 1)) by rw [HSN.out, pr_neg2 hc2]; unfold i64s; rw [List.map_append]; rfl)
            have HLE := hid (show (accP xs ys a (k + 1)).length = (accP xs ys a k).length + 1 by rw [HSN.out]; simp)
            go_wp2_with (at_builtin; refine wpList_append_own_at _ rfl _ _ 23 rfl w.heap.size 2 j0 (Value.int .i64 0) 1 8 Try.underlying23 hj0 hw0 hw1 hw2 rfl (by decide) (.slice A5 (accP xs ys a k).length c5) (accP xs ys a k).length (i64s (accP xs ys a k)) rfl (OW.out.alloc _) ⟨wr.heap.size, 0, none⟩ 1 1 [.int .i64 (-1)] rfl rfl (cell_one_new _ _ _) (ints_oneCell .i64 [-1]) (by unfold maxLen; omega) (by omega) (by simp; omega) ?_; intro v' w5 hown' hgrow hnil hat; have hb5 := app_one OW.out hsz hgrow; rw [HACC.out] at hown'; obtain ⟨A6, c6, rfl, hol, hrow⟩ := own_any hown'; have OW6 := hid hown'; have BW := hid hb5; clear hgrow hat hnil hown' hol hrow hb5)
            go_roundw
            case rel => exact ⟨k + 1, A6, c6, hlk, by go_num, by rw [HLE.out], by rw [HLE.out]; exact OW6, hbel.out.trans BW.out⟩
            case measure => simp [intOf]; omega
          · have HACC := hid (show i64s (accP xs ys a k) ++ [Value.int .i64 (wrap64 (x + y))] = i64s (accP xs ys a (k + 1)) by rw [HSN.out, pr_pos hc1 hc2]; unfold i64s; rw [List.map_append]; rfl)
            have HLE := hid (show (accP xs ys a (k + 1)).length = (accP xs ys a k).length + 1 by rw [HSN.out]; simp)
            go_wp2_with fail
            go_quiet (fail)
            go_wp2_with (at_builtin; refine wpList_append_own_at _ rfl _ _ 23 rfl w.heap.size 2 j0 (Value.int .i64 0) 1 8 Try.underlying23 hj0 hw0 hw1 hw2 rfl (by decide) (.slice A5 (accP xs ys a k).length c5) (accP xs ys a k).length (i64s (accP xs ys a k)) rfl ((show (wr.drewN nq).ownsRow _ _ _ _ _ _ from OW.out).alloc _) ⟨wr.heap.size, 0, none⟩ 1 1 [.int .i64 (wrap64 (x + y))] rfl rfl (cell_one_new _ _ _) (ints_oneCell .i64 [wrap64 (x + y)]) (by unfold maxLen; omega) (by omega) (by simp; omega) ?_; intro v' w5 hown' hgrow hnil hat; have hb5 := app_one (show (wr.drewN nq).ownsRow _ _ _ _ _ _ from OW.out) hsz hgrow; rw [HACC.out] at hown'; obtain ⟨A6, c6, rfl, hol, hrow⟩ := own_any hown'; have OW6 := hid hown'; have BW := hid hb5; clear hgrow hat hnil hown' hol hrow hb5)
            go_roundw
            case rel => exact ⟨k + 1, A6, c6, hlk, by go_num, by rw [HLE.out], by rw [HLE.out]; exact OW6, (below_drewN hbel.out nq).trans BW.out⟩
            case measure => simp [intOf]; omega
        · have he : k = ys.length := by have := HY.out; omega
          have HE := hid (HN.out k he)
          rw [HE.out] at OW
          have hlk2 : ¬ (k : Int) < (m : Int) := by omega
          have hl2 : (accP xs ys a k).length = (accP xs ys (a + 1) 0).length := by rw [HE.out]
          clear he
          go_wp2_with fail
          go_roundw
          case rel => exact ⟨a + 1, A5, c5, hla, by go_num, by rw [hl2], OW, hbel⟩
          case measure => simp [intOf]; omega
    · have he : a = n := by omega
      subst he
      have HAL := hid (accP_all xs ys a HX.out)
      rw [HAL.out] at OW
      have hlk2 : ¬ (a : Int) < (a : Int) := by omega
      obtain ⟨A7, c7, hv7, hol, hrow⟩ := own_any OW.out
      injection hv7 with h1 h2 h3
      subst h1 h3
      have OL := hid hol
      have OR := hid hrow
      clear hol hrow
      go_wp2_with fail
      go_ret
      exact ⟨A5, c5, by show Ending.returned (.slice A5 (accP xs ys a 0).length c5) = _; rw [HAL.out], OL.out, OR.out, hbel.out⟩
set_option maxHeartbeats 3200000 in
theorem pairSums_calls (A : Option Addr) (n c : Nat) (B : Option Addr) (m d : Nat) (xs ys : List Int) (hx : xs.length = n) (hy : ys.length = m) (hn : n ≤ 16) (hm : m ≤ 16) (w : World) (ha : Rd w w.heap.size A (i64s xs)) (hb : Rd w w.heap.size B (i64s ys)) :
    Calls Try.prog 50 #[.slice A n c, .slice B m d] w (RetL (pairsOf xs ys) w) := by
  obtain ⟨j0, hj0, hw0, hw1, hw2⟩ := info_parts toInt64S_info
  have HX := hid hx
  have HY := hid hy
  have HA := hid ha
  have HB := hid hb
  clear hx hy ha hb
  go_enter Try.func50, Try.ntmps50
  go_wp2_with fail
  have O0 := hid (own_empty w 2 1)
  have B0 := hid ((Below.refl w.heap.size w).alloc (Nat.le_refl _) (.cells #[] 2))
  go_loopw [5, 13] (fun v i wr => ∃ (a : Nat) (A5 : Option Addr) (c5 : Nat), a ≤ n ∧ i = .int .i64 a ∧ v = .slice A5 (accP xs ys a 0).length c5 ∧ Hid (wr.ownsRow w.heap.size 2 1 (.slice A5 (accP xs ys a 0).length c5) (accP xs ys a 0).length (i64s (accP xs ys a 0))) ∧ Hid (Below w.heap.size w wr)) (fun _ i _ => n - (intOf i).toNat)
  case atStart => exact ⟨0, _, 0, Nat.zero_le _, rfl, by rw [accP_zero]; rfl, by rw [accP_zero]; exact O0, B0⟩
  case round =>
    clear O0 B0
    obtain ⟨a, A5, c5, ha, rfl, rfl, OW, hbel⟩ := hrel
    have hsz := hbel.out.size
    by_cases hla : a < n
    · have hax : a < xs.length := by have := HX.out; omega
      have HN := hid (fun k hk => accP_next xs ys a k hax hk)
      obtain ⟨b1, o1, rfl, hb1, p1⟩ := i64s_at (rd_step HA.out hbel.out) hax
      rw [ga_at hax] at p1
      generalize hxx : ga xs a = x at *
      have HXX := hid hxx
      clear hxx
      go_wp2_with fail
      go_loopw [5, 19] (fun v i wr => ∃ (k : Nat) (A5 : Option Addr) (c5 : Nat), k ≤ m ∧ i = .int .i64 k ∧ v = .slice A5 (accP xs ys a k).length c5 ∧ Hid (wr.ownsRow w.heap.size 2 1 (.slice A5 (accP xs ys a k).length c5) (accP xs ys a k).length (i64s (accP xs ys a k))) ∧ Hid (Below w.heap.size w wr)) (fun _ i _ => m - (intOf i).toNat)
      case atStart => exact ⟨0, A5, c5, Nat.zero_le _, rfl, rfl, OW, hbel⟩
      case round =>
        clear OW hbel hsz
        obtain ⟨k, A5, c5, hk, rfl, rfl, OW, hbel⟩ := hrel
        have hsz := hbel.out.size
        by_cases hlk : k < m
        · have hky : k < ys.length := by have := HY.out; omega
          have HSN := hid (accP_snoc xs ys a k hky)
          have hlen : (accP xs ys a k).length ≤ 272 := by
            have h1 := accP_le xs ys k a
            have h2 := Nat.mul_le_mul (show a ≤ 16 by omega) (show ys.length ≤ 16 by have := HY.out; omega)
            omega
          obtain ⟨b2, o2, rfl, hb2, p2⟩ := i64s_at (rd_step HB.out hbel.out) hky
          rw [ga_at hky] at p2
          rw [HXX.out] at HSN
          generalize ga ys k = y at *
          have hcase : (x < 0) ∨ (0 ≤ x ∧ y < 0) ∨ (0 ≤ x ∧ 0 ≤ y) := by omega
          rcases hcase with hc | ⟨hc1, hc2⟩ | ⟨hc1, hc2⟩
          · have HACC := hid (show i64s (accP xs ys a k) ++ [Value.int .i64 (-1)] = i64s (accP xs ys a (k + 1)) by rw [HSN.out, pr_neg1 hc]; unfold i64s; rw [List.map_append]; rfl)
            have HLE := hid (show (accP xs ys a (k + 1)).length = (accP xs ys a k).length + 1 by rw [HSN.out]; simp)
            go_wp2_with (at_builtin; refine wpList_append_own_at _ rfl _ _ 23 rfl w.heap.size 2 j0 (Value.int .i64 0) 1 8 Try.underlying23 hj0 hw0 hw1 hw2 rfl (by decide) (.slice A5 (accP xs ys a k).length c5) (accP xs ys a k).length (i64s (accP xs ys a k)) rfl (OW.out.alloc _) ⟨wr.heap.size, 0, none⟩ 1 1 [.int .i64 (-1)] rfl rfl (cell_one_new _ _ _) (ints_oneCell .i64 [-1]) (by unfold maxLen; omega) (by omega) (by simp; omega) ?_; intro v' w5 hown' hgrow hnil hat; have hb5 := app_one OW.out hsz hgrow; rw [HACC.out] at hown'; obtain ⟨A6, c6, rfl, hol, hrow⟩ := own_any hown'; have OW6 := hid hown'; have BW := hid hb5; clear hgrow hat hnil hown' hol hrow hb5)
            go_roundw
            case rel => exact ⟨k + 1, A6, c6, hlk, by go_num, by rw [HLE.out], by rw [HLE.out]; exact OW6, hbel.out.trans BW.out⟩
            case measure => simp [intOf]; omega
          · have HACC := hid (show i64s (accP xs ys a k) ++ [Value.int .i64 (-1)] = i64s (accP xs ys a (k + 1)) by rw [HSN.out, pr_neg2 hc2]; unfold i64s; rw [List.map_append]; rfl)
            have HLE := hid (show (accP xs ys a (k + 1)).length = (accP xs ys a k).length + 1 by rw [HSN.out]; simp)
            go_wp2_with (at_builtin; refine wpList_append_own_at _ rfl _ _ 23 rfl w.heap.size 2 j0 (Value.int .i64 0) 1 8 Try.underlying23 hj0 hw0 hw1 hw2 rfl (by decide) (.slice A5 (accP xs ys a k).length c5) (accP xs ys a k).length (i64s (accP xs ys a k)) rfl (OW.out.alloc _) ⟨wr.heap.size, 0, none⟩ 1 1 [.int .i64 (-1)] rfl rfl (cell_one_new _ _ _) (ints_oneCell .i64 [-1]) (by unfold maxLen; omega) (by omega) (by simp; omega) ?_; intro v' w5 hown' hgrow hnil hat; have hb5 := app_one OW.out hsz hgrow; rw [HACC.out] at hown'; obtain ⟨A6, c6, rfl, hol, hrow⟩ := own_any hown'; have OW6 := hid hown'; have BW := hid hb5; clear hgrow hat hnil hown' hol hrow hb5)
            go_roundw
            case rel => exact ⟨k + 1, A6, c6, hlk, by go_num, by rw [HLE.out], by rw [HLE.out]; exact OW6, hbel.out.trans BW.out⟩
            case measure => simp [intOf]; omega
          · have HACC := hid (show i64s (accP xs ys a k) ++ [Value.int .i64 (wrap64 (x + y))] = i64s (accP xs ys a (k + 1)) by rw [HSN.out, pr_pos hc1 hc2]; unfold i64s; rw [List.map_append]; rfl)
            have HLE := hid (show (accP xs ys a (k + 1)).length = (accP xs ys a k).length + 1 by rw [HSN.out]; simp)
            go_wp2_with (at_builtin; refine wpList_append_own_at _ rfl _ _ 23 rfl w.heap.size 2 j0 (Value.int .i64 0) 1 8 Try.underlying23 hj0 hw0 hw1 hw2 rfl (by decide) (.slice A5 (accP xs ys a k).length c5) (accP xs ys a k).length (i64s (accP xs ys a k)) rfl (OW.out.alloc _) ⟨wr.heap.size, 0, none⟩ 1 1 [.int .i64 (wrap64 (x + y))] rfl rfl (cell_one_new _ _ _) (ints_oneCell .i64 [wrap64 (x + y)]) (by unfold maxLen; omega) (by omega) (by simp; omega) ?_; intro v' w5 hown' hgrow hnil hat; have hb5 := app_one OW.out hsz hgrow; rw [HACC.out] at hown'; obtain ⟨A6, c6, rfl, hol, hrow⟩ := own_any hown'; have OW6 := hid hown'; have BW := hid hb5; clear hgrow hat hnil hown' hol hrow hb5)
            go_roundw
            case rel => exact ⟨k + 1, A6, c6, hlk, by go_num, by rw [HLE.out], by rw [HLE.out]; exact OW6, hbel.out.trans BW.out⟩
            case measure => simp [intOf]; omega
        · have he : k = ys.length := by have := HY.out; omega
          have HE := hid (HN.out k he)
          rw [HE.out] at OW
          have hlk2 : ¬ (k : Int) < (m : Int) := by omega
          have hl2 : (accP xs ys a k).length = (accP xs ys (a + 1) 0).length := by rw [HE.out]
          clear he
          go_wp2_with fail
          go_roundw
          case rel => exact ⟨a + 1, A5, c5, hla, by go_num, by rw [hl2], OW, hbel⟩
          case measure => simp [intOf]; omega
    · have he : a = n := by omega
      subst he
      have HAL := hid (accP_all xs ys a HX.out)
      rw [HAL.out] at OW
      have hlk2 : ¬ (a : Int) < (a : Int) := by omega
      obtain ⟨A7, c7, hv7, hol, hrow⟩ := own_any OW.out
      injection hv7 with h1 h2 h3
      subst h1 h3
      have OL := hid hol
      have OR := hid hrow
      clear hol hrow
      go_wp2_with fail
      go_ret
      exact ⟨A5, c5, by show Ending.returned (.slice A5 (accP xs ys a 0).length c5) = _; rw [HAL.out], OL.out, OR.out, hbel.out⟩
end Go.Proofs.Ytenfleceeeimlaa.fnExactMeetOf
