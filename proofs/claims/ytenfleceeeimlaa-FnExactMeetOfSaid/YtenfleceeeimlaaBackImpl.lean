/-
  The machine turned round, by the program.
-/
import Derived.Test.YtenfleceeeimlaaBackSpec
import Derived.Laws.Cover3
import Derived.RegionTactic
import Derived.BigRegion
import Derived.Deep.RegionHeld3
namespace Go.Proofs.Ytenfleceeeimlaa.fnExactBackOf
open Go.RowKit Go.Proofs.Fl Go.Proofs.Ytenfleceeeimlaa.Num
set_option linter.unusedVariables false
set_option linter.unusedSimpArgs false
@[go_sem] theorem eqlA_nil (a : Option Addr) (l c : Nat) (w : World) : (binOp .eql 28 (.slice a l c) (.slice none 0 0)).run Try.prog w = .ok (.bool a.isNone) w := by
  simp only [binOp]
  simp [run_equal_slice_nil w _ _ a l c Try.underlying28]
@[go_sem] theorem eqlI_nil (a : Option Addr) (l c : Nat) (w : World) : (binOp .eql 23 (.slice a l c) (.slice none 0 0)).run Try.prog w = .ok (.bool a.isNone) w := by
  simp only [binOp]
  simp [run_equal_slice_nil w _ _ a l c Try.underlying23]
/-- returned a copy of a list -/
def RetClone (E size n : Nat) (zs : List Int) (w : World) (e : Ending) (w' : World) : Prop := ∃ A c, e = .returned (.slice A n c) ∧ OwnL w' E size A n c zs ∧ (∀ g, rowN n A = some g → w.heap.size ≤ g) ∧ Below w.heap.size w w'
theorem own_any {w : World} {base e size : Nat} {v : Value} {n : Nat} {zs : List Int} (h : w.ownsRow base e size v n (i64s zs)) : ∃ A c, v = .slice A n c ∧ OwnL w e size A n c zs ∧ ∀ g, rowN n A = some g → base ≤ g := by
  have hl : zs.length = n * size := by simpa using h.1
  have h2 := h
  rcases h.2 with ⟨rfl, rfl⟩ | ⟨g, cap, cur, rfl, hb, _⟩
  · exact ⟨none, 0, rfl, ⟨hl, .inl rfl⟩, fun g hg => nomatch hg⟩
  · exact ⟨_, cap, rfl, ⟨hl, .inr ⟨g, rfl, own_rebase h2⟩⟩, fun x hx => by rw [rowN_is hx]; exact hb⟩
set_option maxHeartbeats 1600000 in
theorem cloneA_calls (A : Option Addr) (n c : Nat) (xs : List Int) (hx : xs.length = n * 4) (hn : n ≤ 1048576) (w : World) (h : Rd w w.heap.size A (i64s xs)) :
    Calls Try.prog 37 #[.slice A n c] w (RetClone 50 4 n xs w) := by
  obtain ⟨i0, hi0, hz0, hz1, hz2⟩ := info_parts arcs_info
  have HX := hid hx
  cases A with
  | none =>
    have hx0 : n = 0 := by
      rcases h with h0 | ⟨b, off, hA, _⟩
      · have := congrArg List.length h0; simp at this; subst this; simp at hx; omega
      · cases hA
    have HO := hid (show OwnL w 50 4 none n 0 xs from ⟨by exact hx, .inl hx0⟩)
    clear h hx
    subst hx0
    go_enter Try.func37, Try.ntmps37
    go_wp2
    go_ret
    exact ⟨none, 0, rfl, HO.out, (fun g hg => nomatch hg), Below.refl _ _⟩
  | some ad =>
    have hnews : ∀ w', Below w.heap.size w w' → ∀ (j : Nat) (u : Value), (i64s xs)[j]? = some u → w'.cell? (ad.add j) = some u := by
      intro w' hw j u hu
      rcases h with h0 | ⟨b, off, hA, hb, hc⟩
      · rw [h0] at hu; cases hu
      · cases hA
        rw [Addr.add_lit, ← hc j u hu]
        exact hw.cell (p := ⟨b, off + j, none⟩) hb
    have NW := hid hnews
    clear hnews h hx
    go_enter Try.func37, Try.ntmps37
    go_wp2_with (at_builtin; refine wpList_append_own_at _ rfl _ _ 28 rfl w.heap.size 50 i0 (Value.agg #[.int .i64 0, .int .i64 0, .int .i64 0, .int .i64 0]) 4 32 Try.underlying28 hi0 hz0 hz1 hz2 rfl (by decide) (.slice (some ⟨w.heap.size, 0, none⟩) 0 0) 0 [] rfl (own_empty _ _ _) ad n _ (i64s xs) rfl (by simp [HX.out]) (NW.out _ ((Below.refl _ _).alloc (Nat.le_refl _) _)) (i64s_one _) (by unfold maxLen; omega) (by omega) (by simp) ?_; intro v' w5 hown' hgrow hnil hat; rw [Nat.zero_add] at hown'; obtain ⟨A', c', rfl, hol, hrow⟩ := own_any hown'; have OL := hid hol; have OR := hid hrow; have BW := hid (show Below w.heap.size w w5 from ((Below.refl w.heap.size w).alloc (Nat.le_refl _) _).trans ((Kept.of_grown hgrow).below (by simp) fun r hr g' hg' => by simp [Value.ownBlock] at hr; subst hr; simp at hg'; omega)); clear hgrow hat hnil hown' hol hrow)
    go_ret
    exact ⟨A', c', rfl, OL.out, OR.out, BW.out⟩
set_option maxHeartbeats 1600000 in
theorem cloneI_calls (A : Option Addr) (n c : Nat) (xs : List Int) (hx : xs.length = n) (hn : n ≤ 1048576) (w : World) (h : Rd w w.heap.size A (i64s xs)) :
    Calls Try.prog 38 #[.slice A n c] w (RetClone 2 1 n xs w) := by
  obtain ⟨i0, hi0, hz0, hz1, hz2⟩ := info_parts toInt64S_info
  have HX := hid hx
  cases A with
  | none =>
    have hx0 : n = 0 := by
      rcases h with h0 | ⟨b, off, hA, _⟩
      · have := congrArg List.length h0; simp at this; subst this; simp at hx; omega
      · cases hA
    have HO := hid (show OwnL w 2 1 none n 0 xs from ⟨by omega, .inl hx0⟩)
    clear h hx
    subst hx0
    go_enter Try.func38, Try.ntmps38
    go_wp2
    go_ret
    exact ⟨none, 0, rfl, HO.out, (fun g hg => nomatch hg), Below.refl _ _⟩
  | some ad =>
    have hnews : ∀ w', Below w.heap.size w w' → ∀ (j : Nat) (u : Value), (i64s xs)[j]? = some u → w'.cell? (ad.add j) = some u := by
      intro w' hw j u hu
      rcases h with h0 | ⟨b, off, hA, hb, hc⟩
      · rw [h0] at hu; cases hu
      · cases hA
        rw [Addr.add_lit, ← hc j u hu]
        exact hw.cell (p := ⟨b, off + j, none⟩) hb
    have NW := hid hnews
    clear hnews h hx
    go_enter Try.func38, Try.ntmps38
    go_wp2_with (at_builtin; refine wpList_append_own_at _ rfl _ _ 23 rfl w.heap.size 2 i0 (Value.int .i64 0) 1 8 Try.underlying23 hi0 hz0 hz1 hz2 rfl (by decide) (.slice (some ⟨w.heap.size, 0, none⟩) 0 0) 0 [] rfl (own_empty _ _ _) ad n _ (i64s xs) rfl (by simp [HX.out]) (NW.out _ ((Below.refl _ _).alloc (Nat.le_refl _) _)) (i64s_one _) (by unfold maxLen; omega) (by omega) (by simp) ?_; intro v' w5 hown' hgrow hnil hat; rw [Nat.zero_add] at hown'; obtain ⟨A', c', rfl, hol, hrow⟩ := own_any hown'; have OL := hid hol; have OR := hid hrow; have BW := hid (show Below w.heap.size w w5 from ((Below.refl w.heap.size w).alloc (Nat.le_refl _) _).trans ((Kept.of_grown hgrow).below (by simp) fun r hr g' hg' => by simp [Value.ownBlock] at hr; subst hr; simp at hg'; omega)); clear hgrow hat hnil hown' hol hrow)
    go_ret
    exact ⟨A', c', rfl, OL.out, OR.out, BW.out⟩
/-- turned round up to a place -/
def mixB (zs : List Int) (n k : Nat) : List Int := (List.range (n * 4)).map fun j => if j < k * 4 then ga zs (swapA j) else ga zs j
theorem mixB_len (zs : List Int) (n k : Nat) : (mixB zs n k).length = n * 4 := by simp [mixB]
theorem mixB_zero (zs : List Int) (n : Nat) (hz : zs.length = n * 4) : mixB zs n 0 = zs := by
  apply List.ext_getElem?
  intro j
  by_cases hj : j < n * 4
  · have : j < zs.length := by omega
    simp [mixB, ga, hj, this]
  · simp [mixB, hj, hz]
theorem mixB_all (zs : List Int) (n : Nat) : mixB zs n n = backA zs n := by
  apply List.ext_getElem?
  intro j
  by_cases hj : j < n * 4
  · simp [mixB, backA, hj]
  · simp [mixB, backA, hj]
theorem mixB_set (zs : List Int) (n k : Nat) (hk : k < n) : ((mixB zs n k).set (k * 4) (ga zs (k * 4 + 1))).set (k * 4 + 1) (ga zs (k * 4)) = mixB zs n (k + 1) := by
  have s0 : swapA (k * 4) = k * 4 + 1 := by unfold swapA; rw [if_pos (by omega)]
  have s1 : swapA (k * 4 + 1) = k * 4 := by unfold swapA; rw [if_neg (by omega), if_pos (by omega)]; omega
  apply List.ext_getElem?
  intro j
  simp only [List.getElem?_set, mixB, List.getElem?_map, List.length_set, List.length_map, List.length_range]
  by_cases hj : j < n * 4
  · rw [List.getElem?_range hj]
    by_cases h1 : k * 4 + 1 = j
    · subst h1; simp [hj, show k * 4 + 1 < (k + 1) * 4 by omega, s1]
    · by_cases h0 : k * 4 = j
      · subst h0; simp [hj, show k * 4 < (k + 1) * 4 by omega, s0]
      · by_cases hl : j < k * 4
        · simp [h0, h1, hl, show j < (k + 1) * 4 by omega]
        · by_cases h2 : j < (k + 1) * 4
          · have s2 : swapA j = j := by unfold swapA; rw [if_neg (by omega), if_neg (by omega)]
            simp [h0, h1, hl, h2, s2]
          · simp [h0, h1, hl, h2]
  · have h0 : ¬ k * 4 = j := by omega
    have h1 : ¬ k * 4 + 1 = j := by omega
    simp [h0, h1, hj]
theorem mixB_ga (zs : List Int) (n k j : Nat) (hj : j < n * 4) (hk : k * 4 ≤ j) : ga (mixB zs n k) j = ga zs j := by
  show (mixB zs n k).getD j 0 = ga zs j
  rw [List.getD_eq_getElem?_getD]
  simp [mixB, hj, show ¬ j < k * 4 by omega]
theorem OwnL.set2 {w : World} {g n c : Nat} {zs : List Int} {e size : Nat} (h : w.ownsRow g e size (.slice (some ⟨g, 0, none⟩) n c) n (i64s zs)) (j : Nat) (v : Int) : (w.setCell ⟨g, j, none⟩ (.int .i64 v)).ownsRow g e size (.slice (some ⟨g, 0, none⟩) n c) n (i64s (zs.set j v)) := by
  have := (World.ownsRow.stored h j (.int .i64 v)).1
  have e : i64s (zs.set j v) = (i64s zs).set j (.int .i64 v) := by unfold i64s; rw [List.map_set]
  rw [e]
  exact this
theorem OwnL.setc {w : World} {e size : Nat} {A : Option Addr} {n c : Nat} {zs : List Int} (h : OwnL w e size A n c zs) {p : Addr} (hp : ∀ g, rowN n A = some g → g ≠ p.block) (u : Value) : OwnL (w.setCell p u) e size A n c zs :=
  h.apart ((Kept.refl w [some p.block]).set (by simp) u) fun g hg r hr e => by simp at hr; subst hr; simp at e; exact hp g hg e
set_option maxHeartbeats 6400000 in
theorem impl_yes (S L : Int) (A : Option Addr) (n c : Nat) (B : Option Addr) (m d : Nat) (C : Option Addr) (q f : Nat) (zs xs ys : List Int) (hF : Fits n m q zs xs ys) (hv : validM S L n zs m xs q ys = true) (w : World) (hl : Lists w A B C zs xs ys) :
    Calls Try.prog 16 #[.agg #[.int .i64 S, .int .i64 L, .slice A n c, .slice B m d, .slice C q f]] w (RetBM S L n q m (backA zs n) ys xs true w) := by
  have HL := hid hl
  have HF := hid hF
  have HV := hid (hv ▸ fun w hl => implValid_calls S L A n c B m d C q f zs xs ys hF w hl)
  have hvm := valid_marks hv
  clear hl hF hv
  go_enter Try.func16, Try.ntmps16
  go_wp2_with fail
  refine (HV.out _ ((HL.out.alloc _).alloc _)).mono ?_
  rintro e w1 ⟨rfl, bel1⟩
  have hc := (old_cell bel1).1
  have hf := (old_cell bel1).2
  have s1 : w.heap.size + 2 ≤ w1.heap.size := by have := bel1.size; simp at this; omega
  have BEL := hid (((Below.refl w.heap.size w).alloc (Nat.le_refl _) _).alloc (by simp) _ |>.trans (bel1.mono (by simp; omega)))
  have PA := hid (show MachAt w1 w.heap.size S L A n c B m d C q f from ⟨by rw [hc _ _ (by simp; omega)]; go_simp, by rw [hc _ _ (by simp; omega)]; go_simp, by rw [hc _ _ (by simp; omega)]; go_simp, by rw [hc _ _ (by simp; omega)]; go_simp, by rw [hc _ _ (by simp; omega)]; go_simp⟩)
  have PZ := hid (show MachAt w1 (w.heap.size + 1) 0 0 none 0 0 none 0 0 none 0 0 from ⟨by rw [hc _ _ (by simp)]; go_simp, by rw [hc _ _ (by simp)]; go_simp, by rw [hc _ _ (by simp)]; go_simp, by rw [hc _ _ (by simp)]; go_simp, by rw [hc _ _ (by simp)]; go_simp⟩)
  have FZ := hid (show ∀ o, w1.frozen? ⟨w.heap.size + 1, o, none⟩ = false from fun o => by rw [hf _ _ (by simp)]; go_simp)
  clear hc hf bel1
  have HLE := hid (HL.out.step BEL.out)
  have a2 := PA.out.c2
  go_wp2_with fail
  refine (cloneA_calls A n c zs HF.out.z HF.out.n _ HLE.out.a).mono ?_
  rintro e w2 ⟨A4, c4, rfl, hol, hrow, bel2⟩
  have s2 := bel2.size
  have OL0 := hid (show OwnL w2 50 4 A4 n c4 (mixB zs n 0) by rw [mixB_zero _ _ HF.out.z]; exact hol)
  have OR := hid hrow
  have BE0 := hid bel2
  clear hol hrow bel2 a2
  go_wp2_with fail
  go_loopw [16] (fun i wr => ∃ k : Nat, k ≤ n ∧ i = .int .i64 k ∧ Hid (OwnL wr 50 4 A4 n c4 (mixB zs n k)) ∧ Hid (Below w1.heap.size w1 wr)) (fun i _ => n - (intOf i).toNat)
  case atStart => exact ⟨0, Nat.zero_le _, rfl, OL0, BE0⟩
  case round =>
    clear OL0 BE0
    obtain ⟨k, hk, rfl, OL, hbel⟩ := hrel
    by_cases hlt : k < n
    · rcases OL.out.2 with h0 | ⟨g, rfl, ho⟩
      · omega
      have hglt := own_lt ho
      have hgr := OR.out g (rowN_some (by omega))
      have HS := hid (mixB_set zs n k hlt)
      have cell : ∀ r, r < 4 → wr.cell? ⟨g, k * 4 + r, none⟩ = some (.int .i64 (ga zs (k * 4 + r))) := fun r hr => by
        rw [World.ownsRow.cellAt ho _ (by omega), ← mixB_ga zs n k _ (by omega) (by omega)]
        unfold i64s ga
        rw [List.getElem?_map, List.getD_eq_getElem?_getD, List.getElem?_eq_getElem (by rw [mixB_len]; omega)]
        rfl
      have p0 := cell 0 (by omega)
      have p1 := cell 1 (by omega)
      have p2 := cell 2 (by omega)
      have p3 := cell 3 (by omega)
      rw [Nat.add_zero] at p0
      have f0 := World.ownsRow.frozenAt ho (k * 4)
      have f1 := World.ownsRow.frozenAt ho (k * 4 + 1)
      have HO := hid ho
      clear cell ho
      generalize ga zs (k * 4) = x0 at *
      generalize ga zs (k * 4 + 1) = x1 at *
      generalize ga zs (k * 4 + 2) = x2 at *
      generalize ga zs (k * 4 + 3) = x3 at *
      have ltg : g < wr.heap.size := hglt
      have neg : ¬ g = wr.heap.size := by omega
      have hold := (old_cell ((Below.refl wr.heap.size wr).alloc (Nat.le_refl _) (.cells #[.int .i64 x0, .int .i64 x1, .int .i64 x2, .int .i64 x3] 50)))
      have e0 : (wr.alloc (.cells #[.int .i64 x0, .int .i64 x1, .int .i64 x2, .int .i64 x3] 50)).cell? ⟨wr.heap.size, 0, none⟩ = some (.int .i64 x0) := by go_simp
      have e1 : (wr.alloc (.cells #[.int .i64 x0, .int .i64 x1, .int .i64 x2, .int .i64 x3] 50)).cell? ⟨wr.heap.size, 1, none⟩ = some (.int .i64 x1) := by go_simp
      have d0 := (hold.1 g (k * 4) ltg).trans p0
      have d1 := (hold.1 g (k * 4 + 1) ltg).trans p1
      have h0 := (hold.2 g (k * 4) ltg).trans f0
      have h1 := (hold.2 g (k * 4 + 1) ltg).trans f1
      have O2 := hid (HO.out.alloc (.cells #[.int .i64 x0, .int .i64 x1, .int .i64 x2, .int .i64 x3] 50))
      have B2 := hid (hbel.out.alloc hbel.out.size (.cells #[.int .i64 x0, .int .i64 x1, .int .i64 x2, .int .i64 x3] 50))
      clear hold HO hbel
      go_wp2_with fail
      generalize wr.alloc (.cells #[.int .i64 x0, .int .i64 x1, .int .i64 x2, .int .i64 x3] 50) = v1 at *
      generalize wr.heap.size = bb at *
      have d0' := show v1.drew.cell? _ = _ from d0
      have d1' := show v1.drew.cell? _ = _ from d1
      have e0' := show v1.drew.cell? _ = _ from e0
      have e1' := show v1.drew.cell? _ = _ from e1
      have h0' := show v1.drew.frozen? _ = _ from h0
      have h1' := show v1.drew.frozen? _ = _ from h1
      have O3 := hid (show ((v1.setCell ⟨g, k * 4, none⟩ (.int .i64 x1)).setCell ⟨g, k * 4 + 1, none⟩ (.int .i64 x0)).ownsRow g 50 4 (.slice (some ⟨g, 0, none⟩) n c4) n (i64s (mixB zs n (k + 1))) from by rw [← HS.out]; exact OwnL.set2 (OwnL.set2 O2.out _ _) _ _)
      have B3 := hid ((B2.out.setCell (p := ⟨g, k * 4, none⟩) hgr (.int .i64 x1)).setCell (p := ⟨g, k * 4 + 1, none⟩) hgr (.int .i64 x0))
      go_region
      all_goals
        go_wp2_with fail
        go_roundw
        case rel => exact ⟨k + 1, hlt, by go_num, ⟨mixB_len _ _ _, .inr ⟨g, rfl, O3.out⟩⟩, B3.out.drew⟩
        case measure => simp [intOf]; omega
    · have he : k = n := by omega
      have hzr := hbel.out.size
      have HLR := hid (HLE.out.step hbel.out).drew
      have PAR := hid (PA.out.step hbel.out (by omega))
      have PZR := hid (PZ.out.step hbel.out (by omega))
      have FZR := hid (fun o => ((hbel.out.frozen (p := ⟨w.heap.size + 1, o, none⟩) (show w.heap.size + 1 < w1.heap.size by omega)).trans (FZ.out o)))
      have OA := hid (show OwnL wr.drew 50 4 A4 n c4 (backA zs n) from by rw [← mixB_all, ← he]; exact he ▸ OL.out)
      have CY := hid (cloneI_calls C q f ys HF.out.y HF.out.q)
      have CX := hid (cloneI_calls B m d xs HF.out.x HF.out.m)
      have BE1 := hid (BEL.out.trans (hbel.out.mono (by omega))).drew
      have hlk : ¬ (k : Int) < (n : Int) := by omega
      clear OL hbel he PA PZ FZ
      go_wp2_with fail
      obtain ⟨a0, a1, a2, a3, a4⟩ := PAR.out.drew
      obtain ⟨z0, z1, z2, z3, z4⟩ := PZR.out.drew
      have hza : w.heap.size < wr.drew.heap.size := (show w.heap.size < wr.heap.size by omega)
      have hzb : w.heap.size + 1 < wr.drew.heap.size := (show w.heap.size + 1 < wr.heap.size by omega)
      have CYW := hid (CY.out wr.drew HLR.out.c)
      go_region_held3 (fun w' => w'.cell? ⟨w.heap.size, 0, none⟩ = some (.int .i64 S) ∧ w'.cell? ⟨w.heap.size, 1, none⟩ = some (.int .i64 L) ∧ w'.cell? ⟨w.heap.size, 3, none⟩ = some (.slice B m d) ∧ w'.cell? ⟨w.heap.size, 4, none⟩ = some (.slice C q f)) (first | with_reducible exact ⟨a0, a1, a3, a4⟩ | with_reducible exact ⟨b0, b1, b3, b4⟩ | with_reducible exact ⟨q0, q1, q3, q4⟩ | (refine ⟨?_, ?_, ?_, ?_⟩ <;> go_simp)) (first | (go_at_call_of 38 f; refine (CYW.out).mono ?_; rintro e w5 ⟨A5, c5, rfl, ol5, or5, bel5⟩; obtain ⟨b0, b1, b2, b3, b4⟩ := MachAt.step PAR.out.drew bel5 hza; have Z5 := hid (MachAt.step PZR.out.drew bel5 hzb); obtain ⟨y0, y1, y2, y3, y4⟩ := Z5.out; have t5 := bel5.size; have FZ5 := hid (fun o => (bel5.frozen (p := ⟨w.heap.size + 1, o, none⟩) hzb).trans (FZR.out o)); have OL5 := hid ol5; have OR5 := hid or5; have BEL5 := hid bel5; clear ol5 or5 bel5) | (go_at_call_of 38 d; refine (CX.out _ (rd_step HLR.out.b BEL5.out)).mono ?_; rintro e w6 ⟨A6, c6, rfl, ol6, or6, bel6⟩; have lt5 : w.heap.size < w5.heap.size := (by omega); have lt5b : w.heap.size + 1 < w5.heap.size := (by omega); have q0 := ((old_cell bel6).1 _ 0 lt5).trans b0; have q1 := ((old_cell bel6).1 _ 1 lt5).trans b1; have q2 := ((old_cell bel6).1 _ 2 lt5).trans b2; have q3 := ((old_cell bel6).1 _ 3 lt5).trans b3; have q4 := ((old_cell bel6).1 _ 4 lt5).trans b4; obtain ⟨u0, u1, u2, u3, u4⟩ := Z5.out.step bel6 lt5b; have fz := (fun o => (bel6.frozen (p := ⟨w.heap.size + 1, o, none⟩) lt5b).trans (FZ5.out o)); have j0 := fz 0; have j1 := fz 1; have j2 := fz 2; have j3 := fz 3; have j4 := fz 4; have OL6 := hid ol6; have OR6 := hid or6; have BEL6 := hid bel6; clear fz ol6 or6 bel6))
      all_goals
        go_wp2_with fail
        have RA := hid (fun (g : Nat) (hg : rowN n A4 = some g) => show w1.heap.size ≤ g ∧ g < wr.drew.heap.size from ⟨OR.out g hg, OA.out.row_lt hg⟩)
        have RB := hid (fun (g : Nat) (hg : rowN q A5 = some g) => show wr.drew.heap.size ≤ g ∧ g < w5.heap.size from ⟨OR5.out g hg, OL5.out.row_lt hg⟩)
        have RC := hid (fun (g : Nat) (hg : rowN m A6 = some g) => show w5.heap.size ≤ g ∧ g < w6.heap.size from ⟨OR6.out g hg, OL6.out.row_lt hg⟩)
        have OA6 := hid ((OA.out.step BEL5.out).step BEL6.out)
        have OB6 := hid (OL5.out.step BEL6.out)
        have t6 := BEL6.out.size
        have hzw : w1.heap.size ≤ wr.drew.heap.size := hzr
        have BF := hid ((BE1.out.trans (BEL5.out.mono (by omega))).trans (BEL6.out.mono (by omega)))
        exact bodyPost_ret (v := .tuple #[.agg #[.int .i64 S, .int .i64 L, .slice A4 n c4, .slice A5 q c5, .slice A6 m c6], .bool true]) (by simp [results, Try.results16, go_sem, u0, u1, u2, u3, u4]) rfl
          ⟨A4, c4, A5, c5, A6, c6, rfl,
            ⟨(OwnL.setc (OwnL.setc (OwnL.setc (OwnL.setc (OwnL.setc OA6.out (fun g hg => by have := RA.out g hg; simp; omega) _) (fun g hg => by have := RA.out g hg; simp; omega) _) (fun g hg => by have := RA.out g hg; simp; omega) _) (fun g hg => by have := RA.out g hg; simp; omega) _) (fun g hg => by have := RA.out g hg; simp; omega) _), (OwnL.setc (OwnL.setc (OwnL.setc (OwnL.setc (OwnL.setc OB6.out (fun g hg => by have := RB.out g hg; simp; omega) _) (fun g hg => by have := RB.out g hg; simp; omega) _) (fun g hg => by have := RB.out g hg; simp; omega) _) (fun g hg => by have := RB.out g hg; simp; omega) _) (fun g hg => by have := RB.out g hg; simp; omega) _), (OwnL.setc (OwnL.setc (OwnL.setc (OwnL.setc (OwnL.setc OL6.out (fun g hg => by have := RC.out g hg; simp; omega) _) (fun g hg => by have := RC.out g hg; simp; omega) _) (fun g hg => by have := RC.out g hg; simp; omega) _) (fun g hg => by have := RC.out g hg; simp; omega) _) (fun g hg => by have := RC.out g hg; simp; omega) _),
              fun g h e => by have a := RA.out g h; have b := RB.out g e; omega, fun g h e => by have a := RA.out g h; have b := RC.out g e; omega, fun g h e => by have a := RB.out g h; have b := RC.out g e; omega⟩,
            fun r hr g hg => by
              simp only [rowsM, List.mem_cons, List.not_mem_nil, or_false] at hr
              rcases hr with rfl | rfl | rfl
              · have a := RA.out g hg; simp; omega
              · have a := RB.out g hg; simp; omega
              · have a := RC.out g hg; simp; omega,
            (((((BF.out.setCell (by simp) _).setCell (by simp) _).setCell (by simp) _).setCell (by simp) _).setCell (by simp) _)⟩
set_option maxHeartbeats 3200000 in
theorem impl_no (S L : Int) (A : Option Addr) (n c : Nat) (B : Option Addr) (m d : Nat) (C : Option Addr) (q f : Nat) (zs xs ys : List Int) (hF : Fits n m q zs xs ys) (hv : validM S L n zs m xs q ys = false) (w : World) (hl : Lists w A B C zs xs ys) :
    Calls Try.prog 16 #[.agg #[.int .i64 S, .int .i64 L, .slice A n c, .slice B m d, .slice C q f]] w (RetBM 0 0 0 0 0 [] [] [] false w) := by
  have HL := hid hl
  have HV := hid (hv ▸ fun w hl => implValid_calls S L A n c B m d C q f zs xs ys hF w hl)
  clear hl hF hv
  go_enter Try.func16, Try.ntmps16
  go_wp2_with fail
  refine (HV.out _ ((HL.out.alloc _).alloc _)).mono ?_
  rintro e w1 ⟨rfl, bel1⟩
  have hc := (old_cell bel1).1
  have hf := (old_cell bel1).2
  have BEL := hid (((Below.refl w.heap.size w).alloc (Nat.le_refl _) _).alloc (by simp) _ |>.trans (bel1.mono (by simp; omega)))
  obtain ⟨k0, k1, k2, k3, k4⟩ := show MachAt w1 (w.heap.size + 1) 0 0 none 0 0 none 0 0 none 0 0 from ⟨by rw [hc _ _ (by simp)]; go_simp, by rw [hc _ _ (by simp)]; go_simp, by rw [hc _ _ (by simp)]; go_simp, by rw [hc _ _ (by simp)]; go_simp, by rw [hc _ _ (by simp)]; go_simp⟩
  have fz : ∀ o, w1.frozen? ⟨w.heap.size + 1, o, none⟩ = false := fun o => by rw [hf _ _ (by simp)]; go_simp
  have j0 := fz 0
  have j1 := fz 1
  have j2 := fz 2
  have j3 := fz 3
  have j4 := fz 4
  clear fz hc hf bel1
  go_wp2_with fail
  exact bodyPost_ret (v := .tuple #[.agg #[.int .i64 0, .int .i64 0, .slice none 0 0, .slice none 0 0, .slice none 0 0], .bool false]) (by simp [results, Try.results16, go_sem, k0, k1, k2, k3, k4]) rfl
    ⟨none, 0, none, 0, none, 0, rfl, ownM_nil _, within_nil _ _, (((((BEL.out.setCell (by simp) _).setCell (by simp) _).setCell (by simp) _).setCell (by simp) _).setCell (by simp) _)⟩
end Go.Proofs.Ytenfleceeeimlaa.fnExactBackOf
