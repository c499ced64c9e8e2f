/-
  The plain machine that reads the other words, by the reference: the whole.
-/
import Derived.Test.YtlfmcdobiojdlaaOtherSpec
namespace Go.Proofs.Ytlfmcdobiojdlaa.fnExactOtherPlain
open Go.RowKit Go.Proofs.Fl Go.Proofs.Ytlfmcdobiojdlaa.Num
set_option linter.unusedVariables false
set_option linter.unusedSimpArgs false
theorem Kept.drew {w w' : World} {R : List (Option Nat)} (h : Kept w w' R) : Kept w w'.drew R := ⟨h.os, h.tape, h.output, h.size, h.block⟩
def mixN (bs : List Bool) (k : Nat) : List Bool := (bs.map not).take k ++ bs.drop k
theorem mixN_zero (bs : List Bool) : mixN bs 0 = bs := by simp [mixN]
theorem mixN_all (bs : List Bool) (k : Nat) (h : bs.length ≤ k) : mixN bs k = bs.map not := by
  unfold mixN
  rw [List.take_of_length_le (by simpa using h), List.drop_eq_nil_of_le h, List.append_nil]
theorem mixN_len (bs : List Bool) (k : Nat) : (mixN bs k).length = bs.length := by simp [mixN]; omega
theorem mixN_set (bs : List Bool) (k : Nat) (h : k < bs.length) : (mixN bs k).set k (!bs[k]) = mixN bs (k + 1) := by
  unfold mixN
  have hl : ((bs.map not).take k).length = k := by simp; omega
  rw [List.set_append_right _ _ (by omega), hl, Nat.sub_self, List.drop_eq_getElem_cons h, List.set_cons_zero, not_take bs k h]
  simp
theorem valid_pos {S L : Int} {n : Nat} {xs : List Int} {m : Nat} (h : validP S L n xs m = true) : 0 < n ∧ 0 < m := by
  unfold validP at h
  simp only [Bool.and_eq_true, decide_eq_true_eq] at h
  obtain ⟨⟨⟨⟨h1, h2⟩, h3⟩, h4⟩, h5⟩ := h
  have a := inB_iff h1
  have b := inB_iff h2
  have p : 0 < S * L := Int.mul_pos (by omega) (by omega)
  omega
set_option maxHeartbeats 3200000 in
theorem spec_no (S L : Int) (A : Option Addr) (n c : Nat) (B : Option Addr) (m d : Nat) (xs : List Int) (bs : List Bool) (hF : FitsP n m xs bs) (hv : validP S L n xs m = false) (w : World) (hl : ListsP w A B xs bs) :
    Calls Try.prog 28 #[.agg #[.int .i64 S, .int .i64 L, .slice A n c, .slice B m d]] w (RetBP 0 0 0 0 [] [] false w) := by
  have HL := hid hl
  have HV := hid (hv ▸ fun b w hp ha => l02Plain_calls b S L A n c B m d xs hF.x hF.n hF.m w hp ha)
  clear hl hF hv
  go_enter Try.func28, Try.ntmps28
  go_wp2_with fail
  refine (HV.out w.heap.size _ ⟨by go_simp, by go_simp, by go_simp, by go_simp⟩ (((HL.out.alloc _).alloc _)).a).mono ?_
  rintro e w1 ⟨rfl, q, rfl⟩
  have BEL := hid (below_drewN (((Below.refl w.heap.size w).alloc (Nat.le_refl _) (Obj.cells #[.int .i64 S, .int .i64 L, .slice A n c, .slice B m d] 31)).alloc (by simp) (Obj.cells #[.int .i64 0, .int .i64 0, .slice none 0 0, .slice none 0 0] 31)) q)
  have PZ := show PlainAt (((w.alloc (Obj.cells #[.int .i64 S, .int .i64 L, .slice A n c, .slice B m d] 31)).alloc (Obj.cells #[.int .i64 0, .int .i64 0, .slice none 0 0, .slice none 0 0] 31)).drewN q) (w.heap.size + 1) 0 0 none 0 0 none 0 0 from ⟨by go_simp, by go_simp, by go_simp, by go_simp⟩
  have fz : ∀ o, (((w.alloc (Obj.cells #[.int .i64 S, .int .i64 L, .slice A n c, .slice B m d] 31)).alloc (Obj.cells #[.int .i64 0, .int .i64 0, .slice none 0 0, .slice none 0 0] 31)).drewN q).frozen? ⟨w.heap.size + 1, o, none⟩ = false := fun o => by go_simp
  generalize ((w.alloc (Obj.cells #[.int .i64 S, .int .i64 L, .slice A n c, .slice B m d] 31)).alloc (Obj.cells #[.int .i64 0, .int .i64 0, .slice none 0 0, .slice none 0 0] 31)).drewN q = w1 at *
  obtain ⟨k0, k1, k2, k3⟩ := PZ
  have j0 := fz 0
  have j1 := fz 1
  have j2 := fz 2
  have j3 := fz 3
  clear fz
  go_wp2_with fail
  exact bodyPost_ret (v := .tuple #[.agg #[.int .i64 0, .int .i64 0, .slice none 0 0, .slice none 0 0], .bool false]) (by simp [results, Try.results28, go_sem, k0, k1, k2, k3]) rfl
    ⟨none, 0, none, 0, rfl, ownP_nil _, within_nil _ _, ((((BEL.out.setCell (by simp) _).setCell (by simp) _).setCell (by simp) _).setCell (by simp) _)⟩
set_option maxHeartbeats 6400000 in
theorem spec_yes (S L : Int) (A : Option Addr) (n c : Nat) (B : Option Addr) (m d : Nat) (xs : List Int) (bs : List Bool) (hF : FitsP n m xs bs) (hv : validP S L n xs m = true) (w : World) (hl : ListsP w A B xs bs) :
    Calls Try.prog 28 #[.agg #[.int .i64 S, .int .i64 L, .slice A n c, .slice B m d]] w (RetBP S L n m xs (bs.map not) true w) := by
  have HL := hid hl
  have HF := hid hF
  have hps := valid_pos hv
  have HV := hid (hv ▸ fun b w hp ha => l02Plain_calls b S L A n c B m d xs hF.x hF.n hF.m w hp ha)
  have OC := hid (fun b w hp hb hl => own_calls b S L A n c B m d xs bs hF hps.1 hps.2 w hp hb hl)
  have hm := hF.m
  clear hl hF hv
  go_enter Try.func28, Try.ntmps28
  go_wp2_with fail
  refine (HV.out w.heap.size _ ⟨by go_simp, by go_simp, by go_simp, by go_simp⟩ (((HL.out.alloc _).alloc _)).a).mono ?_
  rintro e w1 ⟨rfl, q, rfl⟩
  have BEL := hid (below_drewN (((Below.refl w.heap.size w).alloc (Nat.le_refl _) (Obj.cells #[.int .i64 S, .int .i64 L, .slice A n c, .slice B m d] 31)).alloc (by simp) (Obj.cells #[.int .i64 0, .int .i64 0, .slice none 0 0, .slice none 0 0] 31)) q)
  have PZ := hid (show PlainAt (((w.alloc (Obj.cells #[.int .i64 S, .int .i64 L, .slice A n c, .slice B m d] 31)).alloc (Obj.cells #[.int .i64 0, .int .i64 0, .slice none 0 0, .slice none 0 0] 31)).drewN q) (w.heap.size + 1) 0 0 none 0 0 none 0 0 from ⟨by go_simp, by go_simp, by go_simp, by go_simp⟩)
  have PA := hid (show PlainAt (((w.alloc (Obj.cells #[.int .i64 S, .int .i64 L, .slice A n c, .slice B m d] 31)).alloc (Obj.cells #[.int .i64 0, .int .i64 0, .slice none 0 0, .slice none 0 0] 31)).drewN q) w.heap.size S L A n c B m d from ⟨by go_simp, by go_simp, by go_simp, by go_simp⟩)
  have FZ := hid (show ∀ o, (((w.alloc (Obj.cells #[.int .i64 S, .int .i64 L, .slice A n c, .slice B m d] 31)).alloc (Obj.cells #[.int .i64 0, .int .i64 0, .slice none 0 0, .slice none 0 0] 31)).drewN q).frozen? ⟨w.heap.size + 1, o, none⟩ = false from fun o => by go_simp)
  have s1 : w.heap.size + 2 ≤ (((w.alloc (Obj.cells #[.int .i64 S, .int .i64 L, .slice A n c, .slice B m d] 31)).alloc (Obj.cells #[.int .i64 0, .int .i64 0, .slice none 0 0, .slice none 0 0] 31)).drewN q).heap.size := by show w.heap.size + 2 ≤ ((w.alloc _).alloc _).heap.size; simp
  have HL1 := hid (((HL.out.alloc (Obj.cells #[.int .i64 S, .int .i64 L, .slice A n c, .slice B m d] 31)).alloc (Obj.cells #[.int .i64 0, .int .i64 0, .slice none 0 0, .slice none 0 0] 31)).drewN q)
  generalize ((w.alloc (Obj.cells #[.int .i64 S, .int .i64 L, .slice A n c, .slice B m d] 31)).alloc (Obj.cells #[.int .i64 0, .int .i64 0, .slice none 0 0, .slice none 0 0] 31)).drewN q = w1 at *
  clear HL
  go_wp2_with fail
  refine (OC.out w.heap.size _ PA.out (by omega) HL1.out).mono ?_
  rintro e w2 ⟨A4, c4, A5, c5, rfl, own, win, bel2⟩
  have s2 := bel2.size
  rcases own.b.2 with h0 | ⟨g2, rfl, hrow⟩
  · omega
  have hg2 := win (rowN m (some ⟨g2, 0, none⟩)) (by simp [rowsP]) g2 (rowN_some (by omega))
  have OL := hid own.a
  have OR := hid (fun (x : Nat) (hx : rowN n A4 = some x) => show w1.heap.size ≤ x ∧ x < w2.heap.size ∧ x ≠ g2 from ⟨(win (rowN n A4) (by simp [rowsP]) x hx).1, (win (rowN n A4) (by simp [rowsP]) x hx).2, fun e => own.ab x hx (by rw [rowN_some (by omega), e])⟩)
  have OW := hid hrow
  have BX := hid bel2
  have PA2 := hid (PA.out.step bel2 (by omega))
  have PZ2 := hid (PZ.out.step bel2 (by omega))
  have FZ2 := hid (fun o => ((old_cell bel2).2 (w.heap.size + 1) o (by omega)).trans (FZ.out o))
  have HL2 := hid (HL1.out.step bel2)
  clear own win hrow bel2 PA PZ FZ HV OC
  go_wp2_with fail
  have PO := hid (show PlainAt (w2.alloc (Obj.cells #[.int .i64 S, .int .i64 L, .slice A4 n c4, .slice (some ⟨g2, 0, none⟩) m c5] 31)) w2.heap.size S L A4 n c4 (some ⟨g2, 0, none⟩) m c5 from ⟨by go_simp, by go_simp, by go_simp, by go_simp⟩)
  have B3 := hid ((Below.refl w2.heap.size w2).alloc (Nat.le_refl _) (Obj.cells #[.int .i64 S, .int .i64 L, .slice A4 n c4, .slice (some ⟨g2, 0, none⟩) m c5] 31))
  have s3 : w2.heap.size < (w2.alloc (Obj.cells #[.int .i64 S, .int .i64 L, .slice A4 n c4, .slice (some ⟨g2, 0, none⟩) m c5] 31)).heap.size := by simp
  have PA3 := hid (PA2.out.step B3.out (by omega))
  have PZ3 := hid (PZ2.out.step B3.out (by omega))
  have FZ3 := hid (fun o => ((old_cell B3.out).2 (w.heap.size + 1) o (by omega)).trans (FZ2.out o))
  have HL3 := hid (HL2.out.step B3.out)
  have OL3 := hid (OL.out.step B3.out)
  have OW3 := hid (show (w2.alloc (Obj.cells #[.int .i64 S, .int .i64 L, .slice A4 n c4, .slice (some ⟨g2, 0, none⟩) m c5] 31)).ownsRow g2 4 1 (.slice (some ⟨g2, 0, none⟩) m c5) m (bools (mixN bs 0)) from by rw [mixN_zero]; exact OW.out.alloc _)
  clear PA2 PZ2 FZ2 HL2 OL OW
  generalize w2.alloc (Obj.cells #[.int .i64 S, .int .i64 L, .slice A4 n c4, .slice (some ⟨g2, 0, none⟩) m c5] 31) = w3 at *
  go_loopw [5] (fun i wr => ∃ k : Nat, k ≤ m ∧ i = .int .i64 k ∧ Hid (wr.ownsRow g2 4 1 (.slice (some ⟨g2, 0, none⟩) m c5) m (bools (mixN bs k))) ∧ Hid (Kept w3 wr [some g2])) (fun i _ => m - (intOf i).toNat)
  case atStart => exact ⟨0, Nat.zero_le _, rfl, OW3, Kept.refl _ _⟩
  case round =>
    obtain ⟨k, hk, rfl, OW, KP⟩ := hrel
    clear OW3
    have szr := KP.out.size
    have nr : ∀ b, b ≠ g2 → ∀ r ∈ [some g2], some b ≠ r := fun b hb r hr e => by simp at hr; subst hr; simp at e; exact hb e
    obtain ⟨e0, e1, e2, e3⟩ := PO.out.keep (KP.out.cell (show w2.heap.size < w3.heap.size by omega) (nr _ (by omega)))
    by_cases hlt : k < m
    · have hkb : k < bs.length := by rw [HF.out.b]; exact hlt
      obtain ⟨a0, a1, a2, a3⟩ := PA3.out.keep (KP.out.cell (show w.heap.size < w3.heap.size by omega) (nr _ (by omega)))
      obtain ⟨bb, ob, rfl, hbb, hcb⟩ := bools_at HL1.out.b hkb
      have cb := (KP.out.cell (show bb < w3.heap.size by omega) (nr _ (by omega)) (ob + k)).trans ((B3.out.cell (p := ⟨bb, ob + k, none⟩) (show bb < w2.heap.size by omega)).trans ((BX.out.cell (p := ⟨bb, ob + k, none⟩) (show bb < w1.heap.size by omega)).trans hcb))
      have hst := (World.ownsRow.stored OW.out k (.bool (!bs[k]))).1
      have e : (bools (mixN bs k)).set k (.bool (!bs[k])) = bools (mixN bs (k + 1)) := by rw [← mixN_set bs k hkb]; unfold bools; rw [List.map_set]
      rw [e] at hst
      have hold : ∃ u, wr.cell? ⟨g2, k, none⟩ = some u := by
        rw [World.ownsRow.cellAt OW.out k (by omega)]
        exact ⟨_, List.getElem?_eq_getElem (by rw [bools_length, mixN_len]; exact hkb)⟩
      obtain ⟨u, hold⟩ := hold
      have hfr := World.ownsRow.frozenAt OW.out k
      have O3 := hid hst
      have K3 := hid (KP.out.set (p := ⟨g2, k, none⟩) (by simp) (.bool (!bs[k])))
      have ng := nr
      clear hst e OW KP nr
      generalize bs[k] = b at *
      go_wp2_with fail
      have a3' := show wr.drew.cell? _ = _ from a3
      have e3' := show wr.drew.cell? _ = _ from e3
      have cb' := show wr.drew.cell? _ = _ from cb
      have hold' := show wr.drew.cell? _ = _ from hold
      have hfr' := show wr.drew.frozen? _ = _ from hfr
      go_region
      all_goals
        go_wp2_with fail
        go_roundw
        case rel => exact ⟨k + 1, hlt, by go_num, O3.out, Kept.drew K3.out⟩
        case measure => simp [intOf]; omega
    · have he : k = m := by omega
      subst he
      have hlk : ¬ (k : Int) < (k : Int) := by omega
      obtain ⟨z0, z1, z2, z3⟩ := PZ3.out.keep (KP.out.cell (show w.heap.size + 1 < w3.heap.size by omega) (nr _ (by omega)))
      have fz := fun o => (Kept.frz KP.out (show w.heap.size + 1 < w3.heap.size by omega) (nr _ (by omega)) o).trans (FZ3.out o)
      have j0 := fz 0
      have j1 := fz 1
      have j2 := fz 2
      have j3 := fz 3
      clear fz
      have OBX := hid (show OwnB wr (some ⟨g2, 0, none⟩) k c5 (bs.map not) from ⟨by simp [HF.out.b], .inr ⟨g2, rfl, by rw [← mixN_all bs k (by rw [HF.out.b]; exact Nat.le_refl _)]; exact OW.out⟩⟩)
      have OAX := hid (OL3.out.apart KP.out fun x hx => nr x (OR.out x hx).2.2)
      have BF := hid (BEL.out.trans ((BX.out.trans ((B3.out.mono (by omega)).trans (KP.out.below (by omega) fun r hr g hg => by simp at hr; subst hr; simp at hg; omega))).mono (by omega)))
      go_wp2_with fail
      exact bodyPost_ret (v := .tuple #[.agg #[.int .i64 S, .int .i64 L, .slice A4 n c4, .slice (some ⟨g2, 0, none⟩) k c5], .bool true]) (by simp [results, Try.results28, go_sem, z0, z1, z2, z3]) rfl
        ⟨A4, c4, some ⟨g2, 0, none⟩, c5, rfl, ⟨(OwnL.setc (OwnL.setc (OwnL.setc (OwnL.setc OAX.out (fun g hg => by have := OR.out g hg; simp; omega) _) (fun g hg => by have := OR.out g hg; simp; omega) _) (fun g hg => by have := OR.out g hg; simp; omega) _) (fun g hg => by have := OR.out g hg; simp; omega) _), (OwnB.setc (OwnB.setc (OwnB.setc (OwnB.setc OBX.out (fun g hg => by rw [rowN_is hg]; simp; omega) _) (fun g hg => by rw [rowN_is hg]; simp; omega) _) (fun g hg => by rw [rowN_is hg]; simp; omega) _) (fun g hg => by rw [rowN_is hg]; simp; omega) _), fun x h e => by have a := OR.out x h; have b := rowN_is e; omega⟩,
          fun r hr g hg => by
            simp only [rowsP, List.mem_cons, List.not_mem_nil, or_false] at hr
            rcases hr with rfl | rfl
            · have a := OR.out g hg; simp; omega
            · have a := rowN_is hg; simp; omega,
          ((((BF.out.setCell (by simp) _).setCell (by simp) _).setCell (by simp) _).setCell (by simp) _)⟩
end Go.Proofs.Ytlfmcdobiojdlaa.fnExactOtherPlain
