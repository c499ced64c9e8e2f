/-
  LeastPlain, by the reference.
-/
import Derived.Test.YtlfmcdobiojdlaaSmallSpec
namespace Go.Proofs.Ytlfmcdobiojdlaa.fnExactLeastPlain
open Go.RowKit Go.Proofs.Fl Go.Proofs.Ytlfmcdobiojdlaa.Num Go.Proofs.Exp
open Go.Proofs.Ytlfmcdobiojdlaa.fnExactApartWord (Pl)
open Go.Proofs.Ytlfmcdobiojdlaa.fnExactOtherPlain (RetBP ownP_nil within_nil)
set_option linter.unusedVariables false
set_option linter.unusedSimpArgs false
theorem ownP_four {w : World} {A : Option Addr} {n c : Nat} {B : Option Addr} {m d : Nat} {xs : List Int} {bs : List Bool} (h : OwnP w A n c B m d xs bs) {lo hi : Nat} (hw : Within lo hi (rowsP n A m B)) {bz : Nat} (hz : bz < lo) (u1 u2 u3 u4 : Value) :
    OwnP ((((w.setCell ⟨bz, 0, none⟩ u1).setCell ⟨bz, 1, none⟩ u2).setCell ⟨bz, 2, none⟩ u3).setCell ⟨bz, 3, none⟩ u4) A n c B m d xs bs := by
  have wA : ∀ g, rowN n A = some g → g ≠ bz := fun g hg e => by have := hw _ (show rowN n A ∈ rowsP n A m B by simp [rowsP]) g hg; omega
  have wB : ∀ g, rowN m B = some g → g ≠ bz := fun g hg e => by have := hw _ (show rowN m B ∈ rowsP n A m B by simp [rowsP]) g hg; omega
  exact ⟨Go.Proofs.Ytlfmcdobiojdlaa.fnExactOtherPlain.OwnL.setc (Go.Proofs.Ytlfmcdobiojdlaa.fnExactOtherPlain.OwnL.setc (Go.Proofs.Ytlfmcdobiojdlaa.fnExactOtherPlain.OwnL.setc (Go.Proofs.Ytlfmcdobiojdlaa.fnExactOtherPlain.OwnL.setc h.a wA _) wA _) wA _) wA _,
    OwnB.setc (OwnB.setc (OwnB.setc (OwnB.setc h.b wB _) wB _) wB _) wB _, h.ab⟩
set_option maxHeartbeats 3200000 in
theorem spec_no (S L : Int) (A : Option Addr) (n c : Nat) (B : Option Addr) (m d : Nat) (xs : List Int) (hx : xs.length = n) (hn : n ≤ 1048576) (hm : m ≤ 1048576) (w : World) (hl : Rd w w.heap.size A (i64s xs)) (h : validP S L n xs m = false) :
    Calls Try.prog 40 #[.agg #[.int .i64 S, .int .i64 L, .slice A n c, .slice B m d]] w (RetBP 0 0 0 0 [] [] false w) := by
  have HV := hid (h ▸ fun (b : Nat) (w : World) hp ha => l02Plain_calls b S L A n c B m d xs hx hn hm w hp ha)
  have HL := hid hl
  clear hl h hx
  go_enter Try.func40, Try.ntmps40
  go_wp2_with fail
  refine (HV.out w.heap.size _ ⟨by go_simp, by go_simp, by go_simp, by go_simp⟩ (rd_alloc (rd_alloc HL.out _) _)).mono ?_
  rintro e w1 ⟨rfl, k1, h1⟩
  have BEL := hid (show Below w.heap.size w w1 by rw [h1]; exact below_drewN (((Below.refl w.heap.size w).alloc (Nat.le_refl _) (.cells #[.int .i64 S, .int .i64 L, .slice A n c, .slice B m d] 31)).alloc (by simp) (.cells #[.int .i64 0, .int .i64 0, .slice none 0 0, .slice none 0 0] 31)) _)
  obtain ⟨z0, z1, z2, z3⟩ := show PlainAt w1 (w.heap.size + 1) 0 0 none 0 0 none 0 0 by rw [h1]; exact PlainAt.drewN ⟨by go_simp, by go_simp, by go_simp, by go_simp⟩ _
  have fz : ∀ o, w1.frozen? ⟨w.heap.size + 1, o, none⟩ = false := fun o => by rw [h1]; show World.frozen? ((w.alloc _).alloc _) _ = _; go_simp
  have j0 := fz 0
  have j1 := fz 1
  have j2 := fz 2
  have j3 := fz 3
  clear fz h1
  go_wp2_with fail
  exact bodyPost_ret (v := .tuple #[.agg #[.int .i64 0, .int .i64 0, .slice none 0 0, .slice none 0 0], .bool false]) (by simp [results, Try.results40, go_sem, z0, z1, z2, z3]) rfl
    ⟨none, 0, none, 0, rfl, ownP_nil _, within_nil _ _, ((((BEL.out.setCell (by simp) _).setCell (by simp) _).setCell (by simp) _).setCell (by simp) _)⟩
set_option maxHeartbeats 3200000 in
theorem spec_yes (s l : Nat) (A : Option Addr) (n c : Nat) (B : Option Addr) (m d : Nat) (xs : List Int) (bs : List Bool) (hP : Pl s l n xs m bs) (hn : n ≤ 1048576) (hm : m ≤ 1048576)
    (i : Nat) (N : List Int) (D : List Bool) (hr : Ans (nxL xs bs s l) (enC xs bs s l) l (clF xs bs s l 0) (some (i, N, D))) (w : World) (hl : ListsP w A B xs bs) (h : validP s l n xs m = true) :
    Calls Try.prog 40 #[.agg #[.int .i64 (s : Int), .int .i64 (l : Int), .slice A n c, .slice B m d]] w (RetBP i l N.length D.length N D true w) := by
  have HV := hid (h ▸ fun (b : Nat) (w : World) hp ha => l02Plain_calls b s l A n c B m d xs hP.xl hn hm w hp ha)
  have HS := hid (fun (b : Nat) (w : World) hp hb hl => l02Small_calls b s l A n c B m d xs bs hP (some (i, N, D)) hr w hp hb hl)
  have HL := hid hl
  clear hl h hP hr
  go_enter Try.func40, Try.ntmps40
  go_wp2_with fail
  refine (HV.out w.heap.size _ ⟨by go_simp, by go_simp, by go_simp, by go_simp⟩ (rd_alloc (rd_alloc HL.out.a _) _)).mono ?_
  rintro e w1 ⟨rfl, k1, h1⟩
  have BEL := hid (show Below w.heap.size w w1 by rw [h1]; exact below_drewN (((Below.refl w.heap.size w).alloc (Nat.le_refl _) (.cells #[.int .i64 (s : Int), .int .i64 (l : Int), .slice A n c, .slice B m d] 31)).alloc (by simp) (.cells #[.int .i64 0, .int .i64 0, .slice none 0 0, .slice none 0 0] 31)) _)
  have PA := hid (show PlainAt w1 w.heap.size s l A n c B m d by rw [h1]; exact PlainAt.drewN ⟨by go_simp, by go_simp, by go_simp, by go_simp⟩ _)
  have PZ := hid (show PlainAt w1 (w.heap.size + 1) 0 0 none 0 0 none 0 0 by rw [h1]; exact PlainAt.drewN ⟨by go_simp, by go_simp, by go_simp, by go_simp⟩ _)
  have FZ := hid (show ∀ o, w1.frozen? ⟨w.heap.size + 1, o, none⟩ = false from fun o => by rw [h1]; show World.frozen? ((w.alloc _).alloc _) _ = _; go_simp)
  have s1 : w.heap.size + 2 = w1.heap.size := by rw [h1]; simp [World.drewN]
  clear h1
  go_wp2_with fail
  refine (HS.out w.heap.size w1 PA.out (by omega) (HL.out.step BEL.out)).mono ?_
  rintro e w2 ⟨i', N', D', A5, c5, B5, d5, hre, rfl, ho, hwi, bel⟩
  cases hre
  have BEL2 := hid (BEL.out.trans (bel.mono (by omega)))
  obtain ⟨z0, z1, z2, z3⟩ := PZ.out.step bel (by omega)
  have fz : ∀ o, w2.frozen? ⟨w.heap.size + 1, o, none⟩ = false := fun o => ((old_cell bel).2 (w.heap.size + 1) o (by omega)).trans (FZ.out o)
  have j0 := fz 0
  have j1 := fz 1
  have j2 := fz 2
  have j3 := fz 3
  clear fz bel
  go_wp2_with fail
  exact bodyPost_ret (v := .tuple #[.agg #[.int .i64 i, .int .i64 l, .slice A5 N.length c5, .slice B5 D.length d5], .bool true]) (by simp [results, Try.results40, go_sem, z0, z1, z2, z3]) rfl
    ⟨A5, c5, B5, d5, rfl, ownP_four ho hwi (by omega) _ _ _ _, hwi.mono (by omega) (by simp [World.setCell]), ((((BEL2.out.setCell (by simp) _).setCell (by simp) _).setCell (by simp) _).setCell (by simp) _)⟩
end Go.Proofs.Ytlfmcdobiojdlaa.fnExactLeastPlain
