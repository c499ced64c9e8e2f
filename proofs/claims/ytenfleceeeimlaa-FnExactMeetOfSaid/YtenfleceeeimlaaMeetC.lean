/-
  A machine handed back if it is valid, by both texts.
-/
import Derived.Test.YtenfleceeeimlaaMeetA
namespace Go.Proofs.Ytenfleceeeimlaa.fnExactMeetOf
open Go.RowKit Go.Proofs.Fl Go.Proofs.Ytenfleceeeimlaa.Num
open Go.Proofs.Ytenfleceeeimlaa.fnExactBackOf (RetBM ownM_nil within_nil)
set_option linter.unusedVariables false
set_option linter.unusedSimpArgs false
/-- handed back the machine itself -/
def RetSame (S L : Int) (A : Option Addr) (n c : Nat) (B : Option Addr) (m d : Nat) (C : Option Addr) (q f : Nat) (v : Bool) (w : World) (e : Ending) (w' : World) : Prop :=
  e = .returned (if v then .tuple #[.agg #[.int .i64 S, .int .i64 L, .slice A n c, .slice B m d, .slice C q f], .bool true] else .tuple #[.agg #[.int .i64 0, .int .i64 0, .slice none 0 0, .slice none 0 0, .slice none 0 0], .bool false]) ∧ Below w.heap.size w w'
set_option maxHeartbeats 3200000 in
theorem l02Give_calls (S L : Int) (A : Option Addr) (n c : Nat) (B : Option Addr) (m d : Nat) (C : Option Addr) (q f : Nat) (zs xs ys : List Int) (hF : Fits n m q zs xs ys) (w : World) (hl : Lists w A B C zs xs ys) :
    Calls Try.prog 47 #[.agg #[.int .i64 S, .int .i64 L, .slice A n c, .slice B m d, .slice C q f]] w (RetSame S L A n c B m d C q f (validM S L n zs m xs q ys) w) := by
  have HL := hid hl
  have HV := hid (fun b w hp hb hl => l02Is_calls b S L A n c B m d C q f zs xs ys hF w hp hb hl)
  clear hl hF
  generalize validM S L n zs m xs q ys = v at *
  go_enter Try.func47, Try.ntmps47
  go_wp2_with fail
  refine (HV.out w.heap.size _ ⟨by go_simp, by go_simp, by go_simp, by go_simp, by go_simp⟩ (by simp; omega) ((HL.out.alloc _).alloc _)).mono ?_
  rintro e w1 ⟨rfl, bel1⟩
  have hc := (old_cell bel1).1
  have hf := (old_cell bel1).2
  have BEL := hid (((Below.refl w.heap.size w).alloc (Nat.le_refl _) _).alloc (by simp) _ |>.trans (bel1.mono (by simp; omega)))
  obtain ⟨a0, a1, a2, a3, a4⟩ := show MachAt w1 w.heap.size S L A n c B m d C q f from ⟨by rw [hc _ _ (by simp; omega)]; go_simp, by rw [hc _ _ (by simp; omega)]; go_simp, by rw [hc _ _ (by simp; omega)]; go_simp, by rw [hc _ _ (by simp; omega)]; go_simp, by rw [hc _ _ (by simp; omega)]; go_simp⟩
  obtain ⟨k0, k1, k2, k3, k4⟩ := show MachAt w1 (w.heap.size + 1) 0 0 none 0 0 none 0 0 none 0 0 from ⟨by rw [hc _ _ (by simp)]; go_simp, by rw [hc _ _ (by simp)]; go_simp, by rw [hc _ _ (by simp)]; go_simp, by rw [hc _ _ (by simp)]; go_simp, by rw [hc _ _ (by simp)]; go_simp⟩
  have fz : ∀ o, w1.frozen? ⟨w.heap.size + 1, o, none⟩ = false := fun o => by rw [hf _ _ (by simp)]; go_simp
  have j0 := fz 0
  have j1 := fz 1
  have j2 := fz 2
  have j3 := fz 3
  have j4 := fz 4
  clear fz hc hf bel1
  cases v
  · go_wp2_with fail
    exact bodyPost_ret (v := .tuple #[.agg #[.int .i64 0, .int .i64 0, .slice none 0 0, .slice none 0 0, .slice none 0 0], .bool false]) (by simp [results, Try.results47, go_sem, k0, k1, k2, k3, k4]) rfl
      ⟨rfl, (((((BEL.out.setCell (by simp) _).setCell (by simp) _).setCell (by simp) _).setCell (by simp) _).setCell (by simp) _)⟩
  · go_wp2_with fail
    exact bodyPost_ret (v := .tuple #[.agg #[.int .i64 S, .int .i64 L, .slice A n c, .slice B m d, .slice C q f], .bool true]) (by simp [results, Try.results47, go_sem, k0, k1, k2, k3, k4]) rfl
      ⟨rfl, (((((BEL.out.setCell (by simp) _).setCell (by simp) _).setCell (by simp) _).setCell (by simp) _).setCell (by simp) _)⟩
set_option maxHeartbeats 3200000 in
theorem checked_calls (S L : Int) (A : Option Addr) (n c : Nat) (B : Option Addr) (m d : Nat) (C : Option Addr) (q f : Nat) (zs xs ys : List Int) (hF : Fits n m q zs xs ys) (w : World) (hl : Lists w A B C zs xs ys) :
    Calls Try.prog 49 #[.agg #[.int .i64 S, .int .i64 L, .slice A n c, .slice B m d, .slice C q f]] w (RetSame S L A n c B m d C q f (validM S L n zs m xs q ys) w) := by
  have HL := hid hl
  have HV := hid (fun w hl => implValid_calls S L A n c B m d C q f zs xs ys hF w hl)
  clear hl hF
  generalize validM S L n zs m xs q ys = v at *
  go_enter Try.func49, Try.ntmps49
  go_wp2_with fail
  refine (HV.out _ ((HL.out.alloc _).alloc _)).mono ?_
  rintro e w1 ⟨rfl, bel1⟩
  have hc := (old_cell bel1).1
  have hf := (old_cell bel1).2
  have BEL := hid (((Below.refl w.heap.size w).alloc (Nat.le_refl _) _).alloc (by simp) _ |>.trans (bel1.mono (by simp; omega)))
  obtain ⟨a0, a1, a2, a3, a4⟩ := show MachAt w1 w.heap.size S L A n c B m d C q f from ⟨by rw [hc _ _ (by simp; omega)]; go_simp, by rw [hc _ _ (by simp; omega)]; go_simp, by rw [hc _ _ (by simp; omega)]; go_simp, by rw [hc _ _ (by simp; omega)]; go_simp, by rw [hc _ _ (by simp; omega)]; go_simp⟩
  obtain ⟨k0, k1, k2, k3, k4⟩ := show MachAt w1 (w.heap.size + 1) 0 0 none 0 0 none 0 0 none 0 0 from ⟨by rw [hc _ _ (by simp)]; go_simp, by rw [hc _ _ (by simp)]; go_simp, by rw [hc _ _ (by simp)]; go_simp, by rw [hc _ _ (by simp)]; go_simp, by rw [hc _ _ (by simp)]; go_simp⟩
  have fz : ∀ o, w1.frozen? ⟨w.heap.size + 1, o, none⟩ = false := fun o => by rw [hf _ _ (by simp)]; go_simp
  have j0 := fz 0
  have j1 := fz 1
  have j2 := fz 2
  have j3 := fz 3
  have j4 := fz 4
  clear fz hc hf bel1
  cases v
  · go_wp2_with fail
    exact bodyPost_ret (v := .tuple #[.agg #[.int .i64 0, .int .i64 0, .slice none 0 0, .slice none 0 0, .slice none 0 0], .bool false]) (by simp [results, Try.results49, go_sem, k0, k1, k2, k3, k4]) rfl
      ⟨rfl, (((((BEL.out.setCell (by simp) _).setCell (by simp) _).setCell (by simp) _).setCell (by simp) _).setCell (by simp) _)⟩
  · go_wp2_with fail
    exact bodyPost_ret (v := .tuple #[.agg #[.int .i64 S, .int .i64 L, .slice A n c, .slice B m d, .slice C q f], .bool true]) (by simp [results, Try.results49, go_sem, k0, k1, k2, k3, k4]) rfl
      ⟨rfl, (((((BEL.out.setCell (by simp) _).setCell (by simp) _).setCell (by simp) _).setCell (by simp) _).setCell (by simp) _)⟩
end Go.Proofs.Ytenfleceeeimlaa.fnExactMeetOf
