/-
  The marks of a second argument: markPlain from a greater number on.
-/
import Derived.Test.YtlfmcdobiojdlaaNewP
namespace Go.Proofs.Ytlfmcdobiojdlaa.Num
open Go.RowKit Go.Proofs.Fl
set_option linter.unusedVariables false
set_option linter.unusedSimpArgs false
set_option maxHeartbeats 1600000 in
theorem markPlain2_calls (S L : Int) (A : Option Addr) (n c : Nat) (B : Option Addr) (m d : Nat) (xs : List Int) (bs : List Bool) (k : Nat) (hn : n ≤ 1048576) (hm : m ≤ 1048576) (hk : k ≤ 16777216) (w : World) (h : OwnP w A n c B m d xs bs) :
    Calls Try.prog 30 #[.agg #[.int .i64 S, .int .i64 L, .slice A n c, .slice B m d], .int .i64 (k : Int)] w (RetMarkP A n c B m d k w) := by
  have HO := hid (h.step ((Below.refl _ _).alloc (Nat.le_refl _) (.cells #[.int .i64 S, .int .i64 L, .slice A n c, .slice B m d] 31)))
  have HW := hid h.within
  have T1 := hid (markInt64S_calls A n c xs k hn (by omega))
  have T2 := hid (markBoolS_calls B m d bs (k + n) hm (by omega))
  have RA : ∀ r ∈ rowsP n A m B, some w.heap.size ≠ r := fun r hr e => by have := (HW.out r hr _ e.symm).2; omega
  have RA0 := hid (RA (rowN n A) (by simp [rowsP]))
  have RB0 := hid (RA (rowN m B) (by simp [rowsP]))
  have HAB := hid h.ab
  clear h RA
  have hb : Below w.heap.size w (w.alloc (.cells #[.int .i64 S, .int .i64 L, .slice A n c, .slice B m d] 31)) := (Below.refl _ _).alloc (Nat.le_refl _) _
  have BEL := hid hb
  have PM := hid (show PlainAt (w.alloc (.cells #[.int .i64 S, .int .i64 L, .slice A n c, .slice B m d] 31)) w.heap.size S L A n c B m d from ⟨by go_simp, by go_simp, by go_simp, by go_simp⟩)
  have hz : w.heap.size < (w.alloc (.cells #[.int .i64 S, .int .i64 L, .slice A n c, .slice B m d] 31)).heap.size := by simp
  clear hb
  go_enter Try.func30, Try.ntmps30
  go_wp2_with fail
  refine (T1.out _ HO.out.a).mono ?_
  rintro e w1 ⟨rfl, o1, k1, z1⟩
  generalize w.alloc (.cells #[.int .i64 S, .int .i64 L, .slice A n c, .slice B m d] 31) = w0 at *
  have OA := hid o1
  have OBB := hid (HO.out.b.apart k1 fun g hg r hr e => by simp at hr; subst hr; exact HAB.out g e.symm hg)
  have c3 : w1.cell? ⟨w.heap.size, 3, none⟩ = some (.slice B m d) := (k1.cell hz (fun r hr => by simp at hr; subst hr; exact RA0.out) 3).trans PM.out.c3
  have K1 := hid (show Kept w0 w1 (rowsP n A m B) from k1.more fun r hr => by simp at hr; subst hr; simp [rowsP])
  clear o1 k1 HO
  go_wp2_with fail
  refine (T2.out _ OBB.out).mono ?_
  rintro e w2 ⟨rfl, o2, k2, z2⟩
  have OA2 := hid (OA.out.apart k2 fun g hg r hr e => by simp at hr; subst hr; exact HAB.out g hg e.symm)
  have OB2 := hid o2
  have K2 := hid (K1.out.trans (k2.more fun r hr => by simp at hr; subst hr; simp [rowsP]))
  clear o2 k2 OA OBB K1 c3
  go_wp2_with fail
  go_ret
  exact ⟨rfl, ⟨OA2.out, OB2.out, HAB.out⟩, (Kept.of_below BEL.out _).trans K2.out⟩
end Go.Proofs.Ytlfmcdobiojdlaa.Num
