/-
  The marks of a second argument: markMachine from a greater number on.
-/
import Derived.Test.YtenfleceeeimlaaMarkM
namespace Go.Proofs.Ytenfleceeeimlaa.Num
open Go.RowKit Go.Proofs.Fl
set_option linter.unusedVariables false
set_option linter.unusedSimpArgs false
set_option maxHeartbeats 1600000 in
theorem markMachine2_calls (S L : Int) (A : Option Addr) (n c : Nat) (B : Option Addr) (m d : Nat) (C : Option Addr) (q f : Nat) (zs xs ys : List Int) (k : Nat) (hn : n ≤ 1048576) (hm : m ≤ 1048576) (hq : q ≤ 1048576) (hk : k ≤ 16777216) (w : World) (h : OwnM w A n c B m d C q f zs xs ys) :
    Calls Try.prog 17 #[.agg #[.int .i64 S, .int .i64 L, .slice A n c, .slice B m d, .slice C q f], .int .i64 (k : Int)] w (RetMarkM A n c B m d C q f k w) := by
  have HO := hid (h.step ((Below.refl _ _).alloc (Nat.le_refl _) (.cells #[.int .i64 S, .int .i64 L, .slice A n c, .slice B m d, .slice C q f] 30)))
  have HW := hid h.within
  have T1 := hid (markArcS_calls A n c zs k hn (by omega))
  have T2 := hid (markInt64S_calls B m d xs (k + n * 4) hm (by omega))
  have T3 := hid (markInt64S_calls C q f ys (k + n * 4 + m) hq (by omega))
  have RA : ∀ r ∈ rowsM n A m B q C, some w.heap.size ≠ r := fun r hr e => by have := (HW.out r hr _ e.symm).2; omega
  have RA0 := hid (RA (rowN n A) (by simp [rowsM]))
  have RB0 := hid (RA (rowN m B) (by simp [rowsM]))
  have RC0 := hid (RA (rowN q C) (by simp [rowsM]))
  have HAB := hid h.ab
  have HAC := hid h.ac
  have HBC := hid h.bc
  clear h RA
  have hb : Below w.heap.size w (w.alloc (.cells #[.int .i64 S, .int .i64 L, .slice A n c, .slice B m d, .slice C q f] 30)) := (Below.refl _ _).alloc (Nat.le_refl _) _
  have BEL := hid hb
  have PM := hid (show MachAt (w.alloc (.cells #[.int .i64 S, .int .i64 L, .slice A n c, .slice B m d, .slice C q f] 30)) w.heap.size S L A n c B m d C q f from ⟨by go_simp, by go_simp, by go_simp, by go_simp, by go_simp⟩)
  have hz : w.heap.size < (w.alloc (.cells #[.int .i64 S, .int .i64 L, .slice A n c, .slice B m d, .slice C q f] 30)).heap.size := by simp
  clear hb
  go_enter Try.func17, Try.ntmps17
  go_wp2_with fail
  refine (T1.out _ HO.out.a).mono ?_
  rintro e w1 ⟨rfl, o1, k1, z1⟩
  generalize w.alloc (.cells #[.int .i64 S, .int .i64 L, .slice A n c, .slice B m d, .slice C q f] 30) = w0 at *
  have OA := hid o1
  have OB := hid (HO.out.b.apart k1 fun g hg r hr e => by simp at hr; subst hr; exact HAB.out g e.symm hg)
  have OC := hid (HO.out.c.apart k1 fun g hg r hr e => by simp at hr; subst hr; exact HAC.out g e.symm hg)
  have c3 : w1.cell? ⟨w.heap.size, 3, none⟩ = some (.slice B m d) := (k1.cell hz (fun r hr => by simp at hr; subst hr; exact RA0.out) 3).trans PM.out.c3
  have c4 : w1.cell? ⟨w.heap.size, 4, none⟩ = some (.slice C q f) := (k1.cell hz (fun r hr => by simp at hr; subst hr; exact RA0.out) 4).trans PM.out.c4
  have K1 := hid (show Kept w0 w1 (rowsM n A m B q C) from k1.more fun r hr => by simp at hr; subst hr; simp [rowsM])
  have hz1 : w.heap.size < w1.heap.size := by omega
  clear o1 k1 HO
  go_wp2_with fail
  refine (T2.out _ OB.out).mono ?_
  rintro e w2 ⟨rfl, o2, k2, z2⟩
  have OA2 := hid (OA.out.apart k2 fun g hg r hr e => by simp at hr; subst hr; exact HAB.out g hg e.symm)
  have OB2 := hid o2
  have OC2 := hid (OC.out.apart k2 fun g hg r hr e => by simp at hr; subst hr; exact HBC.out g e.symm hg)
  have c4' : w2.cell? ⟨w.heap.size, 4, none⟩ = some (.slice C q f) := (k2.cell hz1 (fun r hr => by simp at hr; subst hr; exact RB0.out) 4).trans c4
  have K2 := hid (K1.out.trans (k2.more fun r hr => by simp at hr; subst hr; simp [rowsM]))
  clear o2 k2 OA OB OC K1 c3 c4
  go_wp2_with fail
  refine (T3.out _ OC2.out).mono ?_
  rintro e w3 ⟨rfl, o3, k3, z3⟩
  have OA3 := hid (OA2.out.apart k3 fun g hg r hr e => by simp at hr; subst hr; exact HAC.out g hg e.symm)
  have OB3 := hid (OB2.out.apart k3 fun g hg r hr e => by simp at hr; subst hr; exact HBC.out g hg e.symm)
  have OC3 := hid o3
  have K3 := hid (K2.out.trans (k3.more fun r hr => by simp at hr; subst hr; simp [rowsM]))
  clear o3 k3 OA2 OB2 OC2 K2 c4'
  go_wp2_with fail
  go_ret
  exact ⟨rfl, ⟨OA3.out, OB3.out, OC3.out, HAB.out, HAC.out, HBC.out⟩, (Kept.of_below BEL.out _).trans K3.out⟩
end Go.Proofs.Ytenfleceeeimlaa.Num
