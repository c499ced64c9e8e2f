/-
  The laws' marks in a plain machine; its copy, with lists of its own.
-/
import Derived.Test.YtlfmcdobiojdlaaOwnB
import Derived.Test.YtlfmcdobiojdlaaMark
import Derived.Test.YtlfmcdobiojdlaaSpecValid
namespace Go.Proofs.Ytlfmcdobiojdlaa.Num
open Go.RowKit Go.Proofs.Fl
set_option linter.unusedVariables false
set_option linter.unusedSimpArgs false
/-- a plain machine's lists, readable -/
structure ListsP (w : World) (A B : Option Addr) (xs : List Int) (bs : List Bool) : Prop where
  a : Rd w w.heap.size A (i64s xs)
  b : Rd w w.heap.size B (bools bs)
theorem ListsP.step {w w' : World} {A B : Option Addr} {xs : List Int} {bs : List Bool} (h : ListsP w A B xs bs) (hb : Below w.heap.size w w') : ListsP w' A B xs bs := ⟨rd_step h.a hb, rd_step h.b hb⟩
theorem ListsP.alloc {w : World} {A B : Option Addr} {xs : List Int} {bs : List Bool} (h : ListsP w A B xs bs) (o : Obj) : ListsP (w.alloc o) A B xs bs := ⟨rd_alloc h.a o, rd_alloc h.b o⟩
theorem ListsP.drewN {w : World} {A B : Option Addr} {xs : List Int} {bs : List Bool} (h : ListsP w A B xs bs) (k : Nat) : ListsP (w.drewN k) A B xs bs := ⟨h.a, h.b⟩
theorem ListsP.drew {w : World} {A B : Option Addr} {xs : List Int} {bs : List Bool} (h : ListsP w A B xs bs) : ListsP w.drew A B xs bs := ⟨h.a, h.b⟩
theorem PlainAt.drew {w : World} {b : Nat} {S L : Int} {A : Option Addr} {n c : Nat} {B : Option Addr} {m d : Nat} (h : PlainAt w b S L A n c B m d) : PlainAt w.drew b S L A n c B m d := ⟨h.c0, h.c1, h.c2, h.c3⟩
theorem PlainAt.keep {w w' : World} {b : Nat} {S L : Int} {A : Option Addr} {n c : Nat} {B : Option Addr} {m d : Nat} (h : PlainAt w b S L A n c B m d) (hk : ∀ o, w'.cell? ⟨b, o, none⟩ = w.cell? ⟨b, o, none⟩) : PlainAt w' b S L A n c B m d :=
  ⟨(hk _).trans h.c0, (hk _).trans h.c1, (hk _).trans h.c2, (hk _).trans h.c3⟩
theorem PlainAt.step {w w' : World} {b : Nat} {S L : Int} {A : Option Addr} {n c : Nat} {B : Option Addr} {m d : Nat} (h : PlainAt w b S L A n c B m d) (hb : Below w.heap.size w w') (hl : b < w.heap.size) : PlainAt w' b S L A n c B m d :=
  h.keep fun o => (old_cell hb).1 b o hl
structure FitsP (n m : Nat) (xs : List Int) (bs : List Bool) : Prop where
  x : xs.length = n
  b : bs.length = m
  n : n ≤ 1048576
  m : m ≤ 1048576
/-- a plain machine whose lists a call owns, each in a block of its own -/
structure OwnP (w : World) (A : Option Addr) (n c : Nat) (B : Option Addr) (m d : Nat) (xs : List Int) (bs : List Bool) : Prop where
  a : OwnL w 2 1 A n c xs
  b : OwnB w B m d bs
  ab : ∀ g, rowN n A = some g → rowN m B ≠ some g
def rowsP (n : Nat) (A : Option Addr) (m : Nat) (B : Option Addr) : List (Option Nat) := [rowN n A, rowN m B]
/-- they all lie from lo on, below hi -/
def Within (lo hi : Nat) (R : List (Option Nat)) : Prop := ∀ r ∈ R, ∀ g, r = some g → lo ≤ g ∧ g < hi
theorem Within.mono {lo hi lo' hi' : Nat} {R : List (Option Nat)} (h : Within lo hi R) (h1 : lo' ≤ lo) (h2 : hi ≤ hi') : Within lo' hi' R := fun r hr g hg => by have := h r hr g hg; omega
section
variable {w w' : World} {A : Option Addr} {n c : Nat} {B : Option Addr} {m d : Nat} {xs : List Int} {bs : List Bool}
theorem OwnP.step (h : OwnP w A n c B m d xs bs) (hb : Below w.heap.size w w') : OwnP w' A n c B m d xs bs := ⟨h.a.step hb, h.b.step hb, h.ab⟩
theorem OwnP.lists (h : OwnP w A n c B m d xs bs) : ListsP w A B xs bs := ⟨h.a.rd, h.b.rd⟩
theorem OwnP.apart {R : List (Option Nat)} {lo hi lo' hi' : Nat} (h : OwnP w A n c B m d xs bs) (hk : Kept w w' R) (h1 : Within lo hi (rowsP n A m B)) (h2 : Within lo' hi' R) (hd : hi ≤ lo' ∨ hi' ≤ lo) : OwnP w' A n c B m d xs bs := by
  have key : ∀ r0 ∈ rowsP n A m B, ∀ g, r0 = some g → ∀ r ∈ R, some g ≠ r := fun r0 h0 g hg r hr e => by
    have a1 := h1 r0 h0 g hg
    have a2 := h2 r hr g e.symm
    omega
  exact ⟨h.a.apart hk (key _ (by simp [rowsP])), h.b.apart hk (key _ (by simp [rowsP])), h.ab⟩
theorem OwnP.within (h : OwnP w A n c B m d xs bs) : Within 0 w.heap.size (rowsP n A m B) := by
  intro r hr g hg
  simp only [rowsP, List.mem_cons, List.not_mem_nil, or_false] at hr
  rcases hr with rfl | rfl
  · exact ⟨Nat.zero_le _, h.a.row_lt hg⟩
  · exact ⟨Nat.zero_le _, h.b.row_lt hg⟩
end
def RetMarkP (A : Option Addr) (n c : Nat) (B : Option Addr) (m d k : Nat) (w : World) (e : Ending) (w' : World) : Prop :=
  e = .returned (.int .i64 ((k + n + m : Nat) : Int)) ∧ OwnP w' A n c B m d (seqI k n) (seqB (k + n) m) ∧ Kept w w' (rowsP n A m B)
set_option maxHeartbeats 1600000 in
theorem markPlain_calls (S L : Int) (A : Option Addr) (n c : Nat) (B : Option Addr) (m d : Nat) (xs : List Int) (bs : List Bool) (k : Nat) (hn : n ≤ 1048576) (hm : m ≤ 1048576) (hk : k ≤ 1048576) (w : World) (h : OwnP w A n c B m d xs bs) :
    Calls Try.prog 30 #[.agg #[.int .i64 S, .int .i64 L, .slice A n c, .slice B m d], .int .i64 (k : Int)] w (RetMarkP A n c B m d k w) := by
  have HO := hid (h.step ((Below.refl _ _).alloc (Nat.le_refl _) (.cells #[.int .i64 S, .int .i64 L, .slice A n c, .slice B m d] 31)))
  have HW := hid h.within
  have T1 := hid (markInt64S_calls A n c xs k hn (by omega))
  have T2 := hid (markBoolS_calls B m d bs (k + n) hm (by omega))
  have RA : ∀ r ∈ rowsP n A m B, some w.heap.size ≠ r := fun r hr e => by have := (HW.out r hr _ e.symm).2; omega
  have RA0 := hid (RA (rowN n A) (by simp [rowsP]))
  have RB0 := hid (RA (rowN m B) (by simp [rowsP]))
  have HAB := hid h.ab
  clear h RA
  have hb : Below w.heap.size w (w.alloc (.cells #[.int .i64 S, .int .i64 L, .slice A n c, .slice B m d] 31)) := (Below.refl _ _).alloc (Nat.le_refl _) _
  have BEL := hid hb
  have PM := hid (show PlainAt (w.alloc (.cells #[.int .i64 S, .int .i64 L, .slice A n c, .slice B m d] 31)) w.heap.size S L A n c B m d from ⟨by go_simp, by go_simp, by go_simp, by go_simp⟩)
  have hz : w.heap.size < (w.alloc (.cells #[.int .i64 S, .int .i64 L, .slice A n c, .slice B m d] 31)).heap.size := by simp
  clear hb
  go_enter Try.func30, Try.ntmps30
  go_wp2_with fail
  refine (T1.out _ HO.out.a).mono ?_
  rintro e w1 ⟨rfl, o1, k1, z1⟩
  generalize w.alloc (.cells #[.int .i64 S, .int .i64 L, .slice A n c, .slice B m d] 31) = w0 at *
  have OA := hid o1
  have OBB := hid (HO.out.b.apart k1 fun g hg r hr e => by simp at hr; subst hr; exact HAB.out g e.symm hg)
  have c3 : w1.cell? ⟨w.heap.size, 3, none⟩ = some (.slice B m d) := (k1.cell hz (fun r hr => by simp at hr; subst hr; exact RA0.out) 3).trans PM.out.c3
  have K1 := hid (show Kept w0 w1 (rowsP n A m B) from k1.more fun r hr => by simp at hr; subst hr; simp [rowsP])
  clear o1 k1 HO
  go_wp2_with fail
  refine (T2.out _ OBB.out).mono ?_
  rintro e w2 ⟨rfl, o2, k2, z2⟩
  have OA2 := hid (OA.out.apart k2 fun g hg r hr e => by simp at hr; subst hr; exact HAB.out g hg e.symm)
  have OB2 := hid o2
  have K2 := hid (K1.out.trans (k2.more fun r hr => by simp at hr; subst hr; simp [rowsP]))
  clear o2 k2 OA OBB K1 c3
  go_wp2_with fail
  go_ret
  exact ⟨rfl, ⟨OA2.out, OB2.out, HAB.out⟩, (Kept.of_below BEL.out _).trans K2.out⟩
set_option maxHeartbeats 1600000 in
theorem heldPlain_calls (S L : Int) (A : Option Addr) (n c : Nat) (B : Option Addr) (m d : Nat) (k : Nat) (hn : n ≤ 1048576) (hm : m ≤ 1048576) (hk : k ≤ 1048576) (w : World) (h : ListsP w A B (seqI k n) (seqB (k + n) m)) :
    Calls Try.prog 31 #[.agg #[.int .i64 S, .int .i64 L, .slice A n c, .slice B m d], .int .i64 (k : Int)] w (RetG (.int .i64 ((k + n + m : Nat) : Int)) w) := by
  have HL := hid h
  have T1 := hid (heldInt64S_calls A n c k hn (by omega))
  have T2 := hid (heldBoolS_calls B m d (k + n) hm (by omega))
  clear h
  have h1 : ¬ ((k + n : Nat) : Int) < 0 := by omega
  have h2 : ¬ ((k + n + m : Nat) : Int) < 0 := by omega
  generalize k + n + m = k2 at *
  generalize k + n = k1 at *
  go_enter Try.func31, Try.ntmps31
  go_wp2_with fail
  refine (T1.out _ (HL.out.alloc _).a).mono ?_
  rintro e w1 ⟨rfl, j1, rfl⟩
  go_wp2_with fail
  refine (T2.out _ ((HL.out.alloc _).drewN _).b).mono ?_
  rintro e w1 ⟨rfl, j2, rfl⟩
  go_wp2_with fail
  go_ret
  exact ⟨rfl, below_drewN ((Below.refl _ _).alloc (Nat.le_refl _) _) _⟩
end Go.Proofs.Ytlfmcdobiojdlaa.Num
