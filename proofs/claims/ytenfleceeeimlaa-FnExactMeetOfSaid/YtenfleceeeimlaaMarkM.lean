/-
  The laws' marks in a machine, and their reading.
-/
import Derived.Test.YtenfleceeeimlaaLawM
import Derived.Test.YtenfleceeeimlaaMark
namespace Go.Proofs.Ytenfleceeeimlaa.Num
open Go.RowKit Go.Proofs.Fl
set_option linter.unusedVariables false
set_option linter.unusedSimpArgs false
theorem seqI_ga (k n j : Nat) (h : j < n) : ga (seqI k n) j = ((k + j : Nat) : Int) := by
  unfold ga
  rw [List.getD_eq_getElem?_getD, List.getElem?_eq_getElem (by rw [seqI_len]; exact h), seqI_get _ _ _ h]
  rfl
def RetMarkA (A : Option Addr) (n c k : Nat) (w : World) (e : Ending) (w' : World) : Prop := e = .returned (.int .i64 ((k + n * 4 : Nat) : Int)) ∧ OwnL w' 50 4 A n c (seqI k (n * 4)) ∧ Kept w w' [rowN n A] ∧ w'.heap.size = w.heap.size
set_option maxHeartbeats 1600000 in
theorem markArcS_calls (A : Option Addr) (n c : Nat) (zs : List Int) (k : Nat) (hn : n ≤ 1048576) (hk : k ≤ 1073741824) (w : World) (h : OwnL w 50 4 A n c zs) :
    Calls Try.prog 39 #[.slice A n c, .int .i64 (k : Int)] w (RetMarkA A n c k w) := by
  by_cases hn0 : n = 0
  · subst hn0
    have HO := hid (show OwnL w 50 4 A 0 c (seqI k (0 * 4)) from ⟨by simp [seqI], .inl rfl⟩)
    clear h
    go_enter Try.func39, Try.ntmps39
    go_wp2
    go_loopw [1, 5] (fun q i wr => i = .int .i64 0 ∧ q = .int .i64 (k : Int) ∧ wr = w) (fun _ i _ => 0)
    case atStart => exact ⟨rfl, rfl, rfl⟩
    case round =>
      obtain ⟨rfl, rfl, rfl⟩ := hrel
      go_wp2
      go_ret
      exact ⟨by simp, HO.out, Kept.refl _ _, rfl⟩
  · have hz : zs.length = n * 4 := h.1
    rcases h.2 with h0 | ⟨g, rfl, ho⟩
    · exact absurd h0 hn0
    have HO := hid ho
    have HZ := hid hz
    clear h ho hz
    go_enter Try.func39, Try.ntmps39
    go_wp2
    go_loopw [1, 5] (fun q i wr => ∃ j : Nat, j ≤ n ∧ i = .int .i64 j ∧ q = .int .i64 ((k + j * 4 : Nat) : Int) ∧ Hid (wr.ownsRow g 50 4 (.slice (some ⟨g, 0, none⟩) n c) n (i64s (mixS zs k (n * 4) (j * 4)))) ∧ Hid (Kept w wr [some g] ∧ wr.heap.size = w.heap.size)) (fun _ i _ => n - (intOf i).toNat)
    case atStart => exact ⟨0, Nat.zero_le _, rfl, rfl, by rw [Nat.zero_mul, mixS_zero _ _ _ HZ.out]; exact HO, ⟨Kept.refl _ _, rfl⟩⟩
    case round =>
      obtain ⟨j, hj, rfl, rfl, hown, hkept⟩ := hrel
      by_cases hlt : j < n
      · have hold : ∀ r, r < n * 4 → ∃ u, wr.cell? ⟨g, r, none⟩ = some u := fun r hr => by
          rw [World.ownsRow.cellAt hown.out r (by omega)]
          exact ⟨_, List.getElem?_eq_getElem (by rw [i64s_length, mixS_len]; exact hr)⟩
        obtain ⟨u0, hold0⟩ := hold (j * 4) (by omega)
        obtain ⟨u1, hold1⟩ := hold (j * 4 + 1) (by omega)
        obtain ⟨u2, hold2⟩ := hold (j * 4 + 2) (by omega)
        obtain ⟨u3, hold3⟩ := hold (j * 4 + 3) (by omega)
        have f0 := World.ownsRow.frozenAt hown.out (j * 4)
        have f1 := World.ownsRow.frozenAt hown.out (j * 4 + 1)
        have f2 := World.ownsRow.frozenAt hown.out (j * 4 + 2)
        have f3 := World.ownsRow.frozenAt hown.out (j * 4 + 3)
        have s0 := (World.ownsRow.stored hown.out (j * 4) (.int .i64 ((k + j * 4 : Nat) : Int))).1
        have s1 := (World.ownsRow.stored s0 (j * 4 + 1) (.int .i64 ((k + j * 4 + 1 : Nat) : Int))).1
        have s2 := (World.ownsRow.stored s1 (j * 4 + 2) (.int .i64 ((k + j * 4 + 1 + 1 : Nat) : Int))).1
        have s3 := (World.ownsRow.stored s2 (j * 4 + 3) (.int .i64 ((k + j * 4 + 1 + 1 + 1 : Nat) : Int))).1
        have e : ((((i64s (mixS zs k (n * 4) (j * 4))).set (j * 4) (.int .i64 ((k + j * 4 : Nat) : Int))).set (j * 4 + 1) (.int .i64 ((k + j * 4 + 1 : Nat) : Int))).set (j * 4 + 2) (.int .i64 ((k + j * 4 + 1 + 1 : Nat) : Int))).set (j * 4 + 3) (.int .i64 ((k + j * 4 + 1 + 1 + 1 : Nat) : Int)) = i64s (mixS zs k (n * 4) ((j + 1) * 4)) := by
          rw [show (j + 1) * 4 = j * 4 + 1 + 1 + 1 + 1 by omega, ← mixS_set zs k (n * 4) (j * 4 + 1 + 1 + 1) (by omega), ← mixS_set zs k (n * 4) (j * 4 + 1 + 1) (by omega), ← mixS_set zs k (n * 4) (j * 4 + 1) (by omega), ← mixS_set zs k (n * 4) (j * 4) (by omega)]
          unfold i64s
          rw [List.map_set, List.map_set, List.map_set, List.map_set]
          rfl
        rw [e] at s3
        have HS := hid s3
        have HK := hid (show Kept w ((((wr.setCell ⟨g, j * 4, none⟩ (.int .i64 ((k + j * 4 : Nat) : Int))).setCell ⟨g, j * 4 + 1, none⟩ (.int .i64 ((k + j * 4 + 1 : Nat) : Int))).setCell ⟨g, j * 4 + 2, none⟩ (.int .i64 ((k + j * 4 + 1 + 1 : Nat) : Int))).setCell ⟨g, j * 4 + 3, none⟩ (.int .i64 ((k + j * 4 + 1 + 1 + 1 : Nat) : Int))) [some g] ∧ ((((wr.setCell ⟨g, j * 4, none⟩ (.int .i64 ((k + j * 4 : Nat) : Int))).setCell ⟨g, j * 4 + 1, none⟩ (.int .i64 ((k + j * 4 + 1 : Nat) : Int))).setCell ⟨g, j * 4 + 2, none⟩ (.int .i64 ((k + j * 4 + 1 + 1 : Nat) : Int))).setCell ⟨g, j * 4 + 3, none⟩ (.int .i64 ((k + j * 4 + 1 + 1 + 1 : Nat) : Int))).heap.size = w.heap.size from ⟨(((hkept.out.1.set (by simp) _).set (by simp) _).set (by simp) _).set (by simp) _, by simp [World.setCell]; exact hkept.out.2⟩)
        clear s0 s1 s2 s3 e hown hkept hold
        generalize hq : k + j * 4 = q at *
        have hqb : q ≤ 1078034432 := by omega
        go_wp2
        go_roundw
        case rel => exact ⟨j + 1, hlt, by go_num, by rw [show k + (j + 1) * 4 = q + 4 by omega]; go_num, by simpa using HS, by simpa using HK⟩
        case measure => simp [intOf]; omega
      · have he : j = n := by omega
        subst he
        have HO2 := hid (show OwnL wr 50 4 (some ⟨g, 0, none⟩) j c (seqI k (j * 4)) from ⟨by rw [seqI_len], .inr ⟨g, rfl, by rw [← mixS_all zs k (j * 4) (j * 4) (Nat.le_refl _)]; exact hown.out⟩⟩)
        clear hown
        go_wp2
        go_ret
        exact ⟨rfl, HO2.out, by rw [rowN_some hn0]; exact hkept.out.1, hkept.out.2⟩
set_option maxHeartbeats 1600000 in
theorem heldArcS_calls (A : Option Addr) (n c : Nat) (k : Nat) (hn : n ≤ 1048576) (hk : k ≤ 1073741824) (w : World) (h : Rd w w.heap.size A (i64s (seqI k (n * 4)))) :
    Calls Try.prog 40 #[.slice A n c, .int .i64 (k : Int)] w (Ret (.int .i64 ((k + n * 4 : Nat) : Int)) w) := by
  have HR := hid h
  clear h
  go_enter Try.func40, Try.ntmps40
  go_wp2
  go_loopw [1, 5] (fun q i wr => ∃ j : Nat, j ≤ n ∧ i = .int .i64 j ∧ q = .int .i64 ((k + j * 4 : Nat) : Int) ∧ wr = w) (fun _ i _ => n - (intOf i).toNat)
  case atStart => exact ⟨0, Nat.zero_le _, rfl, rfl, rfl⟩
  case round =>
    obtain ⟨j, hj, rfl, rfl, rfl⟩ := hrel
    by_cases hlt : j < n
    · obtain ⟨b1, o1, rfl, hb1, c0, c1, c2, c3⟩ := arcs_at HR.out (seqI_len _ _) hlt
      rw [seqI_ga _ _ _ (by omega)] at c0 c1 c2 c3
      rw [← Nat.add_assoc] at c1 c2 c3
      generalize hq : k + j * 4 = q at *
      have hqb : q ≤ 1078034432 := by omega
      have q0 : ((q : Int) != (q : Int)) = false := bne_self_eq_false _
      go_wp2
      go_roundw
      case rel => exact ⟨j + 1, hlt, by go_num, by rw [show k + (j + 1) * 4 = q + 4 by omega]; go_num, trivial⟩
      case measure => simp [intOf]; omega
    · have he : j = n := by omega
      subst he
      go_wp2
      go_ret
      exact ⟨rfl, 0, rfl⟩
/-- a machine whose lists a call owns, each in a block of its own -/
structure OwnM (w : World) (A : Option Addr) (n c : Nat) (B : Option Addr) (m d : Nat) (C : Option Addr) (q f : Nat) (zs xs ys : List Int) : Prop where
  a : OwnL w 50 4 A n c zs
  b : OwnL w 2 1 B m d xs
  c : OwnL w 2 1 C q f ys
  ab : ∀ g, rowN n A = some g → rowN m B ≠ some g
  ac : ∀ g, rowN n A = some g → rowN q C ≠ some g
  bc : ∀ g, rowN m B = some g → rowN q C ≠ some g
/-- the blocks of a machine's lists -/
def rowsM (n : Nat) (A : Option Addr) (m : Nat) (B : Option Addr) (q : Nat) (C : Option Addr) : List (Option Nat) := [rowN n A, rowN m B, rowN q C]
/-- they all lie from lo on, below hi -/
def Within (lo hi : Nat) (R : List (Option Nat)) : Prop := ∀ r ∈ R, ∀ g, r = some g → lo ≤ g ∧ g < hi
theorem Within.mono {lo hi lo' hi' : Nat} {R : List (Option Nat)} (h : Within lo hi R) (h1 : lo' ≤ lo) (h2 : hi ≤ hi') : Within lo' hi' R := fun r hr g hg => by have := h r hr g hg; omega
section
variable {w w' : World} {A : Option Addr} {n c : Nat} {B : Option Addr} {m d : Nat} {C : Option Addr} {q f : Nat} {zs xs ys : List Int}
theorem OwnM.step (h : OwnM w A n c B m d C q f zs xs ys) (hb : Below w.heap.size w w') : OwnM w' A n c B m d C q f zs xs ys := ⟨h.a.step hb, h.b.step hb, h.c.step hb, h.ab, h.ac, h.bc⟩
theorem OwnM.lists (h : OwnM w A n c B m d C q f zs xs ys) : Lists w A B C zs xs ys := ⟨h.a.rd, h.b.rd, h.c.rd⟩
/-- kept while blocks of another range are written -/
theorem OwnM.apart {R : List (Option Nat)} {lo hi lo' hi' : Nat} (h : OwnM w A n c B m d C q f zs xs ys) (hk : Kept w w' R) (h1 : Within lo hi (rowsM n A m B q C)) (h2 : Within lo' hi' R) (hd : hi ≤ lo' ∨ hi' ≤ lo) : OwnM w' A n c B m d C q f zs xs ys := by
  have key : ∀ r0 ∈ rowsM n A m B q C, ∀ g, r0 = some g → ∀ r ∈ R, some g ≠ r := fun r0 h0 g hg r hr e => by
    have a1 := h1 r0 h0 g hg
    have a2 := h2 r hr g e.symm
    omega
  exact ⟨h.a.apart hk (key _ (by simp [rowsM])), h.b.apart hk (key _ (by simp [rowsM])), h.c.apart hk (key _ (by simp [rowsM])), h.ab, h.ac, h.bc⟩
theorem OwnM.within (h : OwnM w A n c B m d C q f zs xs ys) : Within 0 w.heap.size (rowsM n A m B q C) := by
  intro r hr g hg
  simp only [rowsM, List.mem_cons, List.not_mem_nil, or_false] at hr
  rcases hr with rfl | rfl | rfl
  · exact ⟨Nat.zero_le _, h.a.row_lt hg⟩
  · exact ⟨Nat.zero_le _, h.b.row_lt hg⟩
  · exact ⟨Nat.zero_le _, h.c.row_lt hg⟩
end
theorem NewM.own {base : Nat} {w : World} {g0 g1 g2 n m q : Nat} {zs xs ys : List Int} (h : NewM base w g0 g1 g2 n m q zs xs ys) : OwnM w (some ⟨g0, 0, none⟩) n n (some ⟨g1, 0, none⟩) m m (some ⟨g2, 0, none⟩) q q zs xs ys := by
  have h1 := h.l1
  have h2 := h.l2
  refine ⟨⟨h.a.len, .inr ⟨g0, rfl, h.a⟩⟩, h.s.ownL, h.e.ownL, fun g hg e => ?_, fun g hg e => ?_, fun g hg e => ?_⟩
  all_goals
    unfold rowN at hg e
    split at hg
    · cases hg
    · split at e
      · cases e
      · simp [blk] at hg e
        omega
theorem NewM.rows {base : Nat} {w : World} {g0 g1 g2 n m q : Nat} {zs xs ys : List Int} (h : NewM base w g0 g1 g2 n m q zs xs ys) : Within base w.heap.size (rowsM n (some ⟨g0, 0, none⟩) m (some ⟨g1, 0, none⟩) q (some ⟨g2, 0, none⟩)) := by
  intro r hr g hg
  have hh := (h.own.within r hr g hg).2
  refine ⟨?_, hh⟩
  have h0 := h.lo
  have h1 := h.l1
  have h2 := h.l2
  simp only [rowsM, List.mem_cons, List.not_mem_nil, or_false] at hr
  rcases hr with rfl | rfl | rfl
  all_goals
    unfold rowN at hg
    split at hg
    · cases hg
    · simp [blk] at hg
      omega
def RetMarkM (A : Option Addr) (n c : Nat) (B : Option Addr) (m d : Nat) (C : Option Addr) (q f k : Nat) (w : World) (e : Ending) (w' : World) : Prop :=
  e = .returned (.int .i64 ((k + n * 4 + m + q : Nat) : Int)) ∧ OwnM w' A n c B m d C q f (seqI k (n * 4)) (seqI (k + n * 4) m) (seqI (k + n * 4 + m) q) ∧ Kept w w' (rowsM n A m B q C)
set_option maxHeartbeats 1600000 in
theorem markMachine_calls (S L : Int) (A : Option Addr) (n c : Nat) (B : Option Addr) (m d : Nat) (C : Option Addr) (q f : Nat) (zs xs ys : List Int) (k : Nat) (hn : n ≤ 1048576) (hm : m ≤ 1048576) (hq : q ≤ 1048576) (hk : k ≤ 1048576) (w : World) (h : OwnM w A n c B m d C q f zs xs ys) :
    Calls Try.prog 17 #[.agg #[.int .i64 S, .int .i64 L, .slice A n c, .slice B m d, .slice C q f], .int .i64 (k : Int)] w (RetMarkM A n c B m d C q f k w) := by
  have HO := hid (h.step ((Below.refl _ _).alloc (Nat.le_refl _) (.cells #[.int .i64 S, .int .i64 L, .slice A n c, .slice B m d, .slice C q f] 30)))
  have HW := hid h.within
  have T1 := hid (markArcS_calls A n c zs k hn (by omega))
  have T2 := hid (markInt64S_calls B m d xs (k + n * 4) hm (by omega))
  have T3 := hid (markInt64S_calls C q f ys (k + n * 4 + m) hq (by omega))
  have RA : ∀ r ∈ rowsM n A m B q C, some w.heap.size ≠ r := fun r hr e => by have := (HW.out r hr _ e.symm).2; omega
  have RA0 := hid (RA (rowN n A) (by simp [rowsM]))
  have RB0 := hid (RA (rowN m B) (by simp [rowsM]))
  have RC0 := hid (RA (rowN q C) (by simp [rowsM]))
  have HAB := hid h.ab
  have HAC := hid h.ac
  have HBC := hid h.bc
  clear h RA
  have hb : Below w.heap.size w (w.alloc (.cells #[.int .i64 S, .int .i64 L, .slice A n c, .slice B m d, .slice C q f] 30)) := (Below.refl _ _).alloc (Nat.le_refl _) _
  have BEL := hid hb
  have PM := hid (show MachAt (w.alloc (.cells #[.int .i64 S, .int .i64 L, .slice A n c, .slice B m d, .slice C q f] 30)) w.heap.size S L A n c B m d C q f from ⟨by go_simp, by go_simp, by go_simp, by go_simp, by go_simp⟩)
  have hz : w.heap.size < (w.alloc (.cells #[.int .i64 S, .int .i64 L, .slice A n c, .slice B m d, .slice C q f] 30)).heap.size := by simp
  clear hb
  go_enter Try.func17, Try.ntmps17
  go_wp2_with fail
  refine (T1.out _ HO.out.a).mono ?_
  rintro e w1 ⟨rfl, o1, k1, z1⟩
  generalize w.alloc (.cells #[.int .i64 S, .int .i64 L, .slice A n c, .slice B m d, .slice C q f] 30) = w0 at *
  have OA := hid o1
  have OB := hid (HO.out.b.apart k1 fun g hg r hr e => by simp at hr; subst hr; exact HAB.out g e.symm hg)
  have OC := hid (HO.out.c.apart k1 fun g hg r hr e => by simp at hr; subst hr; exact HAC.out g e.symm hg)
  have c3 : w1.cell? ⟨w.heap.size, 3, none⟩ = some (.slice B m d) := (k1.cell hz (fun r hr => by simp at hr; subst hr; exact RA0.out) 3).trans PM.out.c3
  have c4 : w1.cell? ⟨w.heap.size, 4, none⟩ = some (.slice C q f) := (k1.cell hz (fun r hr => by simp at hr; subst hr; exact RA0.out) 4).trans PM.out.c4
  have K1 := hid (show Kept w0 w1 (rowsM n A m B q C) from k1.more fun r hr => by simp at hr; subst hr; simp [rowsM])
  have hz1 : w.heap.size < w1.heap.size := by omega
  clear o1 k1 HO
  go_wp2_with fail
  refine (T2.out _ OB.out).mono ?_
  rintro e w2 ⟨rfl, o2, k2, z2⟩
  have OA2 := hid (OA.out.apart k2 fun g hg r hr e => by simp at hr; subst hr; exact HAB.out g hg e.symm)
  have OB2 := hid o2
  have OC2 := hid (OC.out.apart k2 fun g hg r hr e => by simp at hr; subst hr; exact HBC.out g e.symm hg)
  have c4' : w2.cell? ⟨w.heap.size, 4, none⟩ = some (.slice C q f) := (k2.cell hz1 (fun r hr => by simp at hr; subst hr; exact RB0.out) 4).trans c4
  have K2 := hid (K1.out.trans (k2.more fun r hr => by simp at hr; subst hr; simp [rowsM]))
  clear o2 k2 OA OB OC K1 c3 c4
  go_wp2_with fail
  refine (T3.out _ OC2.out).mono ?_
  rintro e w3 ⟨rfl, o3, k3, z3⟩
  have OA3 := hid (OA2.out.apart k3 fun g hg r hr e => by simp at hr; subst hr; exact HAC.out g hg e.symm)
  have OB3 := hid (OB2.out.apart k3 fun g hg r hr e => by simp at hr; subst hr; exact HBC.out g hg e.symm)
  have OC3 := hid o3
  have K3 := hid (K2.out.trans (k3.more fun r hr => by simp at hr; subst hr; simp [rowsM]))
  clear o3 k3 OA2 OB2 OC2 K2 c4'
  go_wp2_with fail
  go_ret
  exact ⟨rfl, ⟨OA3.out, OB3.out, OC3.out, HAB.out, HAC.out, HBC.out⟩, (Kept.of_below BEL.out _).trans K3.out⟩
set_option maxHeartbeats 1600000 in
theorem heldMachine_calls (S L : Int) (A : Option Addr) (n c : Nat) (B : Option Addr) (m d : Nat) (C : Option Addr) (q f : Nat) (k : Nat) (hn : n ≤ 1048576) (hm : m ≤ 1048576) (hq : q ≤ 1048576) (hk : k ≤ 1048576) (w : World) (h : Lists w A B C (seqI k (n * 4)) (seqI (k + n * 4) m) (seqI (k + n * 4 + m) q)) :
    Calls Try.prog 18 #[.agg #[.int .i64 S, .int .i64 L, .slice A n c, .slice B m d, .slice C q f], .int .i64 (k : Int)] w (RetG (.int .i64 ((k + n * 4 + m + q : Nat) : Int)) w) := by
  have HL := hid h
  have T1 := hid (heldArcS_calls A n c k hn (by omega))
  have T2 := hid (heldInt64S_calls B m d (k + n * 4) hm (by omega))
  have T3 := hid (heldInt64S_calls C q f (k + n * 4 + m) hq (by omega))
  clear h
  have h1 : ¬ ((k + n * 4 : Nat) : Int) < 0 := by omega
  have h2 : ¬ ((k + n * 4 + m : Nat) : Int) < 0 := by omega
  have h3 : ¬ ((k + n * 4 + m + q : Nat) : Int) < 0 := by omega
  generalize k + n * 4 + m + q = k3 at *
  generalize k + n * 4 + m = k2 at *
  generalize k + n * 4 = k1 at *
  go_enter Try.func18, Try.ntmps18
  go_wp2_with fail
  refine (T1.out _ (HL.out.alloc _).a).mono ?_
  rintro e w1 ⟨rfl, j1, rfl⟩
  go_wp2_with fail
  refine (T2.out _ ((HL.out.alloc _).drewN _).b).mono ?_
  rintro e w1 ⟨rfl, j2, rfl⟩
  go_wp2_with fail
  refine (T3.out _ ((HL.out.alloc _).drewN _).c).mono ?_
  rintro e w1 ⟨rfl, j3, rfl⟩
  go_wp2_with fail
  go_ret
  exact ⟨rfl, below_drewN ((Below.refl _ _).alloc (Nat.le_refl _) _) _⟩
end Go.Proofs.Ytenfleceeeimlaa.Num
