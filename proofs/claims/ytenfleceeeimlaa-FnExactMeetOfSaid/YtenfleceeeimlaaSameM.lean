/-
  Whether machines are the same, by both texts.
-/
import Derived.Test.YtenfleceeeimlaaEqListM
import Derived.BigQuiet
import Derived.Deep.QuietTactic
namespace Go.Proofs.Ytenfleceeeimlaa.Num
open Go.RowKit Go.Proofs.Fl
set_option linter.unusedVariables false
set_option linter.unusedSimpArgs false
/-- a machine in a block of cells -/
structure MachAt (w : World) (b : Nat) (S L : Int) (A : Option Addr) (n c : Nat) (B : Option Addr) (m d : Nat) (C : Option Addr) (q f : Nat) : Prop where
  c0 : w.cell? ⟨b, 0, none⟩ = some (.int .i64 S)
  c1 : w.cell? ⟨b, 1, none⟩ = some (.int .i64 L)
  c2 : w.cell? ⟨b, 2, none⟩ = some (.slice A n c)
  c3 : w.cell? ⟨b, 3, none⟩ = some (.slice B m d)
  c4 : w.cell? ⟨b, 4, none⟩ = some (.slice C q f)
theorem MachAt.drewN {w : World} {b : Nat} {S L : Int} {A : Option Addr} {n c : Nat} {B : Option Addr} {m d : Nat} {C : Option Addr} {q f : Nat} (h : MachAt w b S L A n c B m d C q f) (k : Nat) : MachAt (w.drewN k) b S L A n c B m d C q f := ⟨h.c0, h.c1, h.c2, h.c3, h.c4⟩
theorem MachAt.keep {w w' : World} {b : Nat} {S L : Int} {A : Option Addr} {n c : Nat} {B : Option Addr} {m d : Nat} {C : Option Addr} {q f : Nat} (h : MachAt w b S L A n c B m d C q f) (hk : ∀ o, w'.cell? ⟨b, o, none⟩ = w.cell? ⟨b, o, none⟩) : MachAt w' b S L A n c B m d C q f :=
  ⟨(hk _).trans h.c0, (hk _).trans h.c1, (hk _).trans h.c2, (hk _).trans h.c3, (hk _).trans h.c4⟩
theorem MachAt.step {w w' : World} {b : Nat} {S L : Int} {A : Option Addr} {n c : Nat} {B : Option Addr} {m d : Nat} {C : Option Addr} {q f : Nat} (h : MachAt w b S L A n c B m d C q f) (hb : Below w.heap.size w w') (hl : b < w.heap.size) : MachAt w' b S L A n c B m d C q f :=
  h.keep fun o => (old_cell hb).1 b o hl
def sameM (S L : Int) (zs xs ys : List Int) (S' L' : Int) (zs' xs' ys' : List Int) : Bool := decide (S = S' ∧ L = L' ∧ zs = zs' ∧ xs = xs' ∧ ys = ys')
section
variable (S L : Int) (A : Option Addr) (n c : Nat) (B : Option Addr) (m d : Nat) (C : Option Addr) (q f : Nat) (zs xs ys : List Int) (hz : zs.length = n * 4) (hx : xs.length = m) (hy : ys.length = q) (hn : n ≤ 1048576) (hm : m ≤ 1048576) (hq : q ≤ 1048576)
  (S' L' : Int) (A' : Option Addr) (n' c' : Nat) (B' : Option Addr) (m' d' : Nat) (C' : Option Addr) (q' f' : Nat) (zs' xs' ys' : List Int) (hz' : zs'.length = n' * 4) (hx' : xs'.length = m') (hy' : ys'.length = q') (hn' : n' ≤ 1048576) (hm' : m' ≤ 1048576) (hq' : q' ≤ 1048576)
include hz hx hy hn hm hq hz' hx' hy' hn' hm' hq'
set_option maxHeartbeats 6400000 in
theorem l02Same_calls (b b' : Nat) (w : World) (hp : MachAt w b S L A n c B m d C q f) (hp' : MachAt w b' S' L' A' n' c' B' m' d' C' q' f')
    (ha : Rd w w.heap.size A (i64s zs)) (hb : Rd w w.heap.size B (i64s xs)) (hc : Rd w w.heap.size C (i64s ys)) (ha' : Rd w w.heap.size A' (i64s zs')) (hb' : Rd w w.heap.size B' (i64s xs')) (hc' : Rd w w.heap.size C' (i64s ys')) :
    Calls Try.prog 28 #[.pointer (some ⟨b, 0, none⟩), .pointer (some ⟨b', 0, none⟩)] w (Ret (.bool (sameM S L zs xs ys S' L' zs' xs' ys')) w) := by
  have HZ := hid hz
  have HZ' := hid hz'
  have HP := hid hp
  have HP' := hid hp'
  have HA := hid ha
  have HA' := hid ha'
  have p0 := hp.c0
  have p1 := hp.c1
  have p2 := hp.c2
  have p3 := hp.c3
  have p4 := hp.c4
  have r0 := hp'.c0
  have r1 := hp'.c1
  have r2 := hp'.c2
  have r3 := hp'.c3
  have r4 := hp'.c4
  have HX := fun (v : Bool) (h : decide (xs = xs') = v) (j : Nat) => h ▸ l02Equal_calls B B' m d m' d' xs xs' hx hx' hm hm' (w.drewN j) (hb.drewN j) (hb'.drewN j)
  have HY := fun (v : Bool) (h : decide (ys = ys') = v) (j : Nat) => h ▸ l02Equal_calls C C' q f q' f' ys ys' hy hy' hq hq' (w.drewN j) (hc.drewN j) (hc'.drewN j)
  clear hz hz' hp hp' ha ha' hb hb' hc hc' hx hx' hy hy'
  by_cases hS : S = S'
  case neg =>
    rw [show sameM S L zs xs ys S' L' zs' xs' ys' = false by simp [sameM, hS]]
    clear HX HY HA HA' HZ HZ' HP HP'
    have hS' : (S != S') = true := by simpa using hS
    go_enter Try.func28, Try.ntmps28
    go_wp2_with fail
    go_quiet (fail)
    go_wp2
    go_ret
    exact ⟨rfl, _, rfl⟩
  subst hS
  have SS : (S != S) = false := bne_self_eq_false _
  by_cases hL : L = L'
  case neg =>
    rw [show sameM S L zs xs ys S L' zs' xs' ys' = false by simp [sameM, hL]]
    clear HX HY HA HA' HZ HZ' HP HP'
    have hL' : (L != L') = true := by simpa using hL
    go_enter Try.func28, Try.ntmps28
    go_wp2_with fail
    go_quiet (fail)
    go_wp2
    go_ret
    exact ⟨rfl, _, rfl⟩
  subst hL
  have LL : (L != L) = false := bne_self_eq_false _
  by_cases hnm : n = n'
  case neg =>
    have hbc := len_ne HZ.out HZ'.out (show n * 4 ≠ n' * 4 by omega)
    rw [show sameM S L zs xs ys S L zs' xs' ys' = false by simp [sameM, hbc]]
    clear hbc HX HY HA HA' HZ HZ' HP HP'
    have hnm' : ((n : Int) != (n' : Int)) = true := by simp; omega
    go_enter Try.func28, Try.ntmps28
    go_wp2_with fail
    go_quiet (fail)
    go_wp2
    go_ret
    exact ⟨rfl, _, rfl⟩
  subst hnm
  have MM : ((n : Int) != (n : Int)) = false := bne_self_eq_false _
  by_cases hX : xs = xs'
  case neg =>
    rw [show sameM S L zs xs ys S L zs' xs' ys' = false by simp [sameM, hX]]
    have HX := hid (HX false (by simp [hX]))
    clear hX HY HA HA' HZ HZ' HP HP'
    go_enter Try.func28, Try.ntmps28
    go_wp2_with fail
    go_quiet ((go_at_call 51; exact Calls.quiet_of (HX.out _)))
    go_wp2
    go_ret
    exact ⟨rfl, _, rfl⟩
  have HX := hid (HX true (by simp [hX]))
  by_cases hY : ys = ys'
  case neg =>
    rw [show sameM S L zs xs ys S L zs' xs' ys' = false by simp [sameM, hY]]
    have HY := hid (HY false (by simp [hY]))
    clear hX hY HA HA' HZ HZ' HP HP'
    go_enter Try.func28, Try.ntmps28
    go_wp2_with fail
    go_quiet ((first | (go_at_call_of 51 d; exact Calls.quiet_of (HX.out _)) | (go_at_call_of 51 f; exact Calls.quiet_of (HY.out _))))
    go_wp2
    go_ret
    exact ⟨rfl, _, rfl⟩
  have HY := hid (HY true (by simp [hY]))
  rw [show sameM S L zs xs ys S L zs' xs' ys' = decide (zs = zs') by simp [sameM, hX, hY]]
  clear hX hY
  go_enter Try.func28, Try.ntmps28
  go_wp2_with fail
  go_quiet ((first | (go_at_call_of 51 d; exact Calls.quiet_of (HX.out _)) | (go_at_call_of 51 f; exact Calls.quiet_of (HY.out _))))
  clear HX HY
  go_wp2_with fail
  go_loopw [5] (fun i wr => ∃ k : Nat, k ≤ n ∧ i = .int .i64 k ∧ Hid (zs.take (k * 4) = zs'.take (k * 4)) ∧ Hid (∃ j, wr = w.drewN j)) (fun i _ => n - (intOf i).toNat)
  case atStart => exact ⟨0, Nat.zero_le _, rfl, rfl, ⟨_, rfl⟩⟩
  case round =>
    obtain ⟨k, hk, rfl, heq, hdr⟩ := hrel
    have c2 : wr.cell? ⟨b, 2, none⟩ = some (.slice A n c) := by obtain ⟨j, rfl⟩ := hdr.out; exact p2
    have c2' : wr.cell? ⟨b', 2, none⟩ = some (.slice A' n c') := by obtain ⟨j, rfl⟩ := hdr.out; exact r2
    clear p0 p1 p2 p3 p4 r0 r1 r2 r3 r4
    by_cases hlt : k < n
    · obtain ⟨b1, o1, rfl, hb1, p0', p1', p2', p3'⟩ := arcs_at HA.out HZ.out hlt
      obtain ⟨b2, o2, rfl, hb2, q0', q1', q2', q3'⟩ := arcs_at HA'.out HZ'.out hlt
      have p0 := show wr.cell? _ = _ by obtain ⟨j, rfl⟩ := hdr.out; exact p0'
      have p1 := show wr.cell? _ = _ by obtain ⟨j, rfl⟩ := hdr.out; exact p1'
      have p2 := show wr.cell? _ = _ by obtain ⟨j, rfl⟩ := hdr.out; exact p2'
      have p3 := show wr.cell? _ = _ by obtain ⟨j, rfl⟩ := hdr.out; exact p3'
      have q0 := show wr.cell? _ = _ by obtain ⟨j, rfl⟩ := hdr.out; exact q0'
      have q1 := show wr.cell? _ = _ by obtain ⟨j, rfl⟩ := hdr.out; exact q1'
      have q2 := show wr.cell? _ = _ by obtain ⟨j, rfl⟩ := hdr.out; exact q2'
      have q3 := show wr.cell? _ = _ by obtain ⟨j, rfl⟩ := hdr.out; exact q3'
      clear p0' p1' p2' p3' q0' q1' q2' q3' HP HP' HA HA'
      have hki : (k : Int) < (n : Int) := by omega
      cases hs : sameAt zs zs' k
      · have HT := hid (arcs_ne hs)
        unfold sameAt at hs
        generalize ga zs (k * 4) = x0 at *
        generalize ga zs (k * 4 + 1) = x1 at *
        generalize ga zs (k * 4 + 2) = x2 at *
        generalize ga zs (k * 4 + 3) = x3 at *
        generalize ga zs' (k * 4) = y0 at *
        generalize ga zs' (k * 4 + 1) = y1 at *
        generalize ga zs' (k * 4 + 2) = y2 at *
        generalize ga zs' (k * 4 + 3) = y3 at *
        clear heq
        have hs2 : ¬(x0 = y0 ∧ x1 = y1 ∧ x2 = y2 ∧ x3 = y3) := of_decide_eq_false hs
        have hd : ¬ x0 = y0 ∨ (x0 = y0 ∧ ¬ x1 = y1) ∨ (x0 = y0 ∧ x1 = y1 ∧ ¬ x2 = y2) ∨ (x0 = y0 ∧ x1 = y1 ∧ x2 = y2 ∧ ¬ x3 = y3) := by omega
        clear hs2 hs
        rcases hd with hd | ⟨rfl, hd⟩ | ⟨rfl, rfl, hd⟩ | ⟨rfl, rfl, rfl, hd⟩
        all_goals
          go_wp2_with fail
          go_quiet (fail)
          go_wp2
          go_ret
          exact ⟨ret_bool (by simp [HT.out]), by obtain ⟨j, rfl⟩ := hdr.out; exact ⟨_, World.drewN_drewN _ _ _⟩⟩
      · have HT := hid (arcs_snoc HZ.out HZ'.out hlt heq.out hs)
        unfold sameAt at hs
        have hs2 := of_decide_eq_true hs
        obtain ⟨e0, e1, e2, e3⟩ := hs2
        rw [← e0] at q0
        rw [← e1] at q1
        rw [← e2] at q2
        rw [← e3] at q3
        clear e0 e1 e2 e3 hs heq
        generalize ga zs (k * 4) = x0 at *
        generalize ga zs (k * 4 + 1) = x1 at *
        generalize ga zs (k * 4 + 2) = x2 at *
        generalize ga zs (k * 4 + 3) = x3 at *
        go_wp2_with fail
        go_quiet (fail)
        go_wp2
        go_roundw
        case rel => exact ⟨k + 1, hlt, by go_num, HT, by obtain ⟨j, rfl⟩ := hdr.out; exact ⟨_, World.drewN_drewN _ _ _⟩⟩
        case measure => simp [intOf]; omega
    · have HT := hid (take_eq_all HZ.out HZ'.out (by omega) heq.out)
      go_wp2
      go_ret
      exact ⟨ret_bool (by simp [HT.out]), hdr.out⟩
theorem specSame_calls (w : World)
    (ha : Rd w w.heap.size A (i64s zs)) (hb : Rd w w.heap.size B (i64s xs)) (hc : Rd w w.heap.size C (i64s ys)) (ha' : Rd w w.heap.size A' (i64s zs')) (hb' : Rd w w.heap.size B' (i64s xs')) (hc' : Rd w w.heap.size C' (i64s ys')) :
    Calls Try.prog 9 #[.agg #[.int .i64 S, .int .i64 L, .slice A n c, .slice B m d, .slice C q f], .agg #[.int .i64 S', .int .i64 L', .slice A' n' c', .slice B' m' d', .slice C' q' f']] w (RetG (.bool (sameM S L zs xs ys S' L' zs' xs' ys')) w) := by
  have HS := hid fun (b b' : Nat) (w : World) => l02Same_calls S L A n c B m d C q f zs xs ys hz hx hy hn hm hq S' L' A' n' c' B' m' d' C' q' f' zs' xs' ys' hz' hx' hy' hn' hm' hq' b b' w
  have HA := hid ha
  have HB := hid hb
  have HC := hid hc
  have HA' := hid ha'
  have HB' := hid hb'
  have HC' := hid hc'
  generalize sameM S L zs xs ys S' L' zs' xs' ys' = r at *
  clear ha hb hc ha' hb' hc' hz hx hy hz' hx' hy'
  go_enter Try.func9, Try.ntmps9
  go_wp2_with fail
  refine (HS.out w.heap.size (w.heap.size + 1) _ ⟨by go_simp, by go_simp, by go_simp, by go_simp, by go_simp⟩ ⟨by go_simp, by go_simp, by go_simp, by go_simp, by go_simp⟩ (rd_alloc (rd_alloc HA.out _) _) (rd_alloc (rd_alloc HB.out _) _) (rd_alloc (rd_alloc HC.out _) _) (rd_alloc (rd_alloc HA'.out _) _) (rd_alloc (rd_alloc HB'.out _) _) (rd_alloc (rd_alloc HC'.out _) _)).mono ?_
  rintro e w' ⟨rfl, j, rfl⟩
  go_wp2
  go_ret
  exact ⟨rfl, below_drewN (((Below.refl _ _).alloc (Nat.le_refl _) _).alloc (by simp) _) _⟩
set_option maxHeartbeats 3200000 in
theorem implSame_calls (w : World)
    (ha : Rd w w.heap.size A (i64s zs)) (hb : Rd w w.heap.size B (i64s xs)) (hc : Rd w w.heap.size C (i64s ys)) (ha' : Rd w w.heap.size A' (i64s zs')) (hb' : Rd w w.heap.size B' (i64s xs')) (hc' : Rd w w.heap.size C' (i64s ys')) :
    Calls Try.prog 11 #[.agg #[.int .i64 S, .int .i64 L, .slice A n c, .slice B m d, .slice C q f], .agg #[.int .i64 S', .int .i64 L', .slice A' n' c', .slice B' m' d', .slice C' q' f']] w (RetG (.bool (sameM S L zs xs ys S' L' zs' xs' ys')) w) := by
  have HE := fun (v : Bool) (h : decide (zs = zs') = v) (w : World) (ha : Rd w w.heap.size A (i64s zs)) (ha' : Rd w w.heap.size A' (i64s zs')) => h ▸ equalA_calls A A' n c n' c' zs zs' hz hz' hn hn' w ha ha'
  have HX := fun (v : Bool) (h : decide (xs = xs') = v) (w : World) (ha : Rd w w.heap.size B (i64s xs)) (ha' : Rd w w.heap.size B' (i64s xs')) => h ▸ equalI_calls B B' m d m' d' xs xs' hx hx' hm hm' w ha ha'
  have HY := fun (v : Bool) (h : decide (ys = ys') = v) (w : World) (ha : Rd w w.heap.size C (i64s ys)) (ha' : Rd w w.heap.size C' (i64s ys')) => h ▸ equalI_calls C C' q f q' f' ys ys' hy hy' hq hq' w ha ha'
  have HA := hid ha
  have HB := hid hb
  have HC := hid hc
  have HA' := hid ha'
  have HB' := hid hb'
  have HC' := hid hc'
  clear ha hb hc ha' hb' hc' hz hx hy hz' hx' hy'
  by_cases hS : S = S'
  case neg =>
    rw [show sameM S L zs xs ys S' L' zs' xs' ys' = false by simp [sameM, hS]]
    clear HE HX HY
    have hS' : ¬ S' = S := fun h => hS h.symm
    go_enter Try.func11, Try.ntmps11
    go_wp2_with fail
    go_ret
    exact ⟨rfl, (((Below.refl _ _).alloc (Nat.le_refl _) _).alloc (by simp) _)⟩
  subst hS
  by_cases hL : L = L'
  case neg =>
    rw [show sameM S L zs xs ys S L' zs' xs' ys' = false by simp [sameM, hL]]
    clear HE HX HY
    have hL' : ¬ L' = L := fun h => hL h.symm
    go_enter Try.func11, Try.ntmps11
    go_wp2_with fail
    go_ret
    exact ⟨rfl, (((Below.refl _ _).alloc (Nat.le_refl _) _).alloc (by simp) _)⟩
  subst hL
  by_cases hZ : zs = zs'
  case neg =>
    rw [show sameM S L zs xs ys S L zs' xs' ys' = false by simp [sameM, hZ]]
    have HE := hid (HE false (by simp [hZ]))
    clear HX HY hZ
    go_enter Try.func11, Try.ntmps11
    go_wp2_with fail
    refine (HE.out _ (rd_alloc (rd_alloc HA.out _) _) (rd_alloc (rd_alloc HA'.out _) _)).mono ?_
    rintro e w' ⟨rfl, j, rfl⟩
    go_wp2_with fail
    go_ret
    exact ⟨rfl, below_drewN (((Below.refl _ _).alloc (Nat.le_refl _) _).alloc (by simp) _) _⟩
  have HE := hid (HE true (by simp [hZ]))
  by_cases hX : xs = xs'
  case neg =>
    rw [show sameM S L zs xs ys S L zs' xs' ys' = false by simp [sameM, hX]]
    have HX := hid (HX false (by simp [hX]))
    clear HY hZ hX
    go_enter Try.func11, Try.ntmps11
    go_wp2_with fail
    refine (HE.out _ (rd_alloc (rd_alloc HA.out _) _) (rd_alloc (rd_alloc HA'.out _) _)).mono ?_
    rintro e w' ⟨rfl, j, rfl⟩
    go_wp2_with fail
    refine (HX.out _ ((rd_alloc (rd_alloc HB.out _) _).drewN _) ((rd_alloc (rd_alloc HB'.out _) _).drewN _)).mono ?_
    rintro e w' ⟨rfl, j2, rfl⟩
    go_wp2_with fail
    go_ret
    exact ⟨rfl, below_drewN (((Below.refl _ _).alloc (Nat.le_refl _) _).alloc (by simp) _) _⟩
  have HX := hid (HX true (by simp [hX]))
  rw [show sameM S L zs xs ys S L zs' xs' ys' = decide (ys = ys') by simp [sameM, hZ, hX]]
  have HY := hid (HY _ rfl)
  clear hZ hX
  generalize decide (ys = ys') = r at *
  go_enter Try.func11, Try.ntmps11
  go_wp2_with fail
  refine (HE.out _ (rd_alloc (rd_alloc HA.out _) _) (rd_alloc (rd_alloc HA'.out _) _)).mono ?_
  rintro e w' ⟨rfl, j, rfl⟩
  go_wp2_with fail
  refine (HX.out _ ((rd_alloc (rd_alloc HB.out _) _).drewN _) ((rd_alloc (rd_alloc HB'.out _) _).drewN _)).mono ?_
  rintro e w' ⟨rfl, j2, rfl⟩
  go_wp2_with fail
  refine (HY.out _ ((rd_alloc (rd_alloc HC.out _) _).drewN _) ((rd_alloc (rd_alloc HC'.out _) _).drewN _)).mono ?_
  rintro e w' ⟨rfl, j3, rfl⟩
  go_wp2_with fail
  go_ret
  exact ⟨rfl, below_drewN (((Below.refl _ _).alloc (Nat.le_refl _) _).alloc (by simp) _) _⟩
end
end Go.Proofs.Ytenfleceeeimlaa.Num
