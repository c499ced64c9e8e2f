/-
  Whether plain machines are the same, by both texts.
-/
import Derived.Test.YtlfmcdobiojdlaaEqList
import Derived.Test.YtlfmcdobiojdlaaSpecValid
import Derived.BigQuiet
import Derived.Deep.QuietTactic
namespace Go.Proofs.Ytlfmcdobiojdlaa.Num
open Go.RowKit Go.Proofs.Fl
set_option linter.unusedVariables false
set_option linter.unusedSimpArgs false
def sameP (S L : Int) (xs : List Int) (bs : List Bool) (S' L' : Int) (ys : List Int) (cs : List Bool) : Bool := decide (S = S' ∧ L = L' ∧ xs = ys ∧ bs = cs)
set_option maxHeartbeats 3200000 in
theorem l02SamePlain_calls (b b' : Nat) (S L : Int) (A : Option Addr) (n c : Nat) (B : Option Addr) (m d : Nat) (xs : List Int) (bs : List Bool) (hx : xs.length = n) (hb : bs.length = m) (hn : n ≤ 1048576) (hm : m ≤ 1048576)
    (S' L' : Int) (A' : Option Addr) (n' c' : Nat) (B' : Option Addr) (m' d' : Nat) (ys : List Int) (cs : List Bool) (hy : ys.length = n') (hc : cs.length = m') (hn' : n' ≤ 1048576) (hm' : m' ≤ 1048576) (w : World)
    (hp : PlainAt w b S L A n c B m d) (hp' : PlainAt w b' S' L' A' n' c' B' m' d')
    (ha : Rd w w.heap.size A (i64s xs)) (hbs : Rd w w.heap.size B (bools bs)) (ha' : Rd w w.heap.size A' (i64s ys)) (hbs' : Rd w w.heap.size B' (bools cs)) :
    Calls Try.prog 51 #[.pointer (some ⟨b, 0, none⟩), .pointer (some ⟨b', 0, none⟩)] w (Ret (.bool (sameP S L xs bs S' L' ys cs)) w) := by
  have HB := hid hb
  have HC := hid hc
  have HP := hid hp
  have HP' := hid hp'
  have p0 := hp.c0
  have p1 := hp.c1
  have p2 := hp.c2
  have p3 := hp.c3
  have r0 := hp'.c0
  have r1 := hp'.c1
  have r2 := hp'.c2
  have r3 := hp'.c3
  have HQ := fun (v : Bool) (h : decide (xs = ys) = v) (j : Nat) => h ▸ l02Equal_calls A A' n c n' c' xs ys hx hy hn hn' (w.drewN j) (ha.drewN j) (ha'.drewN j)
  clear hb hc hp hp' ha ha' hx hy
  by_cases hS : S = S'
  case neg =>
    rw [show sameP S L xs bs S' L' ys cs = false by simp [sameP, hS]]
    clear HQ
    have hS' : (S != S') = true := by simpa using hS
    go_enter Try.func51, Try.ntmps51
    go_wp2_with fail
    go_quiet (fail)
    go_wp2
    go_ret
    exact ⟨rfl, _, rfl⟩
  subst hS
  have SS : (S != S) = false := bne_self_eq_false _
  by_cases hL : L = L'
  case neg =>
    rw [show sameP S L xs bs S L' ys cs = false by simp [sameP, hL]]
    clear HQ
    have hL' : (L != L') = true := by simpa using hL
    go_enter Try.func51, Try.ntmps51
    go_wp2_with fail
    go_quiet (fail)
    go_wp2
    go_ret
    exact ⟨rfl, _, rfl⟩
  subst hL
  have LL : (L != L) = false := bne_self_eq_false _
  by_cases hX : xs = ys
  case neg =>
    rw [show sameP S L xs bs S L ys cs = false by simp [sameP, hX]]
    have HQ := hid (HQ false (by simp [hX]))
    clear hX
    go_enter Try.func51, Try.ntmps51
    go_wp2_with fail
    go_quiet ((go_at_call 75; exact Calls.quiet_of (HQ.out _)))
    go_wp2
    go_ret
    exact ⟨rfl, _, rfl⟩
  have HQ := hid (HQ true (by simp [hX]))
  by_cases hnm : m = m'
  case neg =>
    have hbc := len_ne HB.out HC.out hnm
    rw [show sameP S L xs bs S L ys cs = false by simp [sameP, hbc]]
    clear hX hbc
    have hnm' : ((m : Int) != (m' : Int)) = true := by simp; omega
    go_enter Try.func51, Try.ntmps51
    go_wp2_with fail
    go_quiet ((go_at_call 75; exact Calls.quiet_of (HQ.out _)))
    go_wp2
    go_ret
    exact ⟨rfl, _, rfl⟩
  subst hnm
  have MM : ((m : Int) != (m : Int)) = false := bne_self_eq_false _
  rw [show sameP S L xs bs S L ys cs = decide (bs = cs) by simp [sameP, hX]]
  clear hX
  go_enter Try.func51, Try.ntmps51
  go_wp2_with fail
  go_quiet ((go_at_call 75; exact Calls.quiet_of (HQ.out _)))
  go_wp2_with fail
  go_loopw [5] (fun i wr => ∃ k : Nat, k ≤ m ∧ i = .int .i64 k ∧ Hid (bs.take k = cs.take k) ∧ Hid (∃ j, wr = w.drewN j)) (fun i _ => m - (intOf i).toNat)
  case atStart => exact ⟨0, Nat.zero_le _, rfl, rfl, ⟨_, rfl⟩⟩
  case round =>
    obtain ⟨k, hk, rfl, heq, hdr⟩ := hrel
    have c3 : wr.cell? ⟨b, 3, none⟩ = some (.slice B m d) := by obtain ⟨j, rfl⟩ := hdr.out; exact p3
    have c3' : wr.cell? ⟨b', 3, none⟩ = some (.slice B' m d') := by obtain ⟨j, rfl⟩ := hdr.out; exact r3
    clear p0 p1 p2 p3 r0 r1 r2 r3
    by_cases hlt : k < m
    · have hkx : k < bs.length := by have := HB.out; omega
      have hky : k < cs.length := by have := HC.out; omega
      obtain ⟨b1, o1, rfl, hb1, hc1'⟩ := bools_at hbs hkx
      obtain ⟨b2, o2, rfl, hb2, hc2'⟩ := bools_at hbs' hky
      have hc1 : wr.cell? ⟨b1, o1 + k, none⟩ = some (.bool bs[k]) := by obtain ⟨j, rfl⟩ := hdr.out; exact hc1'
      have hc2 : wr.cell? ⟨b2, o2 + k, none⟩ = some (.bool cs[k]) := by obtain ⟨j, rfl⟩ := hdr.out; exact hc2'
      have hki : (k : Int) < (m : Int) := by omega
      by_cases hxy : bs[k] = cs[k]
      · have HT := hid (take_eq_snoc hkx hky heq.out hxy)
        rw [← hxy] at hc2
        clear hxy hc1' hc2' heq
        generalize bs[k] = x at *
        go_wp2_with fail
        go_quiet (fail)
        go_wp2
        go_roundw
        case rel => exact ⟨k + 1, hlt, by go_num, HT, by obtain ⟨j, rfl⟩ := hdr.out; exact ⟨_, World.drewN_drewN _ _ _⟩⟩
        case measure => simp [intOf]; omega
      · have HT := hid (get_ne hkx hky hxy)
        clear hc1' hc2' heq
        have hyx : ¬ cs[k] = bs[k] := fun h => hxy h.symm
        generalize bs[k] = x at *
        generalize cs[k] = y at *
        have hq : (x == y) = false := by simpa using hxy
        go_wp2_with fail
        go_quiet (fail)
        go_wp2
        go_ret
        exact ⟨ret_bool (by simp [HT.out]), by obtain ⟨j, rfl⟩ := hdr.out; exact ⟨_, World.drewN_drewN _ _ _⟩⟩
    · have HT := hid (take_eq_all HB.out HC.out (by omega) heq.out)
      go_wp2
      go_ret
      exact ⟨ret_bool (by simp [HT.out]), hdr.out⟩
theorem specSame_calls (S L : Int) (A : Option Addr) (n c : Nat) (B : Option Addr) (m d : Nat) (xs : List Int) (bs : List Bool) (hx : xs.length = n) (hb : bs.length = m) (hn : n ≤ 1048576) (hm : m ≤ 1048576)
    (S' L' : Int) (A' : Option Addr) (n' c' : Nat) (B' : Option Addr) (m' d' : Nat) (ys : List Int) (cs : List Bool) (hy : ys.length = n') (hc : cs.length = m') (hn' : n' ≤ 1048576) (hm' : m' ≤ 1048576) (w : World)
    (ha : Rd w w.heap.size A (i64s xs)) (hbs : Rd w w.heap.size B (bools bs)) (ha' : Rd w w.heap.size A' (i64s ys)) (hbs' : Rd w w.heap.size B' (bools cs)) :
    Calls Try.prog 22 #[.agg #[.int .i64 S, .int .i64 L, .slice A n c, .slice B m d], .agg #[.int .i64 S', .int .i64 L', .slice A' n' c', .slice B' m' d']] w (RetG (.bool (sameP S L xs bs S' L' ys cs)) w) := by
  have HS := hid fun (b b' : Nat) (w : World) => l02SamePlain_calls b b' S L A n c B m d xs bs hx hb hn hm S' L' A' n' c' B' m' d' ys cs hy hc hn' hm' w
  have HA := hid ha
  have HB := hid hbs
  have HA' := hid ha'
  have HB' := hid hbs'
  generalize sameP S L xs bs S' L' ys cs = r at *
  clear ha hbs ha' hbs' hx hb hy hc
  go_enter Try.func22, Try.ntmps22
  go_wp2_with fail
  refine (HS.out w.heap.size (w.heap.size + 1) _ ⟨by go_simp, by go_simp, by go_simp, by go_simp⟩ ⟨by go_simp, by go_simp, by go_simp, by go_simp⟩ (rd_alloc (rd_alloc HA.out _) _) (rd_alloc (rd_alloc HB.out _) _) (rd_alloc (rd_alloc HA'.out _) _) (rd_alloc (rd_alloc HB'.out _) _)).mono ?_
  rintro e w' ⟨rfl, q, rfl⟩
  go_wp2
  go_ret
  exact ⟨rfl, below_drewN (((Below.refl _ _).alloc (Nat.le_refl _) _).alloc (by simp) _) _⟩
set_option maxHeartbeats 3200000 in
theorem implSame_calls (S L : Int) (A : Option Addr) (n c : Nat) (B : Option Addr) (m d : Nat) (xs : List Int) (bs : List Bool) (hx : xs.length = n) (hb : bs.length = m) (hn : n ≤ 1048576) (hm : m ≤ 1048576)
    (S' L' : Int) (A' : Option Addr) (n' c' : Nat) (B' : Option Addr) (m' d' : Nat) (ys : List Int) (cs : List Bool) (hy : ys.length = n') (hc : cs.length = m') (hn' : n' ≤ 1048576) (hm' : m' ≤ 1048576) (w : World)
    (ha : Rd w w.heap.size A (i64s xs)) (hbs : Rd w w.heap.size B (bools bs)) (ha' : Rd w w.heap.size A' (i64s ys)) (hbs' : Rd w w.heap.size B' (bools cs)) :
    Calls Try.prog 23 #[.agg #[.int .i64 S, .int .i64 L, .slice A n c, .slice B m d], .agg #[.int .i64 S', .int .i64 L', .slice A' n' c', .slice B' m' d']] w (RetG (.bool (sameP S L xs bs S' L' ys cs)) w) := by
  have HQ := fun (v : Bool) (h : decide (xs = ys) = v) (w : World) (ha : Rd w w.heap.size A (i64s xs)) (ha' : Rd w w.heap.size A' (i64s ys)) => h ▸ equalI_calls A A' n c n' c' xs ys hx hy hn hn' w ha ha'
  have HR := fun (v : Bool) (h : decide (bs = cs) = v) (w : World) (ha : Rd w w.heap.size B (bools bs)) (ha' : Rd w w.heap.size B' (bools cs)) => h ▸ equalB_calls B B' m d m' d' bs cs hb hc hm hm' w ha ha'
  have HA := hid ha
  have HB := hid hbs
  have HA' := hid ha'
  have HB' := hid hbs'
  clear ha hbs ha' hbs' hx hb hy hc
  by_cases hS : S = S'
  case neg =>
    rw [show sameP S L xs bs S' L' ys cs = false by simp [sameP, hS]]
    clear HQ HR
    have hS' : ¬ S' = S := fun h => hS h.symm
    go_enter Try.func23, Try.ntmps23
    go_wp2_with fail
    go_ret
    exact ⟨rfl, (((Below.refl _ _).alloc (Nat.le_refl _) _).alloc (by simp) _)⟩
  subst hS
  by_cases hL : L = L'
  case neg =>
    rw [show sameP S L xs bs S L' ys cs = false by simp [sameP, hL]]
    clear HQ HR
    have hL' : ¬ L' = L := fun h => hL h.symm
    go_enter Try.func23, Try.ntmps23
    go_wp2_with fail
    go_ret
    exact ⟨rfl, (((Below.refl _ _).alloc (Nat.le_refl _) _).alloc (by simp) _)⟩
  subst hL
  by_cases hX : xs = ys
  case neg =>
    rw [show sameP S L xs bs S L ys cs = false by simp [sameP, hX]]
    have HQ := hid (HQ false (by simp [hX]))
    clear HR hX
    go_enter Try.func23, Try.ntmps23
    go_wp2_with fail
    refine (HQ.out _ (rd_alloc (rd_alloc HA.out _) _) (rd_alloc (rd_alloc HA'.out _) _)).mono ?_
    rintro e w' ⟨rfl, q, rfl⟩
    go_wp2_with fail
    go_ret
    exact ⟨rfl, below_drewN (((Below.refl _ _).alloc (Nat.le_refl _) _).alloc (by simp) _) _⟩
  rw [show sameP S L xs bs S L ys cs = decide (bs = cs) by simp [sameP, hX]]
  have HQ := hid (HQ true (by simp [hX]))
  have HR := hid (HR _ rfl)
  clear hX
  generalize decide (bs = cs) = r at *
  go_enter Try.func23, Try.ntmps23
  go_wp2_with fail
  refine (HQ.out _ (rd_alloc (rd_alloc HA.out _) _) (rd_alloc (rd_alloc HA'.out _) _)).mono ?_
  rintro e w' ⟨rfl, q, rfl⟩
  go_wp2_with fail
  refine (HR.out _ ((rd_alloc (rd_alloc HB.out _) _).drewN _) ((rd_alloc (rd_alloc HB'.out _) _).drewN _)).mono ?_
  rintro e w' ⟨rfl, q2, rfl⟩
  go_wp2_with fail
  go_ret
  exact ⟨rfl, below_drewN (((Below.refl _ _).alloc (Nat.le_refl _) _).alloc (by simp) _) _⟩
end Go.Proofs.Ytlfmcdobiojdlaa.Num
