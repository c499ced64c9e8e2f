/-
  The machine turned round, by the reference.
-/
import Derived.Test.YtenfleceeeimlaaBackLaw
import Derived.Test.YtenfleceeeimlaaValidM
import Derived.Maps.AppendAt
namespace Go.Proofs.Ytenfleceeeimlaa.fnExactBackOf
open Go.RowKit Go.Proofs.Fl Go.Proofs.Ytenfleceeeimlaa.Num
set_option linter.unusedVariables false
set_option linter.unusedSimpArgs false
def swapA (j : Nat) : Nat := if j % 4 = 0 then j + 1 else if j % 4 = 1 then j - 1 else j
def backA (zs : List Int) (n : Nat) : List Int := (List.range (n * 4)).map fun j => ga zs (swapA j)
theorem backA_len (zs : List Int) (n : Nat) : (backA zs n).length = n * 4 := by simp [backA]
theorem backA_take (zs : List Int) (n k : Nat) (h : k < n) : (backA zs n).take ((k + 1) * 4) = (backA zs n).take (k * 4) ++ [ga zs (k * 4 + 1), ga zs (k * 4), ga zs (k * 4 + 2), ga zs (k * 4 + 3)] := by
  have e : (k + 1) * 4 = k * 4 + 1 + 1 + 1 + 1 := by omega
  have g : ∀ j, j < n * 4 → (backA zs n)[j]? = some (ga zs (swapA j)) := fun j hj => by simp [backA, hj]
  rw [e]
  have one : ∀ j, j < n * 4 → (backA zs n).take (j + 1) = (backA zs n).take j ++ [ga zs (swapA j)] := fun j hj => by rw [List.take_add_one, g j hj]; rfl
  rw [one _ (by omega), one _ (by omega), one _ (by omega), one _ (by omega)]
  have s0 : swapA (k * 4) = k * 4 + 1 := by unfold swapA; rw [if_pos (by omega)]
  have s1 : swapA (k * 4 + 1) = k * 4 := by unfold swapA; rw [if_neg (by omega), if_pos (by omega)]; omega
  have s2 : swapA (k * 4 + 1 + 1) = k * 4 + 2 := by unfold swapA; rw [if_neg (by omega), if_neg (by omega)]
  have s3 : swapA (k * 4 + 1 + 1 + 1) = k * 4 + 3 := by unfold swapA; rw [if_neg (by omega), if_neg (by omega)]
  rw [s0, s1, s2, s3]
  simp
theorem Kept.of_grown {w w' : World} {row : Option Nat} (h : w.grownBy w' row) : Kept w w' [row] := ⟨h.os, h.tape, h.output, h.size, fun b hb hr => h.block b hb (hr row (by simp))⟩
theorem Kept.frz {w w' : World} {R : List (Option Nat)} (h : Kept w w' R) {b : Nat} (hb : b < w.heap.size) (hr : ∀ r ∈ R, some b ≠ r) (o : Nat) : w'.frozen? ⟨b, o, none⟩ = w.frozen? ⟨b, o, none⟩ := World.frozen?_of_block (w := w) (h.block b hb hr)
theorem new4 (w : World) (t : TypeId) (a b c d : Int) (g : Nat) (hg : g = w.heap.size) : ∀ (j : Nat) (u : Value), [Value.int .i64 a, .int .i64 b, .int .i64 c, .int .i64 d][j]? = some u → (w.alloc (.cells #[.int .i64 a, .int .i64 b, .int .i64 c, .int .i64 d] t)).cell? ((⟨g, 0, none⟩ : Addr).add j) = some u := by
  subst hg
  intro j u h
  rw [Addr.add_lit, Nat.zero_add]
  have hj : j < 4 := by have := (List.getElem?_eq_some_iff.1 h).1; simpa using this
  have h4 : j = 0 ∨ j = 1 ∨ j = 2 ∨ j = 3 := by omega
  rcases h4 with rfl | rfl | rfl | rfl
  all_goals
    simp at h
    subst h
    go_simp
theorem ints4 (a b c d : Int) : ∀ u ∈ [Value.int .i64 a, .int .i64 b, .int .i64 c, .int .i64 d], u.oneCell' = true := by
  intro u hu
  simp at hu
  rcases hu with rfl | rfl | rfl | rfl <;> rfl
theorem i64s_one (xs : List Int) : ∀ u ∈ i64s xs, u.oneCell' = true := by
  intro u hu
  unfold i64s at hu
  obtain ⟨x, _, rfl⟩ := List.mem_map.1 hu
  rfl
theorem own_succ {w : World} {base e size : Nat} {v : Value} {k : Nat} {xs : List Value} (h : w.ownsRow base e size v (k + 1) xs) : ∃ g cap, v = .slice (some ⟨g, 0, none⟩) (k + 1) cap := by
  rcases h.2 with ⟨_, h0⟩ | ⟨g, cap, _, rfl, _⟩
  · omega
  · exact ⟨g, cap, rfl⟩
/-- behind an append to a row that the call owns -/
theorem app_facts {wr w5 : World} {X Y : Obj} {bo g g5 k cap k5 cap5 : Nat} (hbo : bo < wr.heap.size) (hg : g ≠ bo) (hgrow : ((wr.alloc X).alloc Y).grownBy w5 (Value.slice (some ⟨g, 0, none⟩) k cap).ownBlock)
    (hat : (Value.slice (some ⟨g5, 0, none⟩) k5 cap5).ownBlock = (Value.slice (some ⟨g, 0, none⟩) k cap).ownBlock ∨ (Value.slice (some ⟨g5, 0, none⟩) k5 cap5).ownBlock = some ((wr.alloc X).alloc Y).heap.size) :
    (∀ o, w5.cell? ⟨bo, o, none⟩ = wr.cell? ⟨bo, o, none⟩) ∧ (∀ o, w5.frozen? ⟨bo, o, none⟩ = wr.frozen? ⟨bo, o, none⟩) ∧ g5 ≠ bo ∧ wr.heap.size ≤ w5.heap.size ∧ (∀ B, B ≤ g → B ≤ wr.heap.size → Below B wr w5) := by
  have K := Kept.of_grown hgrow
  have hbel : Below wr.heap.size wr ((wr.alloc X).alloc Y) := ((Below.refl _ _).alloc (Nat.le_refl _) _).alloc (by simp) _
  have hs : ((wr.alloc X).alloc Y).heap.size = wr.heap.size + 2 := by simp
  have hr : ∀ r ∈ [(Value.slice (some ⟨g, 0, none⟩) k cap).ownBlock], some bo ≠ r := fun r hr e => by simp [Value.ownBlock] at hr; subst hr; simp at e; exact hg e.symm
  refine ⟨fun o => (K.cell (by omega) hr o).trans (hbel.cell (p := ⟨bo, o, none⟩) hbo), fun o => (Kept.frz K (by omega) hr o).trans (hbel.frozen (p := ⟨bo, o, none⟩) hbo), ?_, ?_, fun B h1 h2 => (hbel.mono h2).trans (K.below (by omega) fun r hr g' hg' => by simp [Value.ownBlock] at hr; subst hr; simp at hg'; omega)⟩
  · rcases hat with h | h
    · simp [Value.ownBlock] at h; omega
    · simp [Value.ownBlock] at h; omega
  · have := K.size; omega
theorem own_some {w : World} {base e size : Nat} {v : Value} {k : Nat} {xs : List Value} (h : w.ownsRow base e size v k xs) (hk : 0 < k) : ∃ g cap, v = .slice (some ⟨g, 0, none⟩) k cap := by
  rcases h.2 with ⟨_, h0⟩ | ⟨g, cap, _, rfl, _⟩
  · omega
  · exact ⟨g, cap, rfl⟩
/-- behind an append to an empty row that the call has just made -/
theorem app_new {wr w5 : World} {X : Obj} {bo g5 k5 cap5 : Nat} (hbo : bo < wr.heap.size) (hgrow : (wr.alloc X).grownBy w5 (Value.slice (some ⟨wr.heap.size, 0, none⟩) 0 0).ownBlock)
    (hat : (Value.slice (some ⟨g5, 0, none⟩) k5 cap5).ownBlock = (Value.slice (some ⟨wr.heap.size, 0, none⟩) 0 0).ownBlock ∨ (Value.slice (some ⟨g5, 0, none⟩) k5 cap5).ownBlock = some (wr.alloc X).heap.size) :
    wr.heap.size ≤ g5 ∧ wr.heap.size ≤ w5.heap.size ∧ Below wr.heap.size wr w5 := by
  have K := Kept.of_grown hgrow
  have hbel : Below wr.heap.size wr (wr.alloc X) := (Below.refl _ _).alloc (Nat.le_refl _) _
  have hs : (wr.alloc X).heap.size = wr.heap.size + 1 := by simp
  refine ⟨?_, ?_, hbel.trans (K.below (by omega) fun r hr g' hg' => by simp [Value.ownBlock] at hr; subst hr; simp at hg'; omega)⟩
  · rcases hat with h | h
    · simp [Value.ownBlock] at h; omega
    · simp [Value.ownBlock] at h; omega
  · have := K.size; omega
theorem rd_news {w : World} {A : Option Addr} {xs : List Int} (h : Rd w w.heap.size A (i64s xs)) (hne : 0 < xs.length) : ∃ b off, A = some ⟨b, off, none⟩ ∧ b < w.heap.size ∧ ∀ w', Below w.heap.size w w' → ∀ (j : Nat) (u : Value), (i64s xs)[j]? = some u → w'.cell? ((⟨b, off, none⟩ : Addr).add j) = some u := by
  rcases h with h0 | ⟨b, off, hA, hb, hc⟩
  · have := congrArg List.length h0
    simp at this
    subst this
    simp at hne
  · exact ⟨b, off, hA, hb, fun w' hw j u hu => by rw [Addr.add_lit]; rw [← hc j u hu]; exact hw.cell (p := ⟨b, off + j, none⟩) hb⟩
theorem own_empty (w : World) (e : TypeId) (size : Nat) : (w.alloc (.cells #[] e)).ownsRow w.heap.size e size (.slice (some ⟨w.heap.size, 0, none⟩) 0 0) 0 [] :=
  ⟨by simp, .inr ⟨w.heap.size, 0, #[], rfl, Nat.le_refl _, heap_alloc_new _ _, Nat.le_refl _, by simp [maxLen], by simp, by simp⟩⟩
theorem valid_marks {S L : Int} {n : Nat} {zs : List Int} {m : Nat} {xs : List Int} {q : Nat} {ys : List Int} (h : validM S L n zs m xs q ys = true) : 1 ≤ m ∧ 1 ≤ q ∧ n ≤ 128 ∧ (m : Int) = S ∧ (q : Int) = S := by
  unfold validM marksOk at h
  simp only [Bool.and_eq_true, decide_eq_true_eq] at h
  have := inB_iff h.1.1.1.1.1
  have h1 := h.1.2.2
  have h2 := h.2.2
  have h3 := h.1.1.1.2
  omega
theorem own_set {w : World} {base e size g n c : Nat} {xs : List Value} (h : w.ownsRow base e size (.slice (some ⟨g, 0, none⟩) n c) n xs) {p : Addr} (hp : g ≠ p.block) (u : Value) : (w.setCell p u).ownsRow base e size (.slice (some ⟨g, 0, none⟩) n c) n xs := own_keep h (Below.heap_setCell _ _ _ _ hp)
theorem rowN_is {n g x : Nat} (h : rowN n (some ⟨g, 0, none⟩) = some x) : x = g := by
  unfold rowN at h
  split at h
  · cases h
  · simp [blk] at h; exact h.symm
theorem ownM_of {w : World} {g n c g1 m d g2 q f b0 b1 b2 : Nat} {zs xs ys : List Int} (ha : w.ownsRow b0 50 4 (.slice (some ⟨g, 0, none⟩) n c) n (i64s zs)) (hb : w.ownsRow b1 2 1 (.slice (some ⟨g1, 0, none⟩) m d) m (i64s xs)) (hc : w.ownsRow b2 2 1 (.slice (some ⟨g2, 0, none⟩) q f) q (i64s ys)) (h1 : g < g1) (h2 : g1 < g2) :
    OwnM w (some ⟨g, 0, none⟩) n c (some ⟨g1, 0, none⟩) m d (some ⟨g2, 0, none⟩) q f zs xs ys :=
  ⟨⟨by simpa using ha.1, .inr ⟨g, rfl, own_rebase ha⟩⟩, ⟨by simpa using hb.1, .inr ⟨g1, rfl, own_rebase hb⟩⟩, ⟨by simpa using hc.1, .inr ⟨g2, rfl, own_rebase hc⟩⟩,
    fun x h e => by have := rowN_is h; have := rowN_is e; omega, fun x h e => by have := rowN_is h; have := rowN_is e; omega, fun x h e => by have := rowN_is h; have := rowN_is e; omega⟩
theorem within_of {lo hi g n g1 m g2 q : Nat} (h0 : lo ≤ g) (h1 : g < g1) (h2 : g1 < g2) (h3 : g2 < hi) : Within lo hi (rowsM n (some ⟨g, 0, none⟩) m (some ⟨g1, 0, none⟩) q (some ⟨g2, 0, none⟩)) := by
  intro r hr x hx
  simp only [rowsM, List.mem_cons, List.not_mem_nil, or_false] at hr
  rcases hr with rfl | rfl | rfl
  all_goals
    have := rowN_is hx
    omega
set_option maxHeartbeats 6400000 in
theorem spec_yes (S L : Int) (A : Option Addr) (n c : Nat) (B : Option Addr) (m d : Nat) (C : Option Addr) (q f : Nat) (zs xs ys : List Int) (hF : Fits n m q zs xs ys) (hv : validM S L n zs m xs q ys = true) (w : World) (hl : Lists w A B C zs xs ys) :
    Calls Try.prog 15 #[.agg #[.int .i64 S, .int .i64 L, .slice A n c, .slice B m d, .slice C q f]] w (RetBM S L n q m (backA zs n) ys xs true w) := by
  have HL := hid hl
  have HF := hid hF
  have HV := hid (hv ▸ fun b w hp hb hl => l02Is_calls b S L A n c B m d C q f zs xs ys hF w hp hb hl)
  have hvm := valid_marks hv
  clear hl hF hv
  go_enter Try.func15, Try.ntmps15
  go_wp2_with fail
  refine (HV.out w.heap.size _ ⟨by go_simp, by go_simp, by go_simp, by go_simp, by go_simp⟩ (by simp; omega) ((HL.out.alloc _).alloc _)).mono ?_
  rintro e w1 ⟨rfl, bel1⟩
  have hc := (old_cell bel1).1
  have hf := (old_cell bel1).2
  have s1 : w.heap.size + 2 ≤ w1.heap.size := by have := bel1.size; simp at this; omega
  have BEL := hid (((Below.refl w.heap.size w).alloc (Nat.le_refl _) _).alloc (by simp) _ |>.trans (bel1.mono (by simp; omega)))
  have PA := hid (show MachAt w1 w.heap.size S L A n c B m d C q f from ⟨by rw [hc _ _ (by simp; omega)]; go_simp, by rw [hc _ _ (by simp; omega)]; go_simp, by rw [hc _ _ (by simp; omega)]; go_simp, by rw [hc _ _ (by simp; omega)]; go_simp, by rw [hc _ _ (by simp; omega)]; go_simp⟩)
  have PZ := hid (show MachAt w1 (w.heap.size + 1) 0 0 none 0 0 none 0 0 none 0 0 from ⟨by rw [hc _ _ (by simp)]; go_simp, by rw [hc _ _ (by simp)]; go_simp, by rw [hc _ _ (by simp)]; go_simp, by rw [hc _ _ (by simp)]; go_simp, by rw [hc _ _ (by simp)]; go_simp⟩)
  have FZ := hid (show ∀ o, w1.frozen? ⟨w.heap.size + 1, o, none⟩ = false from fun o => by rw [hf _ _ (by simp)]; go_simp)
  clear hc hf bel1
  obtain ⟨a0, a1, a2, a3, a4⟩ := PA.out
  go_wp2_with fail
  have h0 : (w1.alloc (Obj.cells #[] 50)).heap.size = w1.heap.size + 1 := by simp
  have hbe : Below w1.heap.size w1 (w1.alloc (Obj.cells #[] 50)) := (Below.refl _ _).alloc (Nat.le_refl _) _
  have hown : (w1.alloc (Obj.cells #[] 50)).ownsRow w1.heap.size 50 4 (.slice (some ⟨w1.heap.size, 0, none⟩) 0 0) 0 (i64s ((backA zs n).take (0 * 4))) := ⟨by simp [i64s], .inr ⟨w1.heap.size, 0, #[], rfl, Nat.le_refl _, heap_alloc_new _ _, Nat.le_refl _, by simp [maxLen], rfl, by simp [i64s]⟩⟩
  have po : MachAt ((w1.alloc (Obj.cells #[] 50)).alloc (Obj.cells #[.int .i64 S, .int .i64 L, .slice (some ⟨w1.heap.size, 0, none⟩) 0 0, .slice none 0 0, .slice none 0 0] 30)) (w1.heap.size + 1) S L (some ⟨w1.heap.size, 0, none⟩) 0 0 none 0 0 none 0 0 := ⟨by go_simp, by go_simp, by go_simp, by go_simp, by go_simp⟩
  have fo : ∀ o, ((w1.alloc (Obj.cells #[] 50)).alloc (Obj.cells #[.int .i64 S, .int .i64 L, .slice (some ⟨w1.heap.size, 0, none⟩) 0 0, .slice none 0 0, .slice none 0 0] 30)).frozen? ⟨w1.heap.size + 1, o, none⟩ = false := fun o => by go_simp
  have OW0 := hid (hown.alloc (Obj.cells #[.int .i64 S, .int .i64 L, .slice (some ⟨w1.heap.size, 0, none⟩) 0 0, .slice none 0 0, .slice none 0 0] 30))
  have BE0 := hid (hbe.alloc (by simp) (Obj.cells #[.int .i64 S, .int .i64 L, .slice (some ⟨w1.heap.size, 0, none⟩) 0 0, .slice none 0 0, .slice none 0 0] 30))
  have PO0 := hid po
  have FO0 := hid fo
  have sz0 : w1.heap.size + 2 = ((w1.alloc (Obj.cells #[] 50)).alloc (Obj.cells #[.int .i64 S, .int .i64 L, .slice (some ⟨w1.heap.size, 0, none⟩) 0 0, .slice none 0 0, .slice none 0 0] 30)).heap.size := by simp
  clear hown hbe po fo h0 a0 a1 a2 a3 a4
  generalize (w1.alloc (Obj.cells #[] 50)).alloc (Obj.cells #[.int .i64 S, .int .i64 L, .slice (some ⟨w1.heap.size, 0, none⟩) 0 0, .slice none 0 0, .slice none 0 0] 30) = v0 at *
  have HLE := hid (HL.out.step BEL.out)
  obtain ⟨i0, hi0, hz0, hz1, hz2⟩ := info_parts arcs_info
  have hn := HF.out.n
  go_loopw [5] (fun i wr => ∃ k g cap : Nat, k ≤ n ∧ i = .int .i64 k ∧ Hid (MachAt wr (w1.heap.size + 1) S L (some ⟨g, 0, none⟩) k cap none 0 0 none 0 0) ∧ Hid (∀ o, wr.frozen? ⟨w1.heap.size + 1, o, none⟩ = false) ∧ Hid (wr.ownsRow w1.heap.size 50 4 (.slice (some ⟨g, 0, none⟩) k cap) k (i64s ((backA zs n).take (k * 4)))) ∧ g ≠ w1.heap.size + 1 ∧ w1.heap.size + 2 ≤ wr.heap.size ∧ Hid (Below w1.heap.size w1 wr)) (fun i _ => n - (intOf i).toNat)
  case atStart => exact ⟨0, w1.heap.size, 0, Nat.zero_le _, rfl, PO0, FO0, OW0, by omega, by omega, BE0⟩
  case round =>
    clear PO0 FO0 OW0 BE0 sz0
    obtain ⟨k, g, cap, hk, rfl, PO, FO, OW, hgb, hsz, hbel⟩ := hrel
    have PA1 := hid (PA.out.step hbel.out (by omega))
    have a2 := PA1.out.c2
    by_cases hlt : k < n
    · obtain ⟨b1, o1, rfl, hb1, p0, p1, p2, p3⟩ := arcs_at (HLE.out.step hbel.out).a HF.out.z hlt
      have HT := hid (backA_take zs n k hlt)
      generalize ga zs (k * 4) = x0 at *
      generalize ga zs (k * 4 + 1) = x1 at *
      generalize ga zs (k * 4 + 2) = x2 at *
      generalize ga zs (k * 4 + 3) = x3 at *
      have o2 := PO.out.c2
      have ltb : w1.heap.size + 1 < wr.heap.size := by omega
      have neb : ¬ w1.heap.size + 1 = wr.heap.size := by omega
      go_wp2_with (at_builtin; (refine wpList_append_own_at _ rfl _ _ 28 rfl w1.heap.size 50 i0 (Value.agg #[.int .i64 0, .int .i64 0, .int .i64 0, .int .i64 0]) 4 32 Try.underlying28 hi0 hz0 hz1 hz2 rfl (by decide) (.slice (some ⟨g, 0, none⟩) k cap) k (i64s ((backA zs n).take (k * 4))) rfl ((OW.out.alloc _).alloc _) ⟨wr.heap.size + 1, 0, none⟩ 1 1 [.int .i64 x1, .int .i64 x0, .int .i64 x2, .int .i64 x3] rfl rfl (new4 _ _ _ _ _ _ _ (by simp)) (ints4 _ _ _ _) (by unfold maxLen; omega) (by omega) (by simp; omega) ?_); intro v' w5 hown' hgrow hnil hat; obtain ⟨g5, cap5, rfl⟩ := own_succ hown'; obtain ⟨fc, ff, hg5, hs5, hb5⟩ := app_facts ltb hgb hgrow hat; have q0 := (fc 0).trans PO.out.c0; have q1 := (fc 1).trans PO.out.c1; have q2 := (fc 2).trans PO.out.c2; have q3 := (fc 3).trans PO.out.c3; have q4 := (fc 4).trans PO.out.c4; have r2 := (ff 2).trans (FO.out 2); have FF := hid (fun o => (ff o).trans (FO.out o)); have OW5 := hid hown'; have BB5 := hid hb5; clear hgrow hat hnil fc ff hown' hb5)
      have hbase : w1.heap.size ≤ g := by
        rcases OW.out.2 with ⟨hv, _⟩ | ⟨g', cap', cur, hv, hb, _⟩
        · cases hv
        · simp only [Value.slice.injEq, Option.some.injEq, Addr.mk.injEq, and_true, true_and] at hv
          omega
      have hll : i64s ((backA zs n).take (k * 4)) ++ [Value.int .i64 x1, .int .i64 x0, .int .i64 x2, .int .i64 x3] = i64s ((backA zs n).take ((k + 1) * 4)) := by rw [HT.out]; unfold i64s; rw [List.map_append]; rfl
      have OW6 := hid (own_keep (hll ▸ OW5.out) (w' := w5.setCell ⟨w1.heap.size + 1, 2, none⟩ (.slice (some ⟨g5, 0, none⟩) (k + 1) cap5)) (Below.heap_setCell _ _ _ _ hg5))
      have BEL6 := hid ((hbel.out.trans (BB5.out _ hbase (by omega))).setCell (p := ⟨w1.heap.size + 1, 2, none⟩) (by simp) (.slice (some ⟨g5, 0, none⟩) (k + 1) cap5))
      go_roundw
      case rel => exact ⟨k + 1, g5, cap5, hlt, by go_num, ⟨by go_simp, by go_simp, by go_simp, by go_simp, by go_simp⟩, fun o => by have := FF.out o; go_simp, OW6, hg5, by simp; omega, BEL6⟩
      case measure => simp [intOf]; omega
    · have he : k = n := by omega
      subst he
      have HT := hid (show (backA zs k).take (k * 4) = backA zs k from List.take_of_length_le (by rw [backA_len]; omega))
      rw [HT.out] at OW
      have hm := HF.out.m
      have hq := HF.out.q
      obtain ⟨j0, hj0, hw0, hw1, hw2⟩ := info_parts toInt64S_info
      obtain ⟨b3, o3, rfl, hb3, nw3⟩ := rd_news (HLE.out.step hbel.out).c (by rw [HF.out.y]; omega)
      have nw3 := hid nw3
      have a4 := PA1.out.c4
      have lta : w.heap.size < wr.heap.size := by omega
      have nea : ¬ w.heap.size = wr.heap.size := by omega
      have hlk : ¬ (k : Int) < (k : Int) := by omega
      have hbase : w1.heap.size ≤ g := by
        rcases OW.out.2 with ⟨hv, _⟩ | ⟨g', cap', cur, hv, hb, _⟩
        · cases hv
        · simp only [Value.slice.injEq, Option.some.injEq, Addr.mk.injEq, and_true, true_and] at hv
          omega
      have hgl := own_lt OW.out
      go_upto_region 10 with (at_builtin;  refine wpList_append_own_at _ rfl _ _ 23 rfl wr.heap.size 2 j0 (Value.int .i64 0) 1 8 Try.underlying23 hj0 hw0 hw1 hw2 rfl (by decide) (.slice (some ⟨wr.heap.size, 0, none⟩) 0 0) 0 [] rfl (own_empty _ _ _) ⟨b3, o3, none⟩ q _ (i64s ys) rfl (by simp [HF.out.y]) (nw3.out _ ((Below.refl _ _).alloc (Nat.le_refl _) _)) (i64s_one _) (by unfold maxLen; omega) (by omega) (by simp) ?_; intro v' w5 hown' hgrow hnil hat; rw [Nat.zero_add] at hown'; obtain ⟨g5, cap5, rfl⟩ := own_some hown' (by omega); obtain ⟨g5l, z5, hb5⟩ := app_new (bo := w1.heap.size + 1) (by omega) hgrow hat; have pq := MachAt.step PO.out hb5 (by omega); obtain ⟨q0, q1, q2, q3, q4⟩ := pq; have r3 := ((old_cell hb5).2 _ 3 (by omega)).trans (FO.out 3); have FOx := hid (fun o => ((old_cell hb5).2 (w1.heap.size + 1) o (by omega)).trans (FO.out o)); have OY := hid (own_rebase hown'); have BY := hid hb5; clear hgrow hat hnil hown' hb5)
      have PA5 := hid (PA1.out.step BY.out (by omega))
      have HL5 := hid ((HLE.out.step hbel.out).step BY.out)
      have OW5 := hid (own_keep OW.out (BY.out.block g hgl))
      have PO6 := hid (show MachAt (w5.setCell ⟨w1.heap.size + 1, 3, none⟩ (.slice (some ⟨g5, 0, none⟩) q cap5)) (w1.heap.size + 1) S L (some ⟨g, 0, none⟩) k cap (some ⟨g5, 0, none⟩) q cap5 none 0 0 from ⟨by go_simp, by go_simp, by go_simp, by go_simp, by go_simp⟩)
      have FO6 := hid (show ∀ o, (w5.setCell ⟨w1.heap.size + 1, 3, none⟩ (.slice (some ⟨g5, 0, none⟩) q cap5)).frozen? ⟨w1.heap.size + 1, o, none⟩ = false from fun o => by have := FOx.out o; go_simp)
      have bset : Below (w1.heap.size + 1) w5 (w5.setCell ⟨w1.heap.size + 1, 3, none⟩ (.slice (some ⟨g5, 0, none⟩) q cap5)) := (Below.refl (w1.heap.size + 1) w5).setCell (p := ⟨w1.heap.size + 1, 3, none⟩) (Nat.le_refl _) _
      have PA6 := hid (show MachAt (w5.setCell ⟨w1.heap.size + 1, 3, none⟩ (.slice (some ⟨g5, 0, none⟩) q cap5)) w.heap.size S L A k c B m d (some ⟨b3, o3, none⟩) q f from PA5.out.keep fun o => bset.cell (p := ⟨w.heap.size, o, none⟩) (by simp; omega))
      have BEL6 := hid (hbel.out.trans ((BY.out.mono (by omega)).trans (bset.mono (by omega))))
      have OW6 := hid (own_keep OW5.out (w' := w5.setCell ⟨w1.heap.size + 1, 3, none⟩ (.slice (some ⟨g5, 0, none⟩) q cap5)) (Below.heap_setCell _ _ _ _ hgb))
      have OY6 := hid (own_keep OY.out (w' := w5.setCell ⟨w1.heap.size + 1, 3, none⟩ (.slice (some ⟨g5, 0, none⟩) q cap5)) (Below.heap_setCell _ _ _ _ (show g5 ≠ w1.heap.size + 1 by omega)))
      have HL6 := hid (HLE.out.step BEL6.out)
      have z6 : w5.heap.size = (w5.setCell ⟨w1.heap.size + 1, 3, none⟩ (.slice (some ⟨g5, 0, none⟩) q cap5)).heap.size := by simp
      have hg5l := own_lt OY.out
      clear PA5 HL5 OW5 bset OW OY BY PO FO FOx q0 q1 q2 q3 q4 r3 PA1 hbel a4
      generalize w5.setCell ⟨w1.heap.size + 1, 3, none⟩ (.slice (some ⟨g5, 0, none⟩) q cap5) = w6 at *
      obtain ⟨b4, o4, rfl, hb4, nw4⟩ := rd_news HL6.out.b (by rw [HF.out.x]; omega)
      have nw4 := hid nw4
      have a3 := PA6.out.c3
      have lta6 : w.heap.size < w6.heap.size := by omega
      have nea6 : ¬ w.heap.size = w6.heap.size := by omega
      go_upto_region 11 with (at_builtin; refine wpList_append_own_at _ rfl _ _ 23 rfl w6.heap.size 2 j0 (Value.int .i64 0) 1 8 Try.underlying23 hj0 hw0 hw1 hw2 rfl (by decide) (.slice (some ⟨w6.heap.size, 0, none⟩) 0 0) 0 [] rfl (own_empty _ _ _) ⟨b4, o4, none⟩ m _ (i64s xs) rfl (by simp [HF.out.x]) (nw4.out _ ((Below.refl _ _).alloc (Nat.le_refl _) _)) (i64s_one _) (by unfold maxLen; omega) (by omega) (by simp) ?_; intro v' w7 hown' hgrow hnil hat; rw [Nat.zero_add] at hown'; obtain ⟨g7, cap7, rfl⟩ := own_some hown' (by omega); obtain ⟨g7l, z7, hb5⟩ := app_new (bo := w1.heap.size + 1) (by omega) hgrow hat; have pq := MachAt.step PO6.out hb5 (by omega); obtain ⟨u0, u1, u2, u3, u4⟩ := pq; have r4 := ((old_cell hb5).2 _ 4 (by omega)).trans (FO6.out 4); have FOx := hid (fun o => ((old_cell hb5).2 (w1.heap.size + 1) o (by omega)).trans (FO6.out o)); have OXX := hid (own_rebase hown'); have BX := hid hb5; clear hgrow hat hnil hown' hb5)
      have hg7l := own_lt OXX.out
      have PO8 := hid (show MachAt (w7.setCell ⟨w1.heap.size + 1, 4, none⟩ (.slice (some ⟨g7, 0, none⟩) m cap7)) (w1.heap.size + 1) S L (some ⟨g, 0, none⟩) k cap (some ⟨g5, 0, none⟩) q cap5 (some ⟨g7, 0, none⟩) m cap7 from ⟨by go_simp, by go_simp, by go_simp, by go_simp, by go_simp⟩)
      have BEL8 := hid ((BEL6.out.trans (BX.out.mono (by omega))).setCell (p := ⟨w1.heap.size + 1, 4, none⟩) (by simp) (.slice (some ⟨g7, 0, none⟩) m cap7))
      have OA8 := hid (own_set (own_keep OW6.out (BX.out.block g (by omega))) (p := ⟨w1.heap.size + 1, 4, none⟩) hgb (.slice (some ⟨g7, 0, none⟩) m cap7))
      have OB8 := hid (own_set (own_keep OY6.out (BX.out.block g5 (by omega))) (p := ⟨w1.heap.size + 1, 4, none⟩) (show g5 ≠ w1.heap.size + 1 by omega) (.slice (some ⟨g7, 0, none⟩) m cap7))
      have OC8 := hid (own_set OXX.out (p := ⟨w1.heap.size + 1, 4, none⟩) (show g7 ≠ w1.heap.size + 1 by omega) (.slice (some ⟨g7, 0, none⟩) m cap7))
      have z8 : w7.heap.size = (w7.setCell ⟨w1.heap.size + 1, 4, none⟩ (.slice (some ⟨g7, 0, none⟩) m cap7)).heap.size := by simp
      clear OW6 OY6 OXX BX u0 u1 u2 u3 u4 r4 PO6 FO6 FOx BEL6 a3 PA6
      generalize (w7.setCell ⟨w1.heap.size + 1, 4, none⟩ (.slice (some ⟨g7, 0, none⟩) m cap7)) = w8 at *
      obtain ⟨e0, e1, e2, e3, e4⟩ := PO8.out
      obtain ⟨k0, k1, k2, k3, k4⟩ := PZ.out.step BEL8.out (by omega)
      have fz : ∀ o, w8.frozen? ⟨w.heap.size + 1, o, none⟩ = false := fun o => (BEL8.out.frozen (p := ⟨w.heap.size + 1, o, none⟩) (show w.heap.size + 1 < w1.heap.size by omega)).trans (FZ.out o)
      have j0 := fz 0
      have j1 := fz 1
      have j2 := fz 2
      have j3 := fz 3
      have j4 := fz 4
      clear fz
      go_wp2_with fail
      exact bodyPost_ret (v := .tuple #[.agg #[.int .i64 S, .int .i64 L, .slice (some ⟨g, 0, none⟩) k cap, .slice (some ⟨g5, 0, none⟩) q cap5, .slice (some ⟨g7, 0, none⟩) m cap7], .bool true]) (by simp [results, Try.results15, go_sem, e0, e1, e2, e3, e4, k0, k1, k2, k3, k4]) rfl
        ⟨some ⟨g, 0, none⟩, cap, some ⟨g5, 0, none⟩, cap5, some ⟨g7, 0, none⟩, cap7, rfl, ownM_of (own_set (own_set (own_set (own_set (own_set OA8.out (by simp; omega) _) (by simp; omega) _) (by simp; omega) _) (by simp; omega) _) (by simp; omega) _) (own_set (own_set (own_set (own_set (own_set OB8.out (by simp; omega) _) (by simp; omega) _) (by simp; omega) _) (by simp; omega) _) (by simp; omega) _) (own_set (own_set (own_set (own_set (own_set OC8.out (by simp; omega) _) (by simp; omega) _) (by simp; omega) _) (by simp; omega) _) (by simp; omega) _) (by omega) (by omega), within_of (by omega) (by omega) (by omega) (by simp; omega), ((((((BEL.out.trans (BEL8.out.mono (by omega))).setCell (by simp) _).setCell (by simp) _).setCell (by simp) _).setCell (by simp) _).setCell (by simp) _)⟩
theorem ownM_nil (w : World) : OwnM w none 0 0 none 0 0 none 0 0 [] [] [] := ⟨⟨rfl, .inl rfl⟩, ⟨rfl, .inl rfl⟩, ⟨rfl, .inl rfl⟩, (fun _ h => nomatch h), (fun _ h => nomatch h), (fun _ h => nomatch h)⟩
theorem within_nil (lo hi : Nat) : Within lo hi (rowsM 0 none 0 none 0 none) := by
  intro r hr g hg
  simp only [rowsM, List.mem_cons, List.not_mem_nil, or_false] at hr
  rcases hr with rfl | rfl | rfl <;> cases hg
set_option maxHeartbeats 3200000 in
theorem spec_no (S L : Int) (A : Option Addr) (n c : Nat) (B : Option Addr) (m d : Nat) (C : Option Addr) (q f : Nat) (zs xs ys : List Int) (hF : Fits n m q zs xs ys) (hv : validM S L n zs m xs q ys = false) (w : World) (hl : Lists w A B C zs xs ys) :
    Calls Try.prog 15 #[.agg #[.int .i64 S, .int .i64 L, .slice A n c, .slice B m d, .slice C q f]] w (RetBM 0 0 0 0 0 [] [] [] false w) := by
  have HL := hid hl
  have HV := hid (hv ▸ fun b w hp hb hl => l02Is_calls b S L A n c B m d C q f zs xs ys hF w hp hb hl)
  clear hl hF hv
  go_enter Try.func15, Try.ntmps15
  go_wp2_with fail
  refine (HV.out w.heap.size _ ⟨by go_simp, by go_simp, by go_simp, by go_simp, by go_simp⟩ (by simp; omega) ((HL.out.alloc _).alloc _)).mono ?_
  rintro e w1 ⟨rfl, bel1⟩
  have hc := (old_cell bel1).1
  have hf := (old_cell bel1).2
  have BEL := hid (((Below.refl w.heap.size w).alloc (Nat.le_refl _) _).alloc (by simp) _ |>.trans (bel1.mono (by simp; omega)))
  obtain ⟨k0, k1, k2, k3, k4⟩ := show MachAt w1 (w.heap.size + 1) 0 0 none 0 0 none 0 0 none 0 0 from ⟨by rw [hc _ _ (by simp)]; go_simp, by rw [hc _ _ (by simp)]; go_simp, by rw [hc _ _ (by simp)]; go_simp, by rw [hc _ _ (by simp)]; go_simp, by rw [hc _ _ (by simp)]; go_simp⟩
  have fz : ∀ o, w1.frozen? ⟨w.heap.size + 1, o, none⟩ = false := fun o => by rw [hf _ _ (by simp)]; go_simp
  have j0 := fz 0
  have j1 := fz 1
  have j2 := fz 2
  have j3 := fz 3
  have j4 := fz 4
  clear fz hc hf bel1
  go_wp2_with fail
  exact bodyPost_ret (v := .tuple #[.agg #[.int .i64 0, .int .i64 0, .slice none 0 0, .slice none 0 0, .slice none 0 0], .bool false]) (by simp [results, Try.results15, go_sem, k0, k1, k2, k3, k4]) rfl
    ⟨none, 0, none, 0, none, 0, rfl, ownM_nil _, within_nil _ _, (((((BEL.out.setCell (by simp) _).setCell (by simp) _).setCell (by simp) _).setCell (by simp) _).setCell (by simp) _)⟩
end Go.Proofs.Ytenfleceeeimlaa.fnExactBackOf
