/-
  Machines of the laws: sizes, copies, equality.
-/
import Derived.Test.YtenfleceeeimlaaIntsM
import Derived.Test.YtenfleceeeimlaaToI64
import Derived.Test.YtenfleceeeimlaaOwnI
namespace Go.Proofs.Ytenfleceeeimlaa.Num
open Go.RowKit Go.Proofs.Fl
set_option linter.unusedVariables false
set_option linter.unusedSimpArgs false
def RetG (v : Value) (w : World) (e : Ending) (w' : World) : Prop := e = .returned v ∧ Below w.heap.size w w'
def leftI (n : Nat) (l : Int) : Int := if l - n < 0 then -1 else l - n
theorem szInt64S_calls (A : Option Addr) (n c : Nat) (l : Int) (hn : n ≤ 9223372036854775807) (hl : 0 ≤ l ∧ l ≤ 1048576) (w : World) : Calls Try.prog 27 #[.slice A n c, .int .i64 l] w (Ret (.int .i64 (leftI n l)) w) := by
  have hw : wrap64 (l - (n : Int)) = l - n := by unfold wrap64; omega
  unfold leftI
  by_cases h : l - (n : Int) < 0
  all_goals
    first | rw [if_pos h] | rw [if_neg h]
    go_enter Try.func27, Try.ntmps27
    go_wp2
    go_ret
    exact ⟨rfl, 0, rfl⟩
theorem szArcS_calls (A : Option Addr) (n c : Nat) (l : Int) (hn : n ≤ 9223372036854775807) (hl : 0 ≤ l ∧ l ≤ 1048576) (w : World) : Calls Try.prog 26 #[.slice A n c, .int .i64 l] w (Ret (.int .i64 (leftI n l)) w) := by
  have hw : wrap64 (l - (n : Int)) = l - n := by unfold wrap64; omega
  unfold leftI
  by_cases h : l - (n : Int) < 0
  all_goals
    first | rw [if_pos h] | rw [if_neg h]
    go_enter Try.func26, Try.ntmps26
    go_wp2
    go_ret
    exact ⟨rfl, 0, rfl⟩
theorem old_cell {W w1 : World} (hb : Below W.heap.size W w1) : (∀ b o, b < W.heap.size → w1.cell? ⟨b, o, none⟩ = W.cell? ⟨b, o, none⟩) ∧ (∀ b o, b < W.heap.size → w1.frozen? ⟨b, o, none⟩ = W.frozen? ⟨b, o, none⟩) :=
  ⟨fun b o h => hb.cell (p := ⟨b, o, none⟩) h, fun b o h => hb.frozen (p := ⟨b, o, none⟩) h⟩
theorem rd_alloc {w : World} {A : Option Addr} {xs : List Value} (h : Rd w w.heap.size A xs) (o : Obj) : Rd (w.alloc o) (w.alloc o).heap.size A xs := (h.below ((Below.refl _ _).alloc (Nat.le_refl _) o)).more (by simp)
theorem rd_step {w w1 : World} {A : Option Addr} {xs : List Value} (h : Rd w w.heap.size A xs) (b : Below w.heap.size w w1) : Rd w1 w1.heap.size A xs := (h.below b).more b.size
theorem own_base {w : World} {base : Nat} {e : TypeId} {g n c : Nat} {xs : List Value} (h : w.ownsRow base e 1 (.slice (some ⟨g, 0, none⟩) n c) n xs) : base ≤ g := by
  rcases h.2 with ⟨hv, hn⟩ | ⟨g', cap, cur, hv, hb, _⟩
  · cases hv
  · injection hv with h1
    injection h1 with h1
    injection h1 with h1
    omega
theorem rd_set {w : World} {B g : Nat} {xs : List Value} (h : Rd w B (some ⟨g, 0, none⟩) xs) {p : Addr} (hp : g ≠ p.block) (u : Value) : Rd (w.setCell p u) B (some ⟨g, 0, none⟩) xs := by
  rcases h with rfl | ⟨b, off, hA, hb, hc⟩
  · exact .inl rfl
  · refine .inr ⟨b, off, hA, hb, fun j v hv => ?_⟩
    have hbg : b = g := by injection hA with h1; injection h1 with h1; exact h1.symm
    rw [← hc j v hv]
    exact World.cell?_of_block (w := w) (Below.heap_setCell w p u b (by rw [hbg]; exact hp))
/-- a list's number at a place -/
def ga (zs : List Int) (j : Nat) : Int := zs.getD j 0
/-- the arc at place k of a list of arcs, its cells in a row -/
def arcV (zs : List Int) (k : Nat) : Value := .agg #[.int .i64 (ga zs (k * 4)), .int .i64 (ga zs (k * 4 + 1)), .int .i64 (ga zs (k * 4 + 2)), .int .i64 (ga zs (k * 4 + 3))]
theorem rd_getD {w : World} {b off : Nat} {zs : List Int} (hc : ∀ j u, (i64s zs)[j]? = some u → w.cell? ⟨b, off + j, none⟩ = some u) {j : Nat} (hj : j < zs.length) : w.cell? ⟨b, off + j, none⟩ = some (.int .i64 (ga zs j)) := by
  refine hc j _ ?_
  unfold i64s
  unfold ga
  rw [List.getElem?_map, List.getD_eq_getElem?_getD, List.getElem?_eq_getElem hj]
  rfl
theorem arcs_at {w : World} {B : Nat} {A : Option Addr} {zs : List Int} {n : Nat} (h : Rd w B A (i64s zs)) (hz : zs.length = n * 4) {k : Nat} (hk : k < n) :
    ∃ b o, A = some ⟨b, o, none⟩ ∧ b < B ∧ w.cell? ⟨b, o + k * 4, none⟩ = some (.int .i64 (ga zs (k * 4))) ∧ w.cell? ⟨b, o + k * 4 + 1, none⟩ = some (.int .i64 (ga zs (k * 4 + 1))) ∧
      w.cell? ⟨b, o + k * 4 + 2, none⟩ = some (.int .i64 (ga zs (k * 4 + 2))) ∧ w.cell? ⟨b, o + k * 4 + 3, none⟩ = some (.int .i64 (ga zs (k * 4 + 3))) := by
  rcases h with h0 | ⟨b, off, hA, hb, hc⟩
  · have := congrArg List.length h0
    simp at this
    subst this
    simp at hz
    omega
  · exact ⟨b, off, hA, hb, rd_getD hc (by omega), rd_getD (j := k * 4 + 1) hc (by omega), rd_getD (j := k * 4 + 2) hc (by omega), rd_getD (j := k * 4 + 3) hc (by omega)⟩
set_option maxHeartbeats 800000 in
theorem toArc_calls (f t l c : Int) (w : World) : Calls Try.prog 52 #[.agg #[.int .i64 f, .int .i64 t, .int .i64 l, .int .i64 c]] w (RetG (.agg #[.int .i64 f, .int .i64 t, .int .i64 l, .int .i64 c]) w) := by
  go_enter Try.func52, Try.ntmps52
  go_wp2_with fail
  exact bodyPost_ret (v := .agg #[.int .i64 f, .int .i64 t, .int .i64 l, .int .i64 c]) (by simp [results, Try.results52, go_sem]) rfl ⟨rfl, ((((Below.refl _ _).alloc (Nat.le_refl _) _).alloc (by simp) _).alloc (by simp; omega) _)⟩
theorem arcs_info : (Try.prog.info? 50).map (fun i => (i.zero, i.size, i.bytes)) = some (some (Value.agg #[.int .i64 0, .int .i64 0, .int .i64 0, .int .i64 0]), 4, 32) := by kernel_rfl
theorem toList_madeCells4 (z : Value) (n : Nat) : (madeCells #[z, z, z, z] n).toList = List.replicate n z := by
  apply List.ext_getElem?
  intro j
  by_cases hj : j < n
  · have h4 : j % 4 = 0 ∨ j % 4 = 1 ∨ j % 4 = 2 ∨ j % 4 = 3 := by omega
    rcases h4 with h | h | h | h <;> simp [madeCells, hj, h]
  · simp [madeCells, hj]
def OwnA (w : World) (g n : Nat) (zs : List Int) : Prop := w.ownsRow g 50 4 (.slice (some ⟨g, 0, none⟩) n n) n (i64s zs)
theorem OwnA.len {w : World} {g n : Nat} {zs : List Int} (h : OwnA w g n zs) : zs.length = n * 4 := by simpa using h.1
theorem OwnA.lt {w : World} {g s : Nat} {zs : List Int} (h : OwnA w g s zs) : g < w.heap.size := by
  rcases h.2 with ⟨hv, hn⟩ | ⟨g', cap, cur, hv, hb, hg, _⟩
  · cases hv
  · simp only [Value.slice.injEq, Option.some.injEq, Addr.mk.injEq, and_true, true_and] at hv
    obtain ⟨rfl, _⟩ := hv
    exact (Array.getElem?_eq_some_iff.1 hg).1
theorem OwnA.cell {w : World} {g s : Nat} {zs : List Int} (h : OwnA w g s zs) {k : Nat} (hk : k < s * 4) : w.cell? ⟨g, k, none⟩ = some (.int .i64 (ga zs k)) := by
  have hz : k < zs.length := by rw [h.len]; exact hk
  rw [World.ownsRow.cellAt h k hk]
  unfold i64s
  unfold ga
  rw [List.getElem?_map, List.getD_eq_getElem?_getD, List.getElem?_eq_getElem hz]
  rfl
theorem OwnA.frozen {w : World} {g s : Nat} {zs : List Int} (h : OwnA w g s zs) (k : Nat) : w.frozen? ⟨g, k, none⟩ = false := World.ownsRow.frozenAt h k
theorem OwnA.set {w : World} {g s : Nat} {zs : List Int} (h : OwnA w g s zs) (k : Nat) (v : Int) : OwnA (w.setCell ⟨g, k, none⟩ (.int .i64 v)) g s (zs.set k v) := by
  have := (World.ownsRow.stored h k (.int .i64 v)).1
  unfold OwnA
  have e : i64s (zs.set k v) = (i64s zs).set k (.int .i64 v) := by unfold i64s; rw [List.map_set]
  rw [e]
  exact this
theorem OwnA.keep {w w' : World} {g s : Nat} {zs : List Int} (h : OwnA w g s zs) (hk : w'.heap[g]? = w.heap[g]?) : OwnA w' g s zs := by
  refine ⟨h.1, ?_⟩
  rcases h.2 with hn | ⟨g', cap, cur, hv, hb, hg, rest⟩
  · exact .inl hn
  · refine .inr ⟨g', cap, cur, hv, hb, ?_, rest⟩
    simp only [Value.slice.injEq, Option.some.injEq, Addr.mk.injEq, and_true, true_and] at hv
    obtain ⟨rfl, _⟩ := hv
    rw [hk]; exact hg
theorem OwnA.step {w w' : World} {g s : Nat} {zs : List Int} (h : OwnA w g s zs) (hb : Below w.heap.size w w') : OwnA w' g s zs := h.keep (hb.block g h.lt)
theorem OwnA.other {w : World} {g s : Nat} {zs : List Int} (h : OwnA w g s zs) {p : Addr} (hp : g ≠ p.block) (u : Value) : OwnA (w.setCell p u) g s zs := h.keep (Below.heap_setCell w p u g hp)
theorem OwnA.rd {w : World} {g s : Nat} {zs : List Int} (h : OwnA w g s zs) : Rd w w.heap.size (some ⟨g, 0, none⟩) (i64s zs) := by
  refine .inr ⟨g, 0, rfl, h.lt, fun j u hu => ?_⟩
  have hj : j < zs.length := by have := (List.getElem?_eq_some_iff.1 hu).1; simpa using this
  rw [Nat.zero_add, World.ownsRow.cellAt h j (by rw [← h.len]; exact hj)]
  exact hu
theorem OwnA.of {w : World} {base g s : Nat} {zs : List Int} (h : w.ownsRow base 50 4 (.slice (some ⟨g, 0, none⟩) s s) s (i64s zs)) : OwnA w g s zs := by
  refine ⟨h.1, ?_⟩
  rcases h.2 with hn | ⟨g', cap, cur, hv, hb, rest⟩
  · exact .inl hn
  · refine .inr ⟨g', cap, cur, hv, ?_, rest⟩
    simp only [Value.slice.injEq, Option.some.injEq, Addr.mk.injEq, and_true, true_and] at hv
    omega
def mixA (zs : List Int) (n k : Nat) : List Int := (List.range (n * 4)).map fun j => if j < k * 4 then zs.getD j 0 else 0
theorem mixA_zero (zs : List Int) (n : Nat) : mixA zs n 0 = List.replicate (n * 4) 0 := by
  apply List.ext_getElem?
  intro j
  by_cases hj : j < n * 4 <;> simp [mixA, hj]
theorem mixA_all (zs : List Int) (n k : Nat) (hz : zs.length = n * 4) (hk : n ≤ k) : mixA zs n k = zs := by
  apply List.ext_getElem?
  intro j
  by_cases hj : j < n * 4
  · have : j < k * 4 := by omega
    have h2 : j < zs.length := by omega
    simp [mixA, hj, this, h2]
  · simp [mixA, hj, hz]
theorem mixA_set (zs : List Int) (n k : Nat) (hk : k < n) : ((((mixA zs n k).set (k * 4) (ga zs (k * 4))).set (k * 4 + 1) (ga zs (k * 4 + 1))).set (k * 4 + 2) (ga zs (k * 4 + 2))).set (k * 4 + 3) (ga zs (k * 4 + 3)) = mixA zs n (k + 1) := by
  apply List.ext_getElem?
  intro j
  simp only [ga, List.getElem?_set, mixA, List.getElem?_map, List.length_set, List.length_map, List.length_range]
  by_cases hj : j < n * 4
  · rw [List.getElem?_range hj]
    by_cases h3 : k * 4 + 3 = j
    · subst h3; simp [hj, show k * 4 + 3 < (k + 1) * 4 by omega]
    · by_cases h2 : k * 4 + 2 = j
      · subst h2; simp [hj, show k * 4 + 2 < (k + 1) * 4 by omega]
      · by_cases h1 : k * 4 + 1 = j
        · subst h1; simp [hj, show k * 4 + 1 < (k + 1) * 4 by omega]
        · by_cases h0 : k * 4 = j
          · subst h0; simp [hj, show k * 4 < (k + 1) * 4 by omega]
          · by_cases hl : j < k * 4
            · simp [h0, h1, h2, h3, hl, show j < (k + 1) * 4 by omega]
            · simp [h0, h1, h2, h3, hl, show ¬ j < (k + 1) * 4 by omega]
  · have h0 : ¬ k * 4 = j := by omega
    have h1 : ¬ k * 4 + 1 = j := by omega
    have h2 : ¬ k * 4 + 2 = j := by omega
    have h3 : ¬ k * 4 + 3 = j := by omega
    simp [h0, h1, h2, h3, hj]
/-- returned a list of arcs of its own -/
def RetArcs (n : Nat) (zs : List Int) (w : World) (e : Ending) (w' : World) : Prop := ∃ g, e = .returned (.slice (some ⟨g, 0, none⟩) n n) ∧ w.heap.size ≤ g ∧ OwnA w' g n zs ∧ Below w.heap.size w w'
set_option maxHeartbeats 800000 in
theorem toArcS_calls (A : Option Addr) (n c : Nat) (zs : List Int) (hz : zs.length = n * 4) (hb : n ≤ 1048576) (w : World) (h : Rd w w.heap.size A (i64s zs)) :
    Calls Try.prog 29 #[.slice A n c] w (RetArcs n zs w) := by
  obtain ⟨i0, hi0, hz0, hz1, hz2⟩ := info_parts arcs_info
  have HZ := hid hz
  clear hz
  have Hz := hid (toList_madeCells4 (Value.int .i64 0) (n * 4))
  go_enter Try.func29, Try.ntmps29
  go_wp2_with (at_make; refine wpList_make_full _ rfl _ _ 28 rfl w.heap.size 50 i0 (Value.agg #[.int .i64 0, .int .i64 0, .int .i64 0, .int .i64 0]) 4 Try.underlying28 hi0 hz0 hz1 _ _ _ _ n rfl rfl rfl rfl (by rw [hz2]; omega) (by simp only [maxLen]; omega) (Nat.le_refl _) ?_; intro w1 hown hgrow; simp only [Value.cells] at hown; rw [Hz.out, i64s_rep, ← mixA_zero zs n] at hown; have O1 := hid (OwnA.of hown); have B1 := hid (show Below w.heap.size w w1 from (Below.refl _ _).grown hgrow (Nat.le_refl _) (by simp)); clear hown hgrow)
  clear Hz
  go_loopw [4] (fun i wr => ∃ k : Nat, k ≤ n ∧ i = .int .i64 k ∧ Hid (OwnA wr w.heap.size n (mixA zs n k)) ∧ Hid (Below w.heap.size w wr)) (fun i _ => n - (intOf i).toNat)
  case atStart => exact ⟨0, Nat.zero_le _, rfl, O1, B1⟩
  case round =>
    obtain ⟨k, hk, rfl, hown, hbel⟩ := hrel
    by_cases hlt : k < n
    · obtain ⟨b, o, rfl, hbb, c0, c1, c2, c3⟩ := arcs_at (rd_step h hbel.out) HZ.out hlt
      have HS := hid (mixA_set zs n k hlt)
      generalize ga zs (k * 4) = x0 at *
      generalize ga zs (k * 4 + 1) = x1 at *
      generalize ga zs (k * 4 + 2) = x2 at *
      generalize ga zs (k * 4 + 3) = x3 at *
      go_wp2_with fail
      refine (toArc_calls x0 x1 x2 x3 _).mono ?_
      rintro e w3 ⟨rfl, bel3⟩
      have hown3 := hown.out.step bel3
      have hbel3 := hbel.out.trans (bel3.mono hbel.out.size)
      clear c0 c1 c2 c3
      have c0 := hown3.cell (k := k * 4) (by omega)
      have c1 := hown3.cell (k := k * 4 + 1) (by omega)
      have c2 := hown3.cell (k := k * 4 + 2) (by omega)
      have c3 := hown3.cell (k := k * 4 + 3) (by omega)
      have f0 := hown3.frozen (k * 4)
      have f1 := hown3.frozen (k * 4 + 1)
      have f2 := hown3.frozen (k * 4 + 2)
      have f3 := hown3.frozen (k * 4 + 3)
      have O' := hid ((((hown3.set (k * 4) x0).set (k * 4 + 1) x1).set (k * 4 + 2) x2).set (k * 4 + 3) x3)
      have B' := hid ((((hbel3.setCell (p := ⟨w.heap.size, k * 4, none⟩) (Nat.le_refl _) (.int .i64 x0)).setCell (p := ⟨w.heap.size, k * 4 + 1, none⟩) (Nat.le_refl _) (.int .i64 x1)).setCell (p := ⟨w.heap.size, k * 4 + 2, none⟩) (Nat.le_refl _) (.int .i64 x2)).setCell (p := ⟨w.heap.size, k * 4 + 3, none⟩) (Nat.le_refl _) (.int .i64 x3))
      rw [HS.out] at O'
      clear hown3 hbel3 bel3 hown hbel
      go_wp2_with fail
      go_roundw
      case rel => exact ⟨k + 1, hlt, by go_num, O', B'⟩
      case measure => simp [intOf]; omega
    · have O2 := hown.out
      rw [mixA_all zs n k HZ.out (by omega)] at O2
      have O3 := hid O2
      clear O2
      go_wp2
      go_ret
      exact ⟨_, rfl, Nat.le_refl _, O3.out, hbel.out⟩
end Go.Proofs.Ytenfleceeeimlaa.Num
