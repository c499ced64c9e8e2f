/-
  A list of whole numbers in a block of one's own.
-/
import Derived.Test.YtkbfhooiloaokaaDoorToI64
import Derived.OwnWalk
namespace Go.Proofs.YtkbfhooiloaokaaDoor.Num
open Go.RowKit Go.Proofs.Fl
set_option linter.unusedVariables false
set_option linter.unusedSimpArgs false
def OwnI (w : World) (g s : Nat) (zs : List Int) : Prop := w.ownsRow g 2 1 (.slice (some ⟨g, 0, none⟩) s s) s (i64s zs)
theorem OwnI.len {w : World} {g s : Nat} {zs : List Int} (h : OwnI w g s zs) : zs.length = s := by simpa using h.1
theorem OwnI.cell {w : World} {g s : Nat} {zs : List Int} (h : OwnI w g s zs) {k : Nat} (hk : k < s) : w.cell? ⟨g, k, none⟩ = some (.int .i64 (zs.getD k 0)) := by
  have hz : k < zs.length := by rw [h.len]; exact hk
  rw [World.ownsRow.cellAt h k (by omega)]
  unfold i64s
  rw [List.getElem?_map, List.getD_eq_getElem?_getD, List.getElem?_eq_getElem hz]
  rfl
theorem OwnI.frozen {w : World} {g s : Nat} {zs : List Int} (h : OwnI w g s zs) (k : Nat) : w.frozen? ⟨g, k, none⟩ = false := World.ownsRow.frozenAt h k
theorem OwnI.set {w : World} {g s : Nat} {zs : List Int} (h : OwnI w g s zs) (k : Nat) (v : Int) : OwnI (w.setCell ⟨g, k, none⟩ (.int .i64 v)) g s (zs.set k v) := by
  have := (World.ownsRow.stored h k (.int .i64 v)).1
  unfold OwnI
  have e : i64s (zs.set k v) = (i64s zs).set k (.int .i64 v) := by unfold i64s; rw [List.map_set]
  rw [e]
  exact this
theorem OwnI.rd {w : World} {g s : Nat} {zs : List Int} (h : OwnI w g s zs) : Rd w w.heap.size (some ⟨g, 0, none⟩) (i64s zs) := Rd.of_own h
theorem OwnI.drew {w : World} {g s : Nat} {zs : List Int} (h : OwnI w g s zs) : OwnI w.drew g s zs := h
theorem OwnI.drewN {w : World} {g s : Nat} {zs : List Int} (h : OwnI w g s zs) (k : Nat) : OwnI (w.drewN k) g s zs := h
theorem OwnI.lt {w : World} {g s : Nat} {zs : List Int} (h : OwnI w g s zs) : g < w.heap.size := by
  rcases h.2 with ⟨hv, hn⟩ | ⟨g', cap, cur, hv, hb, hg, _⟩
  · cases hv
  · simp only [Value.slice.injEq, Option.some.injEq, Addr.mk.injEq, and_true, true_and] at hv
    obtain ⟨rfl, _⟩ := hv
    exact (Array.getElem?_eq_some_iff.1 hg).1
theorem OwnI.keep {w w' : World} {g s : Nat} {zs : List Int} (h : OwnI w g s zs) (hk : w'.heap[g]? = w.heap[g]?) : OwnI w' g s zs := by
  refine ⟨h.1, ?_⟩
  rcases h.2 with hn | ⟨g', cap, cur, hv, hb, hg, rest⟩
  · exact .inl hn
  · refine .inr ⟨g', cap, cur, hv, hb, ?_, rest⟩
    simp only [Value.slice.injEq, Option.some.injEq, Addr.mk.injEq, and_true, true_and] at hv
    obtain ⟨rfl, _⟩ := hv
    rw [hk]; exact hg
theorem OwnI.step {w w' : World} {g s : Nat} {zs : List Int} (h : OwnI w g s zs) (hb : Below w.heap.size w w') : OwnI w' g s zs := h.keep (hb.block g h.lt)
theorem OwnI.other {w : World} {g s : Nat} {zs : List Int} (h : OwnI w g s zs) {p : Addr} (hp : g ≠ p.block) (u : Value) : OwnI (w.setCell p u) g s zs := h.keep (Below.heap_setCell w p u g hp)
theorem OwnI.of {w : World} {base g s : Nat} {zs : List Int} (h : w.ownsRow base 2 1 (.slice (some ⟨g, 0, none⟩) s s) s (i64s zs)) : OwnI w g s zs := by
  refine ⟨h.1, ?_⟩
  rcases h.2 with hn | ⟨g', cap, cur, hv, hb, rest⟩
  · exact .inl hn
  · refine .inr ⟨g', cap, cur, hv, ?_, rest⟩
    simp only [Value.slice.injEq, Option.some.injEq, Addr.mk.injEq, and_true, true_and] at hv
    omega
theorem i64s_rep (s : Nat) : List.replicate s (Value.int .i64 0) = i64s (List.replicate s 0) := by unfold i64s; rw [List.map_replicate]
end Go.Proofs.YtkbfhooiloaokaaDoor.Num
