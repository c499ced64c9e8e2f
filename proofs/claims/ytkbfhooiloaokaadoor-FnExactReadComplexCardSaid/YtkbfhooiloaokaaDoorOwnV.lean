/-
  Lists of values of one cell that a call owns; what a reading hands back.
-/
import Derived.Test.YtkbfhooiloaokaaDoorOwnL
import Derived.Test.YtkbfhooiloaokaaDoorRdL
namespace Go.Proofs.YtkbfhooiloaokaaDoor.Num
open Go.RowKit Go.Proofs.Fl Go.Proofs.Tx
set_option linter.unusedVariables false
set_option linter.unusedSimpArgs false
def OwnV (w : World) (e : Nat) (A : Option Addr) (n c : Nat) (xs : List Value) : Prop := xs.length = n ∧ (n = 0 ∨ ∃ g, A = some ⟨g, 0, none⟩ ∧ w.ownsRow g e 1 (.slice A n c) n xs)
theorem OwnV.rd {w : World} {e : Nat} {A : Option Addr} {n c : Nat} {xs : List Value} (h : OwnV w e A n c xs) : Rd w w.heap.size A xs := by
  rcases h.2 with h0 | ⟨g, rfl, ho⟩
  · left; exact List.length_eq_zero_iff.1 (by rw [h.1, h0])
  · refine .inr ⟨g, 0, rfl, own_lt ho, fun j u hu => ?_⟩
    have hj : j < xs.length := (List.getElem?_eq_some_iff.1 hu).1
    rw [Nat.zero_add, World.ownsRow.cellAt ho j (by rw [Nat.mul_one, ← h.1]; exact hj)]
    exact hu
theorem OwnV.step {w w' : World} {e : Nat} {A : Option Addr} {n c : Nat} {xs : List Value} (h : OwnV w e A n c xs) (hb : Below w.heap.size w w') : OwnV w' e A n c xs := by
  refine ⟨h.1, ?_⟩
  rcases h.2 with h0 | ⟨g, rfl, ho⟩
  · exact .inl h0
  · exact .inr ⟨g, rfl, own_keep ho (hb.block g (own_lt ho))⟩
theorem OwnV.row_lt {w : World} {e : Nat} {A : Option Addr} {n c : Nat} {xs : List Value} (h : OwnV w e A n c xs) {g : Nat} (hg : rowN n A = some g) : g < w.heap.size := by
  rcases h.2 with h0 | ⟨g', rfl, ho⟩
  · subst h0; cases hg
  · by_cases hn : n = 0
    · subst hn; cases hg
    · rw [rowN_some hn] at hg; cases hg; exact own_lt ho
theorem ownV_any {w : World} {B e k c : Nat} {A : Option Addr} {xs : List Value} (h : w.ownsRow B e 1 (.slice A k c) k xs) : OwnV w e A k c xs ∧ ∀ g, rowN k A = some g → B ≤ g := by
  have hl : xs.length = k := by have := h.1; omega
  by_cases hk : k = 0
  · subst hk
    exact ⟨⟨hl, .inl rfl⟩, fun g hg => by cases hg⟩
  · obtain ⟨g, rfl⟩ := own_succ0 h hk
    refine ⟨⟨hl, .inr ⟨g, rfl, own_rebase h⟩⟩, fun g' hg => ?_⟩
    rw [rowN_some hk] at hg
    cases hg
    exact own_base h
/-- a list of the call's own, and whether there is one -/
def RetV (e0 : Nat) (xs : List Value) (b : Bool) (w : World) (e : Ending) (w' : World) : Prop := ∃ A c, e = .returned (.tuple #[.slice A xs.length c, .bool b]) ∧ OwnV w' e0 A xs.length c xs ∧ (∀ g, rowN xs.length A = some g → w.heap.size ≤ g) ∧ Below w.heap.size w w'
theorem RetV.none {e0 : Nat} {w w' : World} (h : Below w.heap.size w w') : RetV e0 [] false w (.returned (.tuple #[.slice none 0 0, .bool false])) w' := ⟨Option.none, 0, rfl, ⟨rfl, .inl rfl⟩, fun g hg => (by cases hg), h⟩
theorem RetV.some {e0 : Nat} {w w' : World} {A : Option Addr} {k c : Nat} {xs : List Value} (h : w'.ownsRow w.heap.size e0 1 (.slice A k c) k xs) (hb : Below w.heap.size w w') : RetV e0 xs true w (.returned (.tuple #[.slice A k c, .bool true])) w' := by
  have hl : xs.length = k := by have := h.1; omega
  subst hl
  exact ⟨A, c, rfl, (ownV_any h).1, (ownV_any h).2, hb⟩
theorem any_new (e : Nat) (w : World) (x : Value) : ∀ j u, [x][j]? = some u → (w.alloc (.cells #[x] e)).cell? ((⟨w.heap.size, 0, none⟩ : Addr).add j) = some u := fun j u hu =>
  World.ownsRow.cells (own_one (w := w) (base := w.heap.size) (e := e) x (Nat.le_refl _)) (g := w.heap.size) rfl j u hu
theorem f32s_snoc (xs : List Nat) (z : Nat) : f32s xs ++ [.float .f32 z] = f32s (xs ++ [z]) := by simp [f32s]
theorem f32s_oneCell (xs : List Nat) : ∀ u ∈ f32s xs, u.oneCell' = true := by
  intro u hu
  obtain ⟨b, _, rfl⟩ := List.mem_map.1 hu
  rfl
theorem f32_info : (Tryd.prog.info? 56).map (fun i => (i.zero, i.size, i.bytes)) = some (some (Value.float .f32 0), 1, 4) := by kernel_rfl
end Go.Proofs.YtkbfhooiloaokaaDoor.Num
