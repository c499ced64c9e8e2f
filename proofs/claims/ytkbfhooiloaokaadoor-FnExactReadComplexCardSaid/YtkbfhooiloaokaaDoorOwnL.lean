/-
  Lists of whole numbers that a call owns, with or without a block; what is kept while some blocks are written.
-/
import Derived.Test.YtkbfhooiloaokaaDoorOwnI
namespace Go.Proofs.YtkbfhooiloaokaaDoor.Num
open Go.RowKit Go.Proofs.Fl
set_option linter.unusedVariables false
set_option linter.unusedSimpArgs false
/-- the blocks of w, but those listed, stand in w' as they were -/
structure Kept (w w' : World) (R : List (Option Nat)) : Prop where
  os : w'.os = w.os
  tape : w'.tape = w.tape
  output : w'.output = w.output
  size : w.heap.size ≤ w'.heap.size
  block : ∀ b, b < w.heap.size → (∀ r ∈ R, some b ≠ r) → w'.heap[b]? = w.heap[b]?
theorem Kept.refl (w : World) (R : List (Option Nat)) : Kept w w R := ⟨rfl, rfl, rfl, Nat.le_refl _, fun _ _ _ => rfl⟩
theorem Kept.trans {a b c : World} {R : List (Option Nat)} (h : Kept a b R) (k : Kept b c R) : Kept a c R :=
  ⟨k.os.trans h.os, k.tape.trans h.tape, k.output.trans h.output, Nat.le_trans h.size k.size, fun i hi hr => (k.block i (Nat.lt_of_lt_of_le hi h.size) hr).trans (h.block i hi hr)⟩
theorem Kept.more {w w' : World} {R R' : List (Option Nat)} (h : Kept w w' R) (hs : ∀ r ∈ R, r ∈ R') : Kept w w' R' := ⟨h.os, h.tape, h.output, h.size, fun b hb hr => h.block b hb fun r hm => hr r (hs r hm)⟩
theorem Kept.of_below {w w' : World} (h : Below w.heap.size w w') (R : List (Option Nat)) : Kept w w' R := ⟨h.os, h.tape, h.output, h.size, fun b hb _ => h.block b hb⟩
theorem Kept.below {w w' : World} {R : List (Option Nat)} {B : Nat} (h : Kept w w' R) (hB : B ≤ w.heap.size) (hr : ∀ r ∈ R, ∀ g, r = some g → B ≤ g) : Below B w w' :=
  ⟨h.os, h.tape, h.output, h.size, fun b hb => h.block b (by omega) fun r hm e => by have := hr r hm b e.symm; omega⟩
theorem Kept.set {w w' : World} {R : List (Option Nat)} (h : Kept w w' R) {p : Addr} (hp : some p.block ∈ R) (u : Value) : Kept w (w'.setCell p u) R :=
  h.trans ⟨rfl, rfl, rfl, by simp [World.setCell], fun b hb hr => Below.heap_setCell _ _ _ _ fun e => hr _ hp (by rw [e])⟩
theorem Kept.cell {w w' : World} {R : List (Option Nat)} (h : Kept w w' R) {b : Nat} (hb : b < w.heap.size) (hr : ∀ r ∈ R, some b ≠ r) (o : Nat) : w'.cell? ⟨b, o, none⟩ = w.cell? ⟨b, o, none⟩ := World.cell?_of_block (w := w) (h.block b hb hr)
/-- the block of an address -/
def blk (A : Option Addr) : Option Nat := A.map (·.block)
theorem Rd.kept {w w' : World} {R : List (Option Nat)} {A : Option Addr} {xs : List Value} (h : Rd w w.heap.size A xs) (hk : Kept w w' R) (hr : xs = [] ∨ ∀ r ∈ R, blk A ≠ r) : Rd w' w'.heap.size A xs := by
  rcases h with h0 | ⟨b, off, hA, hb, hc⟩
  · exact .inl h0
  · rcases hr with h0 | hr
    · exact .inl h0
    · refine .inr ⟨b, off, hA, Nat.lt_of_lt_of_le hb hk.size, fun j u hu => ?_⟩
      rw [← hc j u hu]
      exact hk.cell hb (fun r hm => by have := hr r hm; rw [hA] at this; exact this) _
/-- a list that a call owns: none at all, or a block from its head on -/
def OwnL (w : World) (e size : Nat) (A : Option Addr) (n c : Nat) (zs : List Int) : Prop := zs.length = n * size ∧ (n = 0 ∨ ∃ g, A = some ⟨g, 0, none⟩ ∧ w.ownsRow g e size (.slice A n c) n (i64s zs))
theorem own_lt {w : World} {base e size g n c : Nat} {xs : List Value} (h : w.ownsRow base e size (.slice (some ⟨g, 0, none⟩) n c) n xs) : g < w.heap.size := by
  rcases h.2 with ⟨hv, hn⟩ | ⟨g', cap, cur, hv, hb, hg, _⟩
  · cases hv
  · simp only [Value.slice.injEq, Option.some.injEq, Addr.mk.injEq, and_true, true_and] at hv
    obtain ⟨rfl, _⟩ := hv
    exact (Array.getElem?_eq_some_iff.1 hg).1
theorem own_keep {w w' : World} {base e size g n c : Nat} {xs : List Value} (h : w.ownsRow base e size (.slice (some ⟨g, 0, none⟩) n c) n xs) (hk : w'.heap[g]? = w.heap[g]?) : w'.ownsRow base e size (.slice (some ⟨g, 0, none⟩) n c) n xs := by
  refine ⟨h.1, ?_⟩
  rcases h.2 with hn | ⟨g', cap, cur, hv, hb, hg, rest⟩
  · exact .inl hn
  · refine .inr ⟨g', cap, cur, hv, hb, ?_, rest⟩
    simp only [Value.slice.injEq, Option.some.injEq, Addr.mk.injEq, and_true, true_and] at hv
    obtain ⟨rfl, _⟩ := hv
    rw [hk]; exact hg
theorem own_rebase {w : World} {base e size g n c : Nat} {xs : List Value} (h : w.ownsRow base e size (.slice (some ⟨g, 0, none⟩) n c) n xs) : w.ownsRow g e size (.slice (some ⟨g, 0, none⟩) n c) n xs := by
  refine ⟨h.1, ?_⟩
  rcases h.2 with hn | ⟨g', cap, cur, hv, hb, rest⟩
  · exact .inl hn
  · refine .inr ⟨g', cap, cur, hv, ?_, rest⟩
    simp only [Value.slice.injEq, Option.some.injEq, Addr.mk.injEq, and_true, true_and] at hv
    omega
theorem OwnL.rd {w : World} {e size : Nat} {A : Option Addr} {n c : Nat} {zs : List Int} (h : OwnL w e size A n c zs) : Rd w w.heap.size A (i64s zs) := by
  rcases h.2 with h0 | ⟨g, rfl, ho⟩
  · left
    have hz : zs.length = 0 := by rw [h.1, h0]; simp
    rw [List.length_eq_zero_iff.1 hz]; rfl
  · refine .inr ⟨g, 0, rfl, own_lt ho, fun j u hu => ?_⟩
    have hj : j < zs.length := by have := (List.getElem?_eq_some_iff.1 hu).1; simpa using this
    rw [Nat.zero_add, World.ownsRow.cellAt ho j (by rw [← h.1]; exact hj)]
    exact hu
theorem OwnL.kept {w w' : World} {R : List (Option Nat)} {e size : Nat} {A : Option Addr} {n c : Nat} {zs : List Int} (h : OwnL w e size A n c zs) (hk : Kept w w' R) (hr : n = 0 ∨ ∀ r ∈ R, blk A ≠ r) : OwnL w' e size A n c zs := by
  refine ⟨h.1, ?_⟩
  rcases h.2 with h0 | ⟨g, rfl, ho⟩
  · exact .inl h0
  · rcases hr with h0 | hr
    · exact .inl h0
    · exact .inr ⟨g, rfl, own_keep ho (hk.block g (own_lt ho) fun r hm => hr r hm)⟩
theorem OwnL.step {w w' : World} {e size : Nat} {A : Option Addr} {n c : Nat} {zs : List Int} (h : OwnL w e size A n c zs) (hb : Below w.heap.size w w') : OwnL w' e size A n c zs := h.kept (Kept.of_below hb []) (.inr (by simp))
theorem OwnI.ownL {w : World} {g s : Nat} {zs : List Int} (h : OwnI w g s zs) : OwnL w 2 1 (some ⟨g, 0, none⟩) s s zs := ⟨by rw [h.len]; omega, .inr ⟨g, rfl, h⟩⟩
/-- the block that a list lies in, if it has any element -/
def rowN (n : Nat) (A : Option Addr) : Option Nat := if n = 0 then none else blk A
theorem rowN_zero (A : Option Addr) : rowN 0 A = none := rfl
theorem rowN_some {n g : Nat} (h : n ≠ 0) : rowN n (some ⟨g, 0, none⟩) = some g := by simp [rowN, h, blk]
theorem OwnL.row_lt {w : World} {e size : Nat} {A : Option Addr} {n c : Nat} {zs : List Int} (h : OwnL w e size A n c zs) {g : Nat} (hg : rowN n A = some g) : g < w.heap.size := by
  rcases h.2 with h0 | ⟨g', rfl, ho⟩
  · subst h0; cases hg
  · by_cases hn : n = 0
    · subst hn; cases hg
    · rw [rowN_some hn] at hg; cases hg; exact own_lt ho
/-- kept, as its block is none of those written -/
theorem OwnL.apart {w w' : World} {R : List (Option Nat)} {e size : Nat} {A : Option Addr} {n c : Nat} {zs : List Int} (h : OwnL w e size A n c zs) (hk : Kept w w' R) (hr : ∀ g, rowN n A = some g → ∀ r ∈ R, some g ≠ r) : OwnL w' e size A n c zs := by
  refine ⟨h.1, ?_⟩
  rcases h.2 with h0 | ⟨g, rfl, ho⟩
  · exact .inl h0
  · by_cases hn : n = 0
    · exact .inl hn
    · exact .inr ⟨g, rfl, own_keep ho (hk.block g (own_lt ho) fun r hm => hr g (rowN_some hn) r hm)⟩
/-- kept, as its block lies below -/
theorem OwnL.under {w w' : World} {lo : Nat} {e size : Nat} {A : Option Addr} {n c : Nat} {zs : List Int} (h : OwnL w e size A n c zs) (hb : Below lo w w') (hr : ∀ g, rowN n A = some g → g < lo) : OwnL w' e size A n c zs := by
  refine ⟨h.1, ?_⟩
  rcases h.2 with h0 | ⟨g, rfl, ho⟩
  · exact .inl h0
  · by_cases hn : n = 0
    · exact .inl hn
    · exact .inr ⟨g, rfl, own_keep ho (hb.block g (hr g (rowN_some hn)))⟩
end Go.Proofs.YtkbfhooiloaokaaDoor.Num
