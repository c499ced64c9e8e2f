/-
  The list with a text, by both texts (l01Numbers, readList, ReadList).
-/
import Derived.Test.YtkbfhooiloaokaaDoorPieces
import Derived.Test.YtkbfhooiloaokaaDoorOwnL
import Derived.Test.YtkbfhooiloaokaaDoorReadDec
namespace Go.Proofs.YtkbfhooiloaokaaDoor.Num
open Go.RowKit Go.Proofs.Fl Go.Proofs.Tx Go.Proofs.Dc
set_option linter.unusedVariables false
set_option linter.unusedSimpArgs false
theorem i64_info : (Tryd.prog.info? 2).map (fun i => (i.zero, i.size, i.bytes)) = some (some (Value.int .i64 0), 1, 8) := by kernel_rfl
theorem own_succ0 {w : World} {B e k c : Nat} {A : Option Addr} {xs : List Value} (h : w.ownsRow B e 1 (.slice A k c) k xs) (hk : k ≠ 0) : ∃ g, A = some ⟨g, 0, none⟩ := by
  obtain ⟨k', rfl⟩ : ∃ k', k = k' + 1 := ⟨k - 1, by omega⟩
  obtain ⟨g, cap, he, _⟩ := own_succ1 h
  simp only [Value.slice.injEq] at he
  exact ⟨g, he.1⟩
theorem own_base {w : World} {base e size g n c : Nat} {xs : List Value} (h : w.ownsRow base e size (.slice (some ⟨g, 0, none⟩) n c) n xs) : base ≤ g := by
  rcases h.2 with ⟨hv, hn⟩ | ⟨g', cap, cur, hv, hb, _⟩
  · cases hv
  · simp only [Value.slice.injEq, Option.some.injEq, Addr.mk.injEq, and_true, true_and] at hv
    omega
theorem ownL_any {w : World} {B k c : Nat} {A : Option Addr} {zs : List Int} (h : w.ownsRow B 2 1 (.slice A k c) k (i64s zs)) : OwnL w 2 1 A k c zs ∧ ∀ g, rowN k A = some g → B ≤ g := by
  have hl : zs.length = k * 1 := by have := h.1; rw [i64s_length] at this; omega
  by_cases hk : k = 0
  · subst hk
    exact ⟨⟨hl, .inl rfl⟩, fun g hg => by cases hg⟩
  · obtain ⟨g, rfl⟩ := own_succ0 h hk
    refine ⟨⟨hl, .inr ⟨g, rfl, own_rebase h⟩⟩, fun g' hg => ?_⟩
    rw [rowN_some hk] at hg
    cases hg
    exact own_base h
/-- a list of whole numbers of the call's own, and whether there is one -/
def RetList (o : Option (List Int)) (w : World) (e : Ending) (w' : World) : Prop := ∃ A c, e = .returned (.tuple #[.slice A (o.getD []).length c, .bool o.isSome]) ∧ OwnL w' 2 1 A (o.getD []).length c (o.getD []) ∧ (∀ g, rowN (o.getD []).length A = some g → w.heap.size ≤ g) ∧ Below w.heap.size w w'
theorem RetList.none {w w' : World} (h : Below w.heap.size w w') : RetList none w (.returned (.tuple #[.slice none 0 0, .bool false])) w' := ⟨Option.none, 0, rfl, ⟨rfl, .inl rfl⟩, fun g hg => (by cases hg), h⟩
theorem RetList.some {w w' : World} {A : Option Addr} {k c : Nat} {zs : List Int} (h : w'.ownsRow w.heap.size 2 1 (.slice A k c) k (i64s zs)) (hb : Below w.heap.size w w') : RetList (some zs) w (.returned (.tuple #[.slice A k c, .bool true])) w' := by
  have hl : zs.length = k := by have := h.1; rw [i64s_length] at this; omega
  subst hl
  exact ⟨A, c, rfl, (ownL_any h).1, (ownL_any h).2, hb⟩
/-- the list with a text, of 64 numbers at most -/
def readL (l : List UInt8) : Option (List Int) := if l = none4 then some [] else if (cut l).length ≤ 64 ∧ okAll rdDec (cut l) = true then some (vals rdDec 0 (cut l)) else none
/-- the cell of a list of texts -/
theorem OwnT.cell {w : World} {B k c : Nat} {A : Option Addr} {ts : List (List UInt8)} (h : OwnT w B (.slice A k c) k ts) {j : Nat} (hj : j < k) : ∃ g, A = some ⟨g, 0, none⟩ ∧ g < w.heap.size ∧ B ≤ g ∧ w.cell? ⟨g, j, none⟩ = some (.string ⟨(ts[j]'(by rw [h.len]; exact hj)).toArray⟩) := by
  obtain ⟨g, rfl⟩ := own_succ0 h (by omega)
  refine ⟨g, rfl, (World.ownsRow.lt h g rfl).2, own_base h, ?_⟩
  have hl := h.len
  rw [World.ownsRow.cellAt h j (by omega)]
  unfold strs
  rw [List.getElem?_map, List.getElem?_eq_getElem (by omega)]
  rfl
/-- two lists that lie in two blocks -/
def Apart (A B : Option Addr) : Prop := ∀ x y, A = some ⟨x, 0, none⟩ → B = some ⟨y, 0, none⟩ → x ≠ y
theorem own_shape {w : World} {B e k c : Nat} {A : Option Addr} {xs : List Value} (h : w.ownsRow B e 1 (.slice A k c) k xs) : A = none ∨ ∃ g, A = some ⟨g, 0, none⟩ := by
  rcases h.2 with ⟨hv, _⟩ | ⟨g, cap, cur, hv, _⟩
  · simp only [Value.slice.injEq] at hv
    exact .inl hv.1
  · simp only [Value.slice.injEq] at hv
    exact .inr ⟨g, hv.1⟩
theorem own_block (g k c : Nat) : (Value.slice (some ⟨g, 0, none⟩) k c).ownBlock = some g := rfl
theorem own_block0 (k c : Nat) : (Value.slice none k c).ownBlock = none := rfl
theorem keep_texts {w2 w5 : World} {o : Obj} {A2 A3 : Option Addr} {N c2 k c3 B B3 e : Nat} {P : List (List UInt8)} {xs : List Value} (hP : OwnT w2 B (.slice A2 N c2) N P) (hO : w2.ownsRow B3 e 1 (.slice A3 k c3) k xs) (hg : (w2.alloc o).grownBy w5 (Value.slice A3 k c3).ownBlock) (hap : Apart A3 A2) : OwnT w5 B (.slice A2 N c2) N P := by
  refine World.ownsRow.kept (hP.alloc o) hg ?_
  rcases own_shape hP with rfl | ⟨y, rfl⟩
  · exact .inl rfl
  · right
    rw [own_block]
    rcases own_shape hO with rfl | ⟨x, rfl⟩
    · rw [own_block0]; simp
    · rw [own_block]
      have := hap x y rfl rfl
      simp only [ne_eq, Option.some.injEq]
      omega
theorem apart_new {w2 : World} {o : Obj} {A2 A3 : Option Addr} {N c2 k c3 B B3 e g2 : Nat} {P : List (List UInt8)} {xs : List Value} (hP : OwnT w2 B (.slice A2 N c2) N P) (hO : w2.ownsRow B3 e 1 (.slice A3 k c3) k xs) (hap : Apart A3 A2) (hat : (Value.slice A3 k c3).ownBlock = some g2 ∨ g2 = (w2.alloc o).heap.size) : Apart (some ⟨g2, 0, none⟩) A2 := by
  intro x y hx hy
  simp only [Option.some.injEq, Addr.mk.injEq, and_true] at hx
  subst hx
  subst hy
  have hlt := (World.ownsRow.lt hP y rfl).2
  rcases hat with hat | rfl
  · rcases own_shape hO with rfl | ⟨z, rfl⟩
    · rw [own_block0] at hat; cases hat
    · rw [own_block] at hat
      cases hat
      exact hap _ y rfl rfl
  · simp; omega
theorem i64_new (w : World) (x : Value) : ∀ j u, [x][j]? = some u → (w.alloc (.cells #[x] 2)).cell? ((⟨w.heap.size, 0, none⟩ : Addr).add j) = some u := fun j u hu =>
  World.ownsRow.cells (own_one (w := w) (base := w.heap.size) (e := 2) x (Nat.le_refl _)) (g := w.heap.size) rfl j u hu
theorem i64s_snoc (zs : List Int) (z : Int) : i64s zs ++ [.int .i64 z] = i64s (zs ++ [z]) := by simp [i64s]
theorem i64s_oneCell' (zs : List Int) : ∀ u ∈ i64s zs, u.oneCell' = true := by
  intro u hu
  obtain ⟨b, _, rfl⟩ := List.mem_map.1 hu
  rfl
theorem mk_size (l : List UInt8) : (⟨l.toArray⟩ : ByteArray).size = l.length := by
  show (l.toArray).size = l.length
  simp
theorem mk_list (l : List UInt8) : (⟨l.toArray⟩ : ByteArray).data.toList = l := by simp
theorem cut_piece (l : List UInt8) : ∀ p ∈ cut l, p.length ≤ l.length := by
  induction l with
  | nil => intro p hp; simp [cut] at hp; subst hp; exact Nat.le_refl _
  | cons b l ih =>
    intro p hp
    unfold cut at hp
    split at hp
    · rcases List.mem_cons.1 hp with rfl | hp
      · simp
      · have := ih p hp; simp; omega
    · cases hc : cut l with
      | nil => exact absurd hc (cut_ne l)
      | cons x r =>
        rw [hc] at hp ih
        simp only [glue, List.mem_cons] at hp
        rcases hp with rfl | hp
        · have := ih x (by simp); simp; omega
        · have := ih p (by simp [hp]); simp; omega
end Go.Proofs.YtkbfhooiloaokaaDoor.Num
