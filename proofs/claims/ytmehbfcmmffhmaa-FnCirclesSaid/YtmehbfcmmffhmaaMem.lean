/-
  Slices that are read: a slice value whose elements, of one cell each, are a given list. Over no program.
-/
import Derived.Below
import Derived.Laws.OwnMore
import Derived.Deep.Draws
import Derived.WalkSmall
import Derived.Deep.Slices
namespace Go.Proofs.Fl
open Go Go.RowKit

@[go_sem] theorem run_store_float (P : Program) (w : World) (a : Addr) (m : Mode) (k : FloatKind) (b : Nat) : (store a (.float k b) m).run P w = stored P w a (.float k b) m := run_store P w a _ m rfl
@[go_sem] theorem run_store_complex (P : Program) (w : World) (a : Addr) (m : Mode) (k : FloatKind) (b c : Nat) : (store a (.complex k b c) m).run P w = stored P w a (.complex k b c) m := run_store P w a _ m rfl

/-- the slice at A reads as the values xs, and lies below block B -/
def Rd (w : World) (B : Nat) (A : Option Addr) (xs : List Value) : Prop :=
  xs = [] ∨ ∃ b off, A = some ⟨b, off, none⟩ ∧ b < B ∧ ∀ j u, xs[j]? = some u → w.cell? ⟨b, off + j, none⟩ = some u

theorem Rd.nil {w : World} {B : Nat} {A : Option Addr} : Rd w B A [] := .inl rfl
theorem Rd.at_ {w : World} {B : Nat} {A : Option Addr} {xs : List Value} (h : Rd w B A xs) {k : Nat} (hk : k < xs.length) :
    ∃ b off, A = some ⟨b, off, none⟩ ∧ b < B ∧ w.cell? ⟨b, off + k, none⟩ = some (xs[k]) := by
  rcases h with rfl | ⟨b, off, hA, hb, hc⟩
  · simp at hk
  · exact ⟨b, off, hA, hb, hc k _ (List.getElem?_eq_getElem hk)⟩
theorem Rd.keep {w w' : World} {B : Nat} {A : Option Addr} {xs : List Value} (h : Rd w B A xs) (hk : ∀ p : Addr, p.block < B → w'.cell? p = w.cell? p) : Rd w' B A xs := by
  rcases h with rfl | ⟨b, off, hA, hb, hc⟩
  · exact .inl rfl
  · exact .inr ⟨b, off, hA, hb, fun j u hu => (hk _ hb).trans (hc j u hu)⟩
theorem Rd.more {w : World} {B B' : Nat} {A : Option Addr} {xs : List Value} (h : Rd w B A xs) (hB : B ≤ B') : Rd w B' A xs := by
  rcases h with rfl | ⟨b, off, hA, hb, hc⟩
  · exact .inl rfl
  · exact .inr ⟨b, off, hA, by omega, hc⟩
theorem Rd.below {w w' : World} {B : Nat} {A : Option Addr} {xs : List Value} (h : Rd w B A xs) (hb : Below B w w') : Rd w' B A xs := h.keep fun _ hp => hb.cell hp
theorem Rd.drewN {w : World} {B : Nat} {A : Option Addr} {xs : List Value} (h : Rd w B A xs) (k : Nat) : Rd (w.drewN k) B A xs := h
theorem Rd.of_own {w : World} {base : Nat} {e : TypeId} {A : Option Addr} {n c : Nat} {xs : List Value} (h : w.ownsRow base e 1 (.slice A n c) n xs) : Rd w w.heap.size A xs := by
  rcases h.2 with ⟨hv, hn⟩ | ⟨g, cap, cur, hv, hb, hg, hcap, hm, hs, ht⟩
  · left
    have := h.1
    rw [hn] at this
    exact List.eq_nil_of_length_eq_zero (by simpa using this)
  · right
    have hA : A = some ⟨g, 0, none⟩ := by injection hv
    refine ⟨g, 0, hA, (Array.getElem?_eq_some_iff.1 hg).1, fun j u hu => ?_⟩
    rw [Nat.zero_add, cell_of_row w g j cur e (0, 0) hg]
    rw [← ht, List.getElem?_take] at hu
    split at hu
    · simpa using hu
    · cases hu

/-- a slice of float32 that came in -/
def f32s (xs : List Nat) : List Value := xs.map (Value.float .f32)
@[simp] theorem f32s_length (xs : List Nat) : (f32s xs).length = xs.length := by simp [f32s]
theorem f32s_at {w : World} {B : Nat} {A : Option Addr} {xs : List Nat} (h : Rd w B A (f32s xs)) {k : Nat} (hk : k < xs.length) :
    ∃ b off, A = some ⟨b, off, none⟩ ∧ b < B ∧ w.cell? ⟨b, off + k, none⟩ = some (.float .f32 xs[k]) := by
  obtain ⟨b, off, h1, h2, h3⟩ := h.at_ (k := k) (by simpa using hk)
  exact ⟨b, off, h1, h2, by simpa [f32s] using h3⟩
def i64s (xs : List Int) : List Value := xs.map (Value.int .i64)
@[simp] theorem i64s_length (xs : List Int) : (i64s xs).length = xs.length := by simp [i64s]
theorem i64s_at {w : World} {B : Nat} {A : Option Addr} {xs : List Int} (h : Rd w B A (i64s xs)) {k : Nat} (hk : k < xs.length) :
    ∃ b off, A = some ⟨b, off, none⟩ ∧ b < B ∧ w.cell? ⟨b, off + k, none⟩ = some (.int .i64 xs[k]) := by
  obtain ⟨b, off, h1, h2, h3⟩ := h.at_ (k := k) (by simpa using hk)
  exact ⟨b, off, h1, h2, by simpa [i64s] using h3⟩
def bools (xs : List Bool) : List Value := xs.map Value.bool
@[simp] theorem bools_length (xs : List Bool) : (bools xs).length = xs.length := by simp [bools]
theorem bools_at {w : World} {B : Nat} {A : Option Addr} {xs : List Bool} (h : Rd w B A (bools xs)) {k : Nat} (hk : k < xs.length) :
    ∃ b off, A = some ⟨b, off, none⟩ ∧ b < B ∧ w.cell? ⟨b, off + k, none⟩ = some (.bool xs[k]) := by
  obtain ⟨b, off, h1, h2, h3⟩ := h.at_ (k := k) (by simpa using hk)
  exact ⟨b, off, h1, h2, by simpa [bools] using h3⟩

section
open Go.ChangeShapes Go.WideShapes Go.Deep
variable {H : Type} {enc : TypeId × Value → H} {P : Program} {w : World} {spare : Nat → Bool} {held : Bool}
/-- down: a slice argument whose elements are one cell each -/
theorem rd_of_trod {t e : TypeId} {v : Value} {d : DataW H} {p : List MemPlace} (ht : P.underlying t = some (.slice e)) (hc : P.cellsOf e = 1)
    (hok : ∃ A n c, v = .slice A n c) (h : DataW.Trod enc P w 0 spare held t v d p)
    (Q : Value → Prop) (hQ : ∀ fuel u x, DataW.trod enc P w 0 spare held fuel e [u] = some x → Q u) :
    ∃ A n c xs, v = .slice A n c ∧ xs.length = n ∧ n ≤ c ∧ c ≤ maxLen ∧ Rd w w.heap.size A xs ∧ ∀ u ∈ xs, Q u := by
  obtain ⟨A, n, c, rfl⟩ := hok
  obtain ⟨fuel, hf⟩ := h
  have hf' : DataW.trod enc P w 0 spare held fuel t [.slice A n c] = some (d, p) := by simpa [Value.cells] using hf
  rcases open_slice1 ht hc hf' with ⟨h1, _⟩ | ⟨a, len, cap, m, n', V, D, Pl, h1, hb, hl, hm, hmm, _, hx⟩
  · simp at h1
    obtain ⟨rfl, rfl, rfl⟩ := h1
    exact ⟨none, 0, 0, [], rfl, rfl, Nat.le_refl _, by simp [maxLen], .inl rfl, by simp⟩
  · simp at h1
    obtain ⟨rfl, rfl, rfl⟩ := h1
    have hle : n ≤ m := by rw [hmm]; split <;> omega
    refine ⟨_, n, c, (List.range n).map V, rfl, by simp, hl, hm, ?_, ?_⟩
    · by_cases hn : n = 0
      · left; simp [hn]
      · right
        obtain ⟨b, off, spot⟩ := a
        have h0 := (hx 0 (by omega)).1
        have hspot : spot = none := by simpa [Addr.add] using World.cell?_spot h0
        subst hspot
        refine ⟨b, off, rfl, World.block_lt_of_cell? w _ (by simpa [Addr.add] using h0), fun j u hu => ?_⟩
        have hj : j < n := by
          have := (List.getElem?_eq_some_iff.1 hu).1
          simpa using this
        have hc := (hx j (by omega)).1
        have e : (⟨b, off, none⟩ : Addr).add j = ⟨b, off + j, none⟩ := by unfold Addr.add; split <;> simp_all
        rw [e] at hc
        rw [hc]
        simpa [hj] using hu
    · intro u hu
      obtain ⟨j, hj, rfl⟩ := List.mem_map.1 hu
      exact hQ _ _ _ (hx j (by have := List.mem_range.1 hj; omega)).2
end

section
open Go.ChangeShapes Go.WideShapes Go.Deep
variable {H : Type} {enc : TypeId × Value → H} {P : Program} {w : World} {spare : Nat → Bool} {held : Bool}
theorem exists_list {α : Type} {f : α → Value} {q : α → Prop} : ∀ (l : List Value), (∀ u ∈ l, ∃ x, u = f x ∧ q x) → ∃ zs : List α, l = zs.map f ∧ ∀ z ∈ zs, q z
  | [], _ => ⟨[], rfl, by simp⟩
  | u :: us, h => by
    obtain ⟨x, rfl, hx⟩ := h u (by simp)
    obtain ⟨zs, rfl, hz⟩ := exists_list us fun v hv => h v (by simp [hv])
    exact ⟨x :: zs, rfl, by simpa using ⟨hx, hz⟩⟩
theorem trod_float {e : TypeId} {k : FloatKind} {fuel : Nat} {u : Value} {x : DataW H × List MemPlace} (he : P.underlying e = some (.float k))
    (h : DataW.trod enc P w 0 spare held fuel e [u] = some x) : ∃ b, u = .float k b ∧ (Lit.float k b).wf = true := by
  cases fuel with
  | zero => simp [DataW.trod] at h
  | succ n =>
    simp only [DataW.trod, he] at h
    cases u <;> simp at h
    rename_i k' b
    obtain ⟨⟨rfl, hw⟩, _⟩ := h
    exact ⟨b, rfl, hw⟩
theorem trod_bool {e : TypeId} {fuel : Nat} {u : Value} {x : DataW H × List MemPlace} (he : P.underlying e = some .bool)
    (h : DataW.trod enc P w 0 spare held fuel e [u] = some x) : ∃ b, u = .bool b ∧ True := by
  cases fuel with
  | zero => simp [DataW.trod] at h
  | succ n =>
    simp only [DataW.trod, he] at h
    cases u <;> simp at h
    exact ⟨_, rfl, trivial⟩
theorem open_f32s {base : Nat} {t e : TypeId} {v : Value} {d : DataW H} {p : List MemPlace} (ht : P.underlying t = some (.slice e)) (he : P.underlying e = some (.float .f32)) (hc : P.cellsOf e = 1)
    {r : Reach} (hok : Value.okWide P w r base t v) (h : DataW.Trod enc P w 0 spare held t v d p) :
    ∃ A n c zs, v = .slice A n c ∧ zs.length = n ∧ n ≤ c ∧ c ≤ maxLen ∧ Rd w w.heap.size A (f32s zs) ∧ ∀ z ∈ zs, (Lit.float .f32 z).wf = true := by
  obtain ⟨A0, l0, c0, hv⟩ := okWide_slice ht hok
  obtain ⟨A, n, c, xs, rfl, hl, h1, h2, h3, h4⟩ := rd_of_trod ht hc ⟨A0, l0, c0, hv⟩ h (fun u => ∃ b, u = .float .f32 b ∧ (Lit.float .f32 b).wf = true) (fun _ _ _ hh => trod_float he hh)
  obtain ⟨zs, rfl, hz⟩ := exists_list xs h4
  exact ⟨A, n, c, zs, rfl, by simpa using hl, h1, h2, h3, hz⟩
theorem open_i64s {base : Nat} {t e : TypeId} {v : Value} {d : DataW H} {p : List MemPlace} (ht : P.underlying t = some (.slice e)) (he : P.underlying e = some (.int .i64)) (hc : P.cellsOf e = 1)
    {r : Reach} (hok : Value.okWide P w r base t v) (h : DataW.Trod enc P w 0 spare held t v d p) :
    ∃ A n c zs, v = .slice A n c ∧ zs.length = n ∧ n ≤ c ∧ c ≤ maxLen ∧ Rd w w.heap.size A (i64s zs) ∧ ∀ z ∈ zs, (Lit.int .i64 z).wf = true := by
  obtain ⟨A0, l0, c0, hv⟩ := okWide_slice ht hok
  obtain ⟨A, n, c, xs, rfl, hl, h1, h2, h3, h4⟩ := rd_of_trod ht hc ⟨A0, l0, c0, hv⟩ h (fun u => ∃ b, u = .int .i64 b ∧ (Lit.int .i64 b).wf = true) (fun _ u _ hh => by
    obtain ⟨m, hm, _, hw⟩ := DataW.trod_int he hh
    simp at hm
    exact ⟨m, hm, hw⟩)
  obtain ⟨zs, rfl, hz⟩ := exists_list xs h4
  exact ⟨A, n, c, zs, rfl, by simpa using hl, h1, h2, h3, hz⟩
theorem open_bytes {base : Nat} {t e : TypeId} {v : Value} {d : DataW H} {p : List MemPlace} (ht : P.underlying t = some (.slice e)) (he : P.underlying e = some (.int .u8)) (hc : P.cellsOf e = 1)
    {r : Reach} (hok : Value.okWide P w r base t v) (h : DataW.Trod enc P w 0 spare held t v d p) :
    ∃ A n c, ∃ zs : List Int, v = .slice A n c ∧ zs.length = n ∧ n ≤ c ∧ c ≤ maxLen ∧ Rd w w.heap.size A (zs.map (Value.int .u8)) ∧ ∀ z ∈ zs, (Lit.int .u8 z).wf = true := by
  obtain ⟨A0, l0, c0, hv⟩ := okWide_slice ht hok
  obtain ⟨A, n, c, xs, rfl, hl, h1, h2, h3, h4⟩ := rd_of_trod ht hc ⟨A0, l0, c0, hv⟩ h (fun u => ∃ b, u = .int .u8 b ∧ (Lit.int .u8 b).wf = true) (fun _ u _ hh => by
    obtain ⟨m, hm, _, hw⟩ := DataW.trod_int he hh
    simp at hm
    exact ⟨m, hm, hw⟩)
  obtain ⟨zs, rfl, hz⟩ := exists_list xs h4
  exact ⟨A, n, c, zs, rfl, by simpa using hl, h1, h2, h3, hz⟩
theorem open_bools {base : Nat} {t e : TypeId} {v : Value} {d : DataW H} {p : List MemPlace} (ht : P.underlying t = some (.slice e)) (he : P.underlying e = some .bool) (hc : P.cellsOf e = 1)
    {r : Reach} (hok : Value.okWide P w r base t v) (h : DataW.Trod enc P w 0 spare held t v d p) :
    ∃ A n c zs, v = .slice A n c ∧ zs.length = n ∧ n ≤ c ∧ c ≤ maxLen ∧ Rd w w.heap.size A (bools zs) := by
  obtain ⟨A0, l0, c0, hv⟩ := okWide_slice ht hok
  obtain ⟨A, n, c, xs, rfl, hl, h1, h2, h3, h4⟩ := rd_of_trod ht hc ⟨A0, l0, c0, hv⟩ h (fun u => ∃ b, u = .bool b ∧ True) (fun _ _ _ hh => trod_bool he hh)
  obtain ⟨zs, rfl, hz⟩ := exists_list xs h4
  exact ⟨A, n, c, zs, rfl, by simpa using hl, h1, h2, h3⟩
end

/-- returned a new slice of n elements xs, of one cell each; what was there is as it was -/
def RetOwn (E : TypeId) (n : Nat) (xs : List Value) (w : World) (e : Ending) (w' : World) : Prop :=
  ∃ g, e = .returned (.slice (some ⟨g, 0, none⟩) n n) ∧ w'.ownsRow w.heap.size E 1 (.slice (some ⟨g, 0, none⟩) n n) n xs ∧ Below w.heap.size w w'

/-- copied so far: the first k of xs, zeros behind -/
def copied {α : Type} (f : α → Value) (z : Value) (xs : List α) (n k : Nat) : List Value := (xs.take k).map f ++ List.replicate (n - k) z
theorem copied_zero {α : Type} (f : α → Value) (z : Value) (xs : List α) (n : Nat) : copied f z xs n 0 = List.replicate n z := by simp [copied]
theorem copied_set {α : Type} (f : α → Value) (z : Value) (xs : List α) (n k : Nat) (hn : xs.length = n) (hk : k < xs.length) : (copied f z xs n k).set k (f xs[k]) = copied f z xs n (k + 1) := by
  unfold copied
  have hl : ((xs.take k).map f).length = k := by simp; omega
  rw [List.set_append, if_neg (by omega), hl, Nat.sub_self]
  have hr : n - k = (n - (k + 1)) + 1 := by omega
  rw [hr, List.replicate_succ, List.set_cons_zero, List.take_succ_eq_append_getElem hk, List.map_append]
  rw [List.append_assoc]
  rfl
theorem copied_all {α : Type} (f : α → Value) (z : Value) (xs : List α) (n k : Nat) (hn : xs.length = n) (hk : n ≤ k) : copied f z xs n k = xs.map f := by
  unfold copied
  rw [List.take_of_length_le (by omega), show n - k = 0 by omega]
  simp
theorem copied_length {α : Type} (f : α → Value) (z : Value) (xs : List α) (n k : Nat) (hn : xs.length = n) (hk : k ≤ n) : (copied f z xs n k).length = n := by
  unfold copied
  simp
  omega
end Go.Proofs.Fl
