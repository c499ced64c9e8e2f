/-
  A plain machine that came in as an argument: its value, and what its lists read as.
-/
import Derived.Test.YtlfmcdobiojdlaaExt
import Derived.Test.YtlfmcdobiojdlaaMem
import Derived.Lib.SmallJoins
namespace Go.Proofs.Ytlfmcdobiojdlaa.Num
open Go.RowKit Go.Proofs.Fl Go.ChangeShapes Go.WideShapes Go.Deep Go.Joins
set_option linter.unusedVariables false
section
variable {H : Type} {enc : TypeId × Value → H} {P : Program} {w : World} {spare : Nat → Bool} {held : Bool}
theorem rd_of_trod1 {t e : TypeId} {v : Value} {fuel : Nat} {x : DataW H × List MemPlace} (ht : P.underlying t = some (.slice e)) (hc : P.cellsOf e = 1)
    (h : DataW.trod enc P w 0 spare held fuel t [v] = some x) (Q : Value → Prop) (hQ : ∀ fuel u x, DataW.trod enc P w 0 spare held fuel e [u] = some x → Q u) :
    ∃ A n c xs, v = .slice A n c ∧ xs.length = n ∧ n ≤ c ∧ c ≤ maxLen ∧ Rd w w.heap.size A xs ∧ ∀ u ∈ xs, Q u := by
  have hs : ∃ A n c, v = .slice A n c := by
    rcases open_slice1 ht hc h with ⟨h1, _⟩ | ⟨a, len, cap, m, n', V, D, Pl, h1, _⟩
    · simp at h1; exact ⟨_, _, _, h1⟩
    · simp at h1; exact ⟨_, _, _, h1⟩
  have h' : DataW.Trod enc P w 0 spare held t v x.1 x.2 := by
    obtain ⟨A, n, c, rfl⟩ := hs
    exact ⟨fuel, by simpa [Value.cells] using h⟩
  exact rd_of_trod ht hc hs h' Q hQ
end
theorem open_plain {H : Type} {enc : TypeId × Value → H} {w : World} {spare : Nat → Bool} {held : Bool} {base : Nat} {r : Reach} {v : Value} {dd : DataW H} {p : List MemPlace}
    (hok : Value.okWide Try.prog w r base 28 v) (h : DataW.Trod enc Try.prog w 0 spare held 28 v dd p) :
    ∃ (S L : Int) (A : Option Addr) (n c : Nat) (B : Option Addr) (m d : Nat) (xs : List Int) (bs : List Bool), v = .agg #[.int .i64 S, .int .i64 L, .slice A n c, .slice B m d] ∧ xs.length = n ∧ bs.length = m ∧ n ≤ maxLen ∧ m ≤ maxLen ∧
      Rd w w.heap.size A (i64s xs) ∧ Rd w w.heap.size B (bools bs) ∧ (Lit.int .i64 S).wf = true ∧ (Lit.int .i64 L).wf = true ∧ ∀ z ∈ xs, (Lit.int .i64 z).wf = true := by
  obtain ⟨v0, v1, v2, v3, y0, y1, y2, y3, fu, rfl, rfl, rfl, h0, h1, h2, h3⟩ := open_agg4 Try.underlying28 (by kernel_rfl) (by kernel_rfl) hok h
  obtain ⟨S, hS, _, wS⟩ := DataW.trod_int Try.underlying2 h0
  obtain ⟨L, hL, _, wL⟩ := DataW.trod_int Try.underlying2 h1
  obtain ⟨A, n, c, us, rfl, hn, hnc, hc, ra, ha⟩ := rd_of_trod1 Try.underlying22 (by kernel_rfl) h2 (fun u => ∃ b, u = .int .i64 b ∧ (Lit.int .i64 b).wf = true) (fun _ u _ hh => by
    obtain ⟨m, hm, _, hw⟩ := DataW.trod_int Try.underlying2 hh
    simp at hm
    exact ⟨m, hm, hw⟩)
  obtain ⟨B, m, d, us', rfl, hm, hmd, hd, rb, hb⟩ := rd_of_trod1 Try.underlying26 (by kernel_rfl) h3 (fun u => ∃ b, u = .bool b ∧ True) (fun _ _ _ hh => trod_bool Try.underlying4 hh)
  obtain ⟨xs, rfl, hx⟩ := exists_list us ha
  obtain ⟨bs, rfl, _⟩ := exists_list us' hb
  simp at hS hL
  subst hS hL
  exact ⟨S, L, A, n, c, B, m, d, xs, bs, rfl, by simpa using hn, by simpa using hm, by omega, by omega, ra, rb, wS, wL, hx⟩
end Go.Proofs.Ytlfmcdobiojdlaa.Num
