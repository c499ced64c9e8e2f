/-
  A machine that came in as an argument: its value, and what its lists read as.
-/
import Derived.Test.YtenfleceeeimlaaExt
import Derived.Test.YtenfleceeeimlaaMem
import Derived.Lib.SmallJoins
namespace Go.Proofs.Ytenfleceeeimlaa.Num
open Go.RowKit Go.Proofs.Fl Go.ChangeShapes Go.WideShapes Go.Deep Go.Joins
set_option linter.unusedVariables false
section
variable {H : Type} {enc : TypeId × Value → H} {P : Program} {w : World} {spare : Nat → Bool} {held : Bool}
theorem rd_of_trod1 {t e : TypeId} {v : Value} {fuel : Nat} {x : DataW H × List MemPlace} (ht : P.underlying t = some (.slice e)) (hc : P.cellsOf e = 1)
    (h : DataW.trod enc P w 0 spare held fuel t [v] = some x) (Q : Value → Prop) (hQ : ∀ fuel u x, DataW.trod enc P w 0 spare held fuel e [u] = some x → Q u) :
    ∃ A n c xs, v = .slice A n c ∧ xs.length = n ∧ n ≤ c ∧ c ≤ maxLen ∧ Rd w w.heap.size A xs ∧ ∀ u ∈ xs, Q u := by
  have hs : ∃ A n c, v = .slice A n c := by
    rcases open_slice1 ht hc h with ⟨h1, _⟩ | ⟨a, len, cap, m, n', V, D, Pl, h1, _⟩
    · simp at h1; exact ⟨_, _, _, h1⟩
    · simp at h1; exact ⟨_, _, _, h1⟩
  have h' : DataW.Trod enc P w 0 spare held t v x.1 x.2 := by
    obtain ⟨A, n, c, rfl⟩ := hs
    exact ⟨fuel, by simpa [Value.cells] using h⟩
  exact rd_of_trod ht hc hs h' Q hQ
/-- a slice of structs of four whole numbers -/
theorem rd_of_trod4 {t e : TypeId} {f0 f1 f2 f3 : Field} {v : Value} {fuel : Nat} {x : DataW H × List MemPlace} (ht : P.underlying t = some (.slice e)) (he : P.underlying e = some (.struct #[f0, f1, f2, f3]))
    (hone : oneCellFields P #[f0, f1, f2, f3] = true) (hc : P.cellsOf e = 4) (t0 : P.underlying f0.type = some (.int .i64)) (t1 : P.underlying f1.type = some (.int .i64)) (t2 : P.underlying f2.type = some (.int .i64)) (t3 : P.underlying f3.type = some (.int .i64))
    (h : DataW.trod enc P w 0 spare held fuel t [v] = some x) :
    ∃ A n c zs, v = .slice A n c ∧ zs.length = n * 4 ∧ n ≤ c ∧ c ≤ maxLen ∧ Rd w w.heap.size A (i64s zs) := by
  rcases open_slice ht h with ⟨h1, _⟩ | ⟨a, len, cap, m, nf, D, Pl, h1, hb, hl, hm, hmm, _, hx⟩
  · simp at h1
    exact ⟨none, 0, 0, [], h1, rfl, Nat.le_refl _, by simp [maxLen], .inl rfl⟩
  · simp at h1
    subst h1
    have hle : len ≤ m := by rw [hmm]; split <;> omega
    have each : ∀ i, i < len → ∃ Z : Nat → Int, ∀ r, r < 4 → w.cell? (a.add (i * 4 + r)) = some (.int .i64 (Z r)) := by
      intro i hi
      obtain ⟨cs', g1, g2⟩ := hx i (by omega)
      rw [hc] at g1
      obtain ⟨_, hlen, hcell⟩ := World.cells?_some g1
      obtain ⟨y0, y1, y2, y3, n', _, _, k0, k1, k2, k3⟩ := trod_struct4 he g2
      obtain ⟨o0, l0⟩ := hone_of hone 0 f0 rfl
      obtain ⟨o1, l1⟩ := hone_of hone 1 f1 rfl
      obtain ⟨o2, l2⟩ := hone_of hone 2 f2 rfl
      obtain ⟨o3, l3⟩ := hone_of hone 3 f3 rfl
      match cs', hlen with
      | [v0, v1, v2, v3], _ =>
        simp [o0, l0] at k0
        simp [o1, l1] at k1
        simp [o2, l2] at k2
        simp [o3, l3] at k3
        obtain ⟨z0, q0, _⟩ := DataW.trod_int t0 k0
        obtain ⟨z1, q1, _⟩ := DataW.trod_int t1 k1
        obtain ⟨z2, q2, _⟩ := DataW.trod_int t2 k2
        obtain ⟨z3, q3, _⟩ := DataW.trod_int t3 k3
        simp at q0 q1 q2 q3
        subst q0 q1 q2 q3
        refine ⟨fun r => if r = 0 then z0 else if r = 1 then z1 else if r = 2 then z2 else z3, fun r hr => ?_⟩
        have e := hcell r (by omega)
        rw [add_add] at e
        rw [e]
        have hr4 : r = 0 ∨ r = 1 ∨ r = 2 ∨ r = 3 := by omega
        rcases hr4 with rfl | rfl | rfl | rfl <;> simp
    obtain ⟨Z, hZ⟩ := choose_lt each
    refine ⟨_, len, cap, (List.range (len * 4)).map fun j => Z (j / 4) (j % 4), rfl, by simp, hl, hm, ?_⟩
    by_cases hn : len = 0
    · left; simp [hn, i64s]
    · right
      obtain ⟨b, off, spot⟩ := a
      have h0 := hZ 0 (by omega) 0 (by omega)
      have hspot : spot = none := by simpa [Addr.add] using World.cell?_spot h0
      subst hspot
      refine ⟨b, off, rfl, World.block_lt_of_cell? w _ (by simpa [Addr.add] using h0), fun j u hu => ?_⟩
      have hj : j < len * 4 := by
        have := (List.getElem?_eq_some_iff.1 hu).1
        simpa using this
      have hcj := hZ (j / 4) (by omega) (j % 4) (by omega)
      have e : (⟨b, off, none⟩ : Addr).add (j / 4 * 4 + j % 4) = ⟨b, off + j, none⟩ := by
        rw [show j / 4 * 4 + j % 4 = j by omega]
        unfold Addr.add; split <;> simp_all
      rw [e] at hcj
      rw [hcj]
      simpa [i64s, hj] using hu
end
theorem array5 {α : Type} {cs : Array α} (h : cs.size = 5) : ∃ c0 c1 c2 c3 c4, cs = #[c0, c1, c2, c3, c4] := by
  obtain ⟨l⟩ := cs
  match l, h with
  | [c0, c1, c2, c3, c4], _ => exact ⟨c0, c1, c2, c3, c4, rfl⟩
section
variable {H : Type} {enc : TypeId × Value → H} {P : Program} {w : World} {spare : Nat → Bool} {held : Bool}
theorem open_agg5 {r : Reach} {b0 base : Nat} {t : TypeId} {f0 f1 f2 f3 f4 : Field} {v : Value} {d : DataW H} {p : List MemPlace} (hs : P.underlying t = some (.struct #[f0, f1, f2, f3, f4])) (hone : oneCellFields P #[f0, f1, f2, f3, f4] = true) (hC : P.cellsOf t = 5)
    (hv : Value.okWide P w r b0 t v) (h : DataW.Trod enc P w base spare held t v d p) :
    ∃ (v0 v1 v2 v3 v4 : Value) (y0 y1 y2 y3 y4 : DataW H × List MemPlace) (n : Nat), v = .agg #[v0, v1, v2, v3, v4] ∧
      DataW.trod enc P w base spare held n f0.type [v0] = some y0 ∧ DataW.trod enc P w base spare held n f1.type [v1] = some y1 ∧ DataW.trod enc P w base spare held n f2.type [v2] = some y2 ∧ DataW.trod enc P w base spare held n f3.type [v3] = some y3 ∧ DataW.trod enc P w base spare held n f4.type [v4] = some y4 := by
  obtain ⟨cs, rfl, hsz⟩ := okWide_struct hs hv
  obtain ⟨c0, c1, c2, c3, c4, rfl⟩ := array5 (hsz.trans hC)
  obtain ⟨fuel, hf⟩ := h
  obtain ⟨xs, n, _, _, hl, hlen, hg⟩ := DataW.trod_struct hs hf
  match xs, hlen with
  | [y0, y1, y2, y3, y4], _ =>
    have h0 := by simpa using hg 0 f0 rfl
    have h1 := by simpa using hg 1 f1 rfl
    have h2 := by simpa using hg 2 f2 rfl
    have h3 := by simpa using hg 3 f3 rfl
    have h4 := by simpa using hg 4 f4 rfl
    obtain ⟨o0, k0⟩ := hone_of hone 0 f0 rfl
    obtain ⟨o1, k1⟩ := hone_of hone 1 f1 rfl
    obtain ⟨o2, k2⟩ := hone_of hone 2 f2 rfl
    obtain ⟨o3, k3⟩ := hone_of hone 3 f3 rfl
    obtain ⟨o4, k4⟩ := hone_of hone 4 f4 rfl
    exact ⟨c0, c1, c2, c3, c4, y0, y1, y2, y3, y4, n, rfl, by simpa [Value.cells, o0, k0] using h0, by simpa [Value.cells, o1, k1] using h1, by simpa [Value.cells, o2, k2] using h2, by simpa [Value.cells, o3, k3] using h3, by simpa [Value.cells, o4, k4] using h4⟩
end
theorem open_machine {H : Type} {enc : TypeId × Value → H} {w : World} {spare : Nat → Bool} {held : Bool} {base : Nat} {r : Reach} {v : Value} {dd : DataW H} {p : List MemPlace}
    (hok : Value.okWide Try.prog w r base 25 v) (h : DataW.Trod enc Try.prog w 0 spare held 25 v dd p) :
    ∃ (S L : Int) (A : Option Addr) (n c : Nat) (B : Option Addr) (m d : Nat) (C : Option Addr) (q f : Nat) (zs xs ys : List Int), v = .agg #[.int .i64 S, .int .i64 L, .slice A n c, .slice B m d, .slice C q f] ∧ zs.length = n * 4 ∧ xs.length = m ∧ ys.length = q ∧ n ≤ maxLen ∧ m ≤ maxLen ∧ q ≤ maxLen ∧
      Rd w w.heap.size A (i64s zs) ∧ Rd w w.heap.size B (i64s xs) ∧ Rd w w.heap.size C (i64s ys) := by
  obtain ⟨v0, v1, v2, v3, v4, y0, y1, y2, y3, y4, fu, rfl, h0, h1, h2, h3, h4⟩ := open_agg5 Try.underlying25 (by kernel_rfl) (by kernel_rfl) hok h
  obtain ⟨S, hS, _, wS⟩ := DataW.trod_int Try.underlying2 h0
  obtain ⟨L, hL, _, wL⟩ := DataW.trod_int Try.underlying2 h1
  obtain ⟨A, n, c, zs, rfl, hn, hnc, hc, ra⟩ := rd_of_trod4 Try.underlying22 Try.underlying61 (by kernel_rfl) (by kernel_rfl) Try.underlying2 Try.underlying2 Try.underlying2 Try.underlying2 h2
  have ints : ∀ (fuel : Nat) (u : Value) (x : DataW H × List MemPlace), DataW.trod enc Try.prog w 0 spare held fuel 2 [u] = some x → ∃ b, u = .int .i64 b ∧ (Lit.int .i64 b).wf = true := fun _ u _ hh => by
    obtain ⟨m, hm, _, hw⟩ := DataW.trod_int Try.underlying2 hh
    simp at hm
    exact ⟨m, hm, hw⟩
  obtain ⟨B, m, d, us, rfl, hm, hmd, hd, rb, hb⟩ := rd_of_trod1 Try.underlying23 (by kernel_rfl) h3 (fun u => ∃ b, u = .int .i64 b ∧ (Lit.int .i64 b).wf = true) ints
  obtain ⟨C, q, f, us', rfl, hq, hqf, hf, rc, hc'⟩ := rd_of_trod1 Try.underlying23 (by kernel_rfl) h4 (fun u => ∃ b, u = .int .i64 b ∧ (Lit.int .i64 b).wf = true) ints
  obtain ⟨xs, rfl, hx⟩ := exists_list us hb
  obtain ⟨ys, rfl, hy⟩ := exists_list us' hc'
  simp at hS hL
  subst hS hL
  exact ⟨S, L, A, n, c, B, m, d, C, q, f, zs, xs, ys, rfl, hn, by simpa using hm, by simpa using hq, by omega, by omega, by omega, ra, rb, rc⟩
end Go.Proofs.Ytenfleceeeimlaa.Num
