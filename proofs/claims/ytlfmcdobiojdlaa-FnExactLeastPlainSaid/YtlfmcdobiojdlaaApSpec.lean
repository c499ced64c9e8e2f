/-
  The first word that just one of two plain machines reads, by the reference.
-/
import Derived.Test.YtlfmcdobiojdlaaIndex
import Derived.Test.YtlfmcdobiojdlaaRun
import Derived.Test.YtlfmcdobiojdlaaApartLaw
import Derived.Deep.CutRange
namespace Go.Proofs.Ytlfmcdobiojdlaa.fnExactApartWord
open Go.RowKit Go.Proofs.Fl Go.Proofs.Ytlfmcdobiojdlaa.Num Go.Proofs.Bfs
set_option linter.unusedVariables false
set_option linter.unusedSimpArgs false
def toN (xs : List Int) (l x k : Nat) : Nat := (xs.getD (x * l + k) 0).toNat
/-- the pair behind a letter, a pair told by one number -/
def nxA (xs xs' : List Int) (l s' : Nat) (c k : Nat) : Nat := toN xs l (c / s') k * s' + toN xs' l (c % s') k
def apA (bs bs' : List Bool) (s' : Nat) (c : Nat) : Bool := bs.getD (c / s') false != bs'.getD (c % s') false
/-- a valid plain machine with s states and l letters -/
structure Pl (s l n : Nat) (xs : List Int) (m : Nat) (bs : List Bool) : Prop where
  s1 : 1 ≤ s
  s2 : s ≤ 64
  l1 : 1 ≤ l
  l2 : l ≤ 4
  ns : n = s * l
  ms : m = s
  xl : xs.length = n
  bl : bs.length = m
  i : ∀ j, j < n → ∃ v : Nat, v < s ∧ xs[j]? = some (v : Int)
theorem pl_of {S L : Int} {n : Nat} {xs : List Int} {m : Nat} {bs : List Bool} (hx : xs.length = n) (hb : bs.length = m) (h : validP S L n xs m = true) : ∃ s l : Nat, S = s ∧ L = l ∧ Pl s l n xs m bs := by
  have hp := plainOk h
  obtain ⟨s, hs⟩ := Int.eq_ofNat_of_zero_le (show 0 ≤ S by have := hp.s; omega)
  obtain ⟨l, hl⟩ := Int.eq_ofNat_of_zero_le (show 0 ≤ L by have := hp.l; omega)
  refine ⟨s, l, hs, hl, ?_⟩
  have h1 := hp.s
  have h2 := hp.l
  have h3 := hp.n
  have h4 := hp.m
  subst hs hl
  have h5 : n = s * l := by have : ((n : Nat) : Int) = ((s * l : Nat) : Int) := by rw [h3]; rfl
                            omega
  refine ⟨by omega, by omega, by omega, by omega, h5, by omega, hx, hb, fun j hj => ?_⟩
  have hv := allIn_get hp.i (show j < xs.length by omega)
  obtain ⟨v, hv2⟩ := Int.eq_ofNat_of_zero_le hv.1
  exact ⟨v, by omega, by rw [List.getElem?_eq_getElem (by omega), hv2]⟩
theorem idx_lt {s l x k : Nat} (hx : x < s) (hk : k < l) : x * l + k < s * l := by
  have := Nat.mul_le_mul_right l (show x + 1 ≤ s by omega)
  rw [Nat.succ_mul] at this
  omega
section
variable {s l n : Nat} {xs : List Int} {m : Nat} {bs : List Bool}
theorem Pl.to (h : Pl s l n xs m bs) {x k : Nat} (hx : x < s) (hk : k < l) : ∃ v : Nat, v < s ∧ xs[x * l + k]? = some (v : Int) ∧ toN xs l x k = v := by
  obtain ⟨v, hv, he⟩ := h.i (x * l + k) (by rw [h.ns]; exact idx_lt hx hk)
  refine ⟨v, hv, he, ?_⟩
  unfold toN
  rw [List.getD_eq_getElem?_getD, he]
  rfl
theorem nxA_lt {s' n' : Nat} {xs' : List Int} {m' : Nat} {bs' : List Bool} (h : Pl s l n xs m bs) (h' : Pl s' l n' xs' m' bs') {c k : Nat} (hc : c < s * s') (hk : k < l) : nxA xs xs' l s' c k < s * s' := by
  have hs' := h'.s1
  obtain ⟨v, hv, _, e⟩ := h.to (x := c / s') (Nat.div_lt_of_lt_mul (by rw [Nat.mul_comm]; exact hc)) hk
  obtain ⟨v', hv', _, e'⟩ := h'.to (x := c % s') (Nat.mod_lt _ hs') hk
  unfold nxA
  rw [e, e']
  exact idx_lt hv hv'
theorem Pl.mulb (h : Pl s l n xs m bs) {s' n' : Nat} {xs' : List Int} {m' : Nat} {bs' : List Bool} (h' : Pl s' l n' xs' m' bs') : s * s' ≤ 4096 := Nat.mul_le_mul h.s2 h'.s2
end
/-- what is held while the search goes on: the pairs told, their words, each in a block of its own -/
structure Srch (w wr : World) (base gp cp gw cw : Nat) (q : List Ent) (hs : List Value) : Prop where
  pairs : wr.ownsRow base 2 1 (.slice (some ⟨gp, 0, none⟩) q.length cp) q.length (i64s (nats (q.map (·.1))))
  words : wr.ownsRow base 22 1 (.slice (some ⟨gw, 0, none⟩) q.length cw) q.length hs
  each : ∀ j, j < q.length → ∃ g c, hs[j]? = some (.slice (some ⟨g, 0, none⟩) (pos q j).2.length c) ∧ OwnL wr 2 1 (some ⟨g, 0, none⟩) (pos q j).2.length c (pos q j).2 ∧ base ≤ g ∧ g ≠ gp ∧ g ≠ gw ∧ g < wr.heap.size
  ne : gp ≠ gw
  bel : Below base w wr
theorem Srch.step {w wr w' : World} {base gp cp gw cw : Nat} {q : List Ent} {hs : List Value} (h : Srch w wr base gp cp gw cw q hs) (hb : Below wr.heap.size wr w') : Srch w w' base gp cp gw cw q hs :=
  ⟨own_keep h.pairs (hb.block _ (own_lt h.pairs)), own_keep h.words (hb.block _ (own_lt h.words)), fun j hj => by
    obtain ⟨g, c, h1, h2, h3, h4, h5, h6⟩ := h.each j hj
    exact ⟨g, c, h1, h2.step hb, h3, h4, h5, Nat.lt_of_lt_of_le h6 hb.size⟩, h.ne, h.bel.trans (hb.mono (Nat.le_trans (own_base h.pairs) (Nat.le_of_lt (own_lt h.pairs))))⟩
theorem Srch.pair {w wr : World} {base gp cp gw cw : Nat} {q : List Ent} {hs : List Value} (h : Srch w wr base gp cp gw cw q hs) {j : Nat} (hj : j < q.length) : wr.cell? ⟨gp, j, none⟩ = some (.int .i64 (((pos q j).1 : Nat) : Int)) := by
  obtain ⟨x, hx, hc⟩ := own_nats h.pairs hj
  have : pos q j = q[j] := by unfold pos; rw [List.getD_eq_getElem?_getD, List.getElem?_eq_getElem hj]; rfl
  rw [List.getElem?_map, List.getElem?_eq_getElem hj] at hx
  rw [this, hc]
  cases hx
  rfl
theorem Srch.word {w wr : World} {base gp cp gw cw : Nat} {q : List Ent} {hs : List Value} (h : Srch w wr base gp cp gw cw q hs) {j : Nat} (hj : j < q.length) : ∃ g c, wr.cell? ⟨gw, j, none⟩ = some (.slice (some ⟨g, 0, none⟩) (pos q j).2.length c) ∧ OwnL wr 2 1 (some ⟨g, 0, none⟩) (pos q j).2.length c (pos q j).2 ∧ base ≤ g ∧ g ≠ gp ∧ g ≠ gw ∧ g < wr.heap.size := by
  obtain ⟨g, c, h1, h2⟩ := h.each j hj
  exact ⟨g, c, by rw [World.ownsRow.cellAt h.words j (by omega)]; exact h1, h2⟩
theorem own_one (w : World) (e : TypeId) (v : Value) : (w.alloc (.cells #[v] e)).ownsRow w.heap.size e 1 (.slice (some ⟨w.heap.size, 0, none⟩) 1 1) 1 [v] :=
  ⟨by simp, .inr ⟨w.heap.size, 1, #[v], rfl, Nat.le_refl _, heap_alloc_new _ _, Nat.le_refl _, by simp [maxLen], by simp, by simp⟩⟩
theorem own_empty (w : World) (e : TypeId) (size : Nat) : (w.alloc (.cells #[] e)).ownsRow w.heap.size e size (.slice (some ⟨w.heap.size, 0, none⟩) 0 0) 0 [] :=
  ⟨by simp, .inr ⟨w.heap.size, 0, #[], rfl, Nat.le_refl _, heap_alloc_new _ _, Nat.le_refl _, by simp [maxLen], by simp, by simp⟩⟩
theorem own_mono {w : World} {base base' e size g n c : Nat} {xs : List Value} (h : w.ownsRow base e size (.slice (some ⟨g, 0, none⟩) n c) n xs) (hb : base' ≤ base) : w.ownsRow base' e size (.slice (some ⟨g, 0, none⟩) n c) n xs := by
  refine ⟨h.1, ?_⟩
  rcases h.2 with hn | ⟨g', cap, cur, hv, hbb, rest⟩
  · exact .inl hn
  · exact .inr ⟨g', cap, cur, hv, Nat.le_trans hb hbb, rest⟩
/-- the start of the search -/
theorem srch_start (w : World) : Srch w (((w.alloc (.cells #[.int .i64 0] 2)).alloc (.cells #[] 2)).alloc (.cells #[.slice (some ⟨w.heap.size + 1, 0, none⟩) 0 0] 22)) w.heap.size w.heap.size 1 (w.heap.size + 2) 1 [(0, [])] [.slice (some ⟨w.heap.size + 1, 0, none⟩) 0 0] := by
  have h0 : (w.alloc (.cells #[.int .i64 0] 2)).heap.size = w.heap.size + 1 := by simp
  have h1 : ((w.alloc (.cells #[.int .i64 0] 2)).alloc (.cells #[] 2)).heap.size = w.heap.size + 2 := by simp
  refine ⟨((own_one w _ _).alloc _).alloc _, ?_, fun j hj => ?_, by omega, (((Below.refl w.heap.size w).alloc (Nat.le_refl _) _).alloc (by simp) _).alloc (by simp; omega) _⟩
  · have := own_one ((w.alloc (.cells #[.int .i64 0] 2)).alloc (.cells #[] 2)) 22 (.slice (some ⟨w.heap.size + 1, 0, none⟩) 0 0)
    rw [h1] at this
    exact own_mono this (by omega)
  · have hj0 : j = 0 := by simp at hj; exact hj
    subst hj0
    exact ⟨w.heap.size + 1, 0, rfl, ⟨rfl, .inl rfl⟩, by omega, by omega, by omega, by simp⟩
theorem Srch.drewN {w wr : World} {base gp cp gw cw : Nat} {q : List Ent} {hs : List Value} (h : Srch w wr base gp cp gw cw q hs) (k : Nat) : Srch w (wr.drewN k) base gp cp gw cw q hs :=
  ⟨h.pairs, h.words, h.each, h.ne, below_drewN h.bel k⟩
/-- the pairs have one more already, the words not yet -/
structure Half (w wr : World) (base gp cp gw cw : Nat) (q : List Ent) (nxt : Nat) (hs : List Value) : Prop where
  pairs : wr.ownsRow base 2 1 (.slice (some ⟨gp, 0, none⟩) (q.length + 1) cp) (q.length + 1) (i64s (nats (q.map (·.1) ++ [nxt])))
  words : wr.ownsRow base 22 1 (.slice (some ⟨gw, 0, none⟩) q.length cw) q.length hs
  each : ∀ j, j < q.length → ∃ g c, hs[j]? = some (.slice (some ⟨g, 0, none⟩) (pos q j).2.length c) ∧ OwnL wr 2 1 (some ⟨g, 0, none⟩) (pos q j).2.length c (pos q j).2 ∧ base ≤ g ∧ g ≠ gp ∧ g ≠ gw ∧ g < wr.heap.size
  ne : gp ≠ gw
  bel : Below base w wr
theorem Half.step {w wr w' : World} {base gp cp gw cw : Nat} {q : List Ent} {nxt : Nat} {hs : List Value} (h : Half w wr base gp cp gw cw q nxt hs) (hb : Below wr.heap.size wr w') : Half w w' base gp cp gw cw q nxt hs :=
  ⟨own_keep h.pairs (hb.block _ (own_lt h.pairs)), own_keep h.words (hb.block _ (own_lt h.words)), fun j hj => by
    obtain ⟨g, c, h1, h2, h3, h4, h5, h6⟩ := h.each j hj
    exact ⟨g, c, h1, h2.step hb, h3, h4, h5, Nat.lt_of_lt_of_le h6 hb.size⟩, h.ne, h.bel.trans (hb.mono (Nat.le_trans (own_base h.pairs) (Nat.le_of_lt (own_lt h.pairs))))⟩
theorem ownL_kept1 {w w' : World} {e size g g0 n c : Nat} {zs : List Int} (h : OwnL w e size (some ⟨g, 0, none⟩) n c zs) (hk : Kept w w' [some g0]) (hne : g ≠ g0) : OwnL w' e size (some ⟨g, 0, none⟩) n c zs :=
  h.apart hk fun x hx r hr e => by
    have h1 := rowN_is hx
    rw [List.mem_singleton.1 hr] at e
    have h2 := Option.some.inj e
    omega
theorem half_of {w wq w5 : World} {base gp cp gw cw gp' cp' : Nat} {q : List Ent} {nxt : Nat} {hs : List Value} (h : Srch w wq base gp cp gw cw q hs) (ho : w5.ownsRow base 2 1 (.slice (some ⟨gp', 0, none⟩) (q.length + 1) cp') (q.length + 1) (i64s (nats (q.map (·.1) ++ [nxt])))) (hg : Grew wq w5 gp gp') : Half w w5 base gp' cp' gw cw q nxt hs := by
  have hw := own_lt h.words
  have hp := own_lt h.pairs
  have hsz := hg.kept.size
  have hne : gp' ≠ gw := by
    rcases hg.at_ with e | e
    · rw [e]; exact h.ne
    · omega
  refine ⟨ho, own_keep h.words (hg.kept.block gw hw fun r hr e => by rw [List.mem_singleton.1 hr] at e; exact h.ne (Option.some.inj e).symm), fun j hj => ?_, hne, h.bel.trans (hg.kept.below (Nat.le_trans (own_base h.pairs) (Nat.le_of_lt hp)) fun r hr g e => by rw [List.mem_singleton.1 hr] at e; rw [← Option.some.inj e]; exact own_base h.pairs)⟩
  obtain ⟨g, c, h1, h2, h3, h4, h5, h6⟩ := h.each j hj
  refine ⟨g, c, h1, ownL_kept1 h2 hg.kept h4, h3, ?_, h5, by omega⟩
  rcases hg.at_ with e | e
  · rw [e]; exact h4
  · omega
theorem pos_last (q : List Ent) (x : Ent) : pos (q ++ [x]) q.length = x := by
  unfold pos
  simp [List.getD_eq_getElem?_getD]
theorem srch_add {w w7 w9 : World} {base gp cp gw cw gw' cw' g2 c2 n2 : Nat} {q : List Ent} {nxt : Nat} {hs : List Value} {wd : List Int} (h : Half w w7 base gp cp gw cw q nxt hs) (h2 : OwnL w7 2 1 (some ⟨g2, 0, none⟩) n2 c2 wd) (hn : n2 = wd.length) (hb2 : base ≤ g2) (hp2 : g2 ≠ gp) (hw2 : g2 ≠ gw) (hl2 : g2 < w7.heap.size)
    (ho : w9.ownsRow base 22 1 (.slice (some ⟨gw', 0, none⟩) (q.length + 1) cw') (q.length + 1) (hs ++ [.slice (some ⟨g2, 0, none⟩) n2 c2])) (hg : Grew w7 w9 gw gw') : Srch w w9 base gp cp gw' cw' (q ++ [(nxt, wd)]) (hs ++ [.slice (some ⟨g2, 0, none⟩) n2 c2]) := by
  subst hn
  have hw := own_lt h.words
  have hp := own_lt h.pairs
  have hsz := hg.kept.size
  have hhl : hs.length = q.length := by have := h.words.1; omega
  have hne : gp ≠ gw' := by
    rcases hg.at_ with e | e
    · rw [e]; exact h.ne
    · omega
  have hpk := own_keep h.pairs (hg.kept.block gp hp fun r hr e => by rw [List.mem_singleton.1 hr] at e; exact h.ne (Option.some.inj e))
  refine ⟨by simpa using hpk, by simpa using ho, fun j hj => ?_, hne, h.bel.trans (hg.kept.below (Nat.le_trans (own_base h.words) (Nat.le_of_lt hw)) fun r hr g e => by rw [List.mem_singleton.1 hr] at e; rw [← Option.some.inj e]; exact own_base h.words)⟩
  by_cases hj2 : j < q.length
  · obtain ⟨g, c, e1, e2, e3, e4, e5, e6⟩ := h.each j hj2
    rw [pos_app hj2]
    refine ⟨g, c, by rw [List.getElem?_append_left (by omega)]; exact e1, ownL_kept1 e2 hg.kept e5, e3, e4, ?_, by omega⟩
    rcases hg.at_ with e | e
    · rw [e]; exact e5
    · omega
  · have hje : j = q.length := by simp at hj; omega
    subst hje
    rw [pos_last]
    refine ⟨g2, c2, by rw [← hhl]; simp, ownL_kept1 h2 hg.kept hw2, hb2, hp2, ?_, by omega⟩
    rcases hg.at_ with e | e
    · rw [e]; exact hw2
    · omega
theorem any_has (q : List Ent) (c : Nat) : q.any (fun y => y.1 == c) = (q.map (·.1)).contains c := by
  induction q with
  | nil => rfl
  | cons a t ih =>
    rw [List.any_cons, List.map_cons, List.contains_cons, ih]
    congr 1
    exact Bool.eq_iff_iff.2 ⟨fun h => beq_iff_eq.2 (beq_iff_eq.1 h).symm, fun h => beq_iff_eq.2 (beq_iff_eq.1 h).symm⟩
theorem wrap_small {a b : Int} (e : a = b) (h1 : -4611686018427387904 ≤ b) (h2 : b ≤ 4611686018427387904) : wrap64 a = b ∧ IntKind.i64.wrap a = b := by
  subst e
  refine ⟨by unfold wrap64; omega, by rw [IntKind.wrap_i64]; omega⟩
def Wr (a b : Int) : Prop := wrap64 a = b ∧ IntKind.i64.wrap a = b
structure NxF (xs xs' : List Int) (n n' l s' code X Y j p1 p2 v1 v2 nxt : Nat) : Prop where
  i1 : p1 < n
  i2 : p2 < n'
  l1 : p1 < xs.length
  l2 : p2 < xs'.length
  x1 : xs[p1]'l1 = (v1 : Int)
  x2 : xs'[p2]'l2 = (v2 : Int)
  w1 : Wr ((X : Int) * (l : Int)) ((X : Int) * (l : Int))
  w2 : Wr ((X : Int) * (l : Int) + (j : Int)) (p1 : Int)
  w3 : Wr ((Y : Int) * (l : Int)) ((Y : Int) * (l : Int))
  w4 : Wr ((Y : Int) * (l : Int) + (j : Int)) (p2 : Int)
  w5 : Wr ((v1 : Int) * (s' : Int)) ((v1 : Int) * (s' : Int))
  w6 : Wr ((v1 : Int) * (s' : Int) + (v2 : Int)) (nxt : Int)
  e : nxA xs xs' l s' code j = nxt
  nb : nxt ≤ 8192
theorem mul_cast_small {a b k c : Nat} (ha : a ≤ 64) (hb : b ≤ 64) (hk : k ≤ 64) (hc : c = a * b + k) : Wr ((a : Int) * (b : Int)) ((a : Int) * (b : Int)) ∧ Wr ((a : Int) * (b : Int) + (k : Int)) (c : Int) ∧ c ≤ 8192 := by
  have h1 : a * b ≤ 64 * 64 := Nat.mul_le_mul ha hb
  have h2 : (a : Int) * (b : Int) = ((a * b : Nat) : Int) := (Int.natCast_mul _ _).symm
  rw [h2]
  generalize a * b = p at *
  subst hc
  exact ⟨wrap_small rfl (by omega) (by omega), wrap_small (by omega) (by omega) (by omega), by omega⟩
theorem nx_facts {s l n : Nat} {xs : List Int} {m : Nat} {bs : List Bool} {s' n' : Nat} {xs' : List Int} {m' : Nat} {bs' : List Bool} (h : Pl s l n xs m bs) (h' : Pl s' l n' xs' m' bs') {code X Y j : Nat} (eX : X = code / s') (eY : Y = code % s') (hX : X < s) (hY : Y < s') (hj : j < l) :
    ∃ i1 i2 v1 v2 nxt, NxF xs xs' n n' l s' code X Y j i1 i2 v1 v2 nxt := by
  obtain ⟨v1, hv1, hx1, ht1⟩ := h.to hX hj
  obtain ⟨v2, hv2, hx2, ht2⟩ := h'.to hY hj
  have hs := h.s2
  have hs' := h'.s2
  have hl := h.l2
  have a := mul_cast_small (a := X) (b := l) (k := j) (by omega) (by omega) (by omega) rfl
  have b := mul_cast_small (a := Y) (b := l) (k := j) (by omega) (by omega) (by omega) rfl
  have c := mul_cast_small (a := v1) (b := s') (k := v2) (by omega) (by omega) (by omega) rfl
  have l1 := (List.getElem?_eq_some_iff.1 hx1).1
  have l2 := (List.getElem?_eq_some_iff.1 hx2).1
  refine ⟨X * l + j, Y * l + j, v1, v2, v1 * s' + v2, ⟨by rw [h.ns]; exact idx_lt hX hj, by rw [h'.ns]; exact idx_lt hY hj, l1, l2, (List.getElem?_eq_some_iff.1 hx1).2, (List.getElem?_eq_some_iff.1 hx2).2, a.1, a.2.1, b.1, b.2.1, c.1, c.2.1, ?_, c.2.2⟩⟩
  unfold nxA
  rw [← eX, ← eY, ht1, ht2]
theorem qs_ge {nx : Nat → Nat → Nat} {L : Nat} : ∀ i, (∀ j, j < i → j < (Qs nx L j).length) → i ≤ (Qs nx L i).length
  | 0, _ => by omega
  | i + 1, h => by
    have h1 := h i (by omega)
    have h2 := expand_le nx (pos (Qs nx L i) i) (Qs nx L i) L
    show i + 1 ≤ (expand nx (pos (Qs nx L i) i) (Qs nx L i) L).length
    omega
theorem qs_wlen {nx : Nat → Nat → Nat} {L : Nat} : ∀ i, (∀ j, j < i → j < (Qs nx L j).length) → ∀ y ∈ Qs nx L i, y.2.length ≤ i
  | 0, _ => by simp [Qs]
  | i + 1, h => by
    have ih := qs_wlen i fun j hj => h j (by omega)
    obtain ⟨t, ht, hl⟩ := expand_app nx (pos (Qs nx L i) i) (Qs nx L i) L
    intro y hy
    rw [show Qs nx L (i + 1) = expand nx (pos (Qs nx L i) i) (Qs nx L i) L from rfl, ht] at hy
    rcases List.mem_append.1 hy with h1 | h1
    · have := ih y h1; omega
    · have h2 := ih _ (pos_mem (h i (by omega))); rw [hl y h1]; omega
theorem ownL_news {w : World} {g n c : Nat} {zs : List Int} (h : OwnL w 2 1 (some ⟨g, 0, none⟩) n c zs) : ∀ w', Below w.heap.size w w' → ∀ (j : Nat) (u : Value), (i64s zs)[j]? = some u → w'.cell? ((⟨g, 0, none⟩ : Addr).add j) = some u := by
  intro w' hw j u hu
  rcases h.rd with h0 | ⟨b, off, hA, hb, hc⟩
  · rw [h0] at hu; cases hu
  · cases hA
    rw [Addr.add_lit, ← hc j u hu]
    exact hw.cell (p := ⟨_, _ + j, none⟩) hb
theorem own_any' {w : World} {base e size : Nat} {v : Value} {n : Nat} {xs : List Value} (h : w.ownsRow base e size v n xs) : ∃ A c, v = .slice A n c := by
  rcases h.2 with ⟨rfl, rfl⟩ | ⟨g, cap, cur, rfl, hb, _⟩
  · exact ⟨none, 0, rfl⟩
  · exact ⟨_, cap, rfl⟩
theorem lists_info : (Try.prog.info? 22).map (fun i => (i.zero, i.size, i.bytes)) = some (some (Value.slice none 0 0), 1, 24) := by kernel_rfl
theorem i64s_one' (xs : List Int) : ∀ u ∈ i64s xs, u.oneCell' = true := by
  intro u hu
  unfold i64s at hu
  obtain ⟨x, _, rfl⟩ := List.mem_map.1 hu
  rfl
theorem app_bel {wr w5 : World} {X : Obj} {base : Nat} {e size : Nat} {A : Option Addr} {j c : Nat} {xs : List Value} (ho : wr.ownsRow base e size (.slice A j c) j xs) (hb : base ≤ wr.heap.size) (hgrow : (wr.alloc X).grownBy w5 (Value.slice A j c).ownBlock) : Below base wr w5 := by
  have hbel : Below base wr (wr.alloc X) := (Below.refl _ _).alloc hb _
  refine hbel.trans (Kept.below (Kept.of_grown hgrow) (by simp; omega) fun r hr g' hg' => ?_)
  simp at hr
  subst hr
  rcases ho.2 with ⟨hv, _⟩ | ⟨g, cap, cur, hv, hbb, _⟩
  · injection hv with h1; subst h1; cases hg'
  · injection hv with h1; subst h1; simp [Value.ownBlock] at hg'; omega
theorem ints_snoc (word : List Int) (j : Nat) : i64s word ++ [Value.int .i64 (j : Int)] = i64s (word ++ [(j : Int)]) := by unfold i64s; simp
def RetAp (r : Option (List Int)) (w : World) (e : Ending) (w' : World) : Prop :=
  ∃ A n c, e = .returned (.tuple #[.slice A n c, .bool r.isSome]) ∧ Below w.heap.size w w' ∧ ∀ word, r = some word → n = word.length ∧ OwnL w' 2 1 A n c word ∧ Within w.heap.size w'.heap.size [rowN n A]
set_option maxRecDepth 100000 in
set_option maxHeartbeats 12800000 in
theorem l02Apart_calls (b b' s l : Nat) (A : Option Addr) (n c : Nat) (B : Option Addr) (m d : Nat) (xs : List Int) (bs : List Bool) (hP : Pl s l n xs m bs) (s' : Nat) (A' : Option Addr) (n' c' : Nat) (B' : Option Addr) (m' d' : Nat) (xs' : List Int) (bs' : List Bool) (hP' : Pl s' l n' xs' m' bs')
    (r : Option (List Int)) (hr : AnsS (nxA xs xs' l s') l (apA bs bs' s') r) (w : World) (hp : PlainAt w b s l A n c B m d) (hp' : PlainAt w b' s' l A' n' c' B' m' d') (hb : b < w.heap.size) (hb' : b' < w.heap.size) (hl : ListsP w A B xs bs) (hl' : ListsP w A' B' xs' bs') :
    Calls Try.prog 62 #[.pointer (some ⟨b, 0, none⟩), .pointer (some ⟨b', 0, none⟩)] w (RetAp r w) := by
  obtain ⟨j0, hj0, hw0, hw1, hw2⟩ := info_parts toInt64S_info
  have HP := hid hP
  have HP' := hid hP'
  have HR := hid hr
  have PA := hid hp
  have PB := hid hp'
  have HB := hid hb
  have HB' := hid hb'
  have HL := hid hl
  have HL' := hid hl'
  have hs1 := hP.s1
  have hs2 := hP.s2
  have hs1' := hP'.s1
  have hs2' := hP'.s2
  have hl1 := hP.l1
  have hl2 := hP.l2
  have hM := hid (Pl.mulb hP hP')
  have HNX := hid fun c k (hc : c < s * s') (hk : k < l) => nxA_lt hP hP' hc hk
  have HG := hid fun i hi => Good.qs (nx := nxA xs xs' l s') (L := l) (M := s * s') (fun c k hc hk => nxA_lt hP hP' hc hk) (Nat.mul_pos (show 0 < s by omega) (show 0 < s' by omega)) i hi
  clear hp hp' hl hl' hr
  go_enter Try.func62, Try.ntmps62
  go_wp2_with fail
  have S0 := hid (srch_start w)
  go_loopw [6, 7, 8] (fun v6 v7 i wr => ∃ (k gp cp gw cw : Nat) (hs : List Value), i = .int .i64 k ∧ v6 = .slice (some ⟨gp, 0, none⟩) (Qs (nxA xs xs' l s') l k).length cp ∧ v7 = .slice (some ⟨gw, 0, none⟩) (Qs (nxA xs xs' l s') l k).length cw ∧ Hid (Srch w wr w.heap.size gp cp gw cw (Qs (nxA xs xs' l s') l k) hs) ∧ Hid (∀ j, j < k → j < (Qs (nxA xs xs' l s') l j).length ∧ apA bs bs' s' (pos (Qs (nxA xs xs' l s') l j) j).1 = false)) (fun _ _ i _ => s * s' - (intOf i).toNat)
  case atStart => exact ⟨0, w.heap.size, 1, w.heap.size + 2, 1, _, rfl, rfl, rfl, S0, fun j hj => absurd hj (by omega)⟩
  case round =>
    clear S0
    obtain ⟨k, gp, cp, gw, cw, hs, rfl, rfl, rfl, SR, HD⟩ := hrel
    have hgood := HG.out k fun j hj => (HD.out j hj).1
    have hql := hgood.len
    have hsz := SR.out.bel.size
    have HQ := hid (show Qs (nxA xs xs' l s') l (k + 1) = expand (nxA xs xs' l s') (pos (Qs (nxA xs xs' l s') l k) k) (Qs (nxA xs xs' l s') l k) l from rfl)
    have hq4 : (Qs (nxA xs xs' l s') l k).length ≤ 4096 := Nat.le_trans hql hM.out
    by_cases hlt : k < (Qs (nxA xs xs' l s') l k).length
    · have hc := hgood.2 _ (pos_mem hlt)
      have pc := SR.out.pair hlt
      have PA1 := hid (PA.out.step (SR.out.bel) HB.out)
      have PB1 := hid (PB.out.step (SR.out.bel) HB'.out)
      have b0 := PB1.out.c0
      have q0 : ((s' : Nat) : Int) ≠ 0 := by omega
      generalize hxx : pos (Qs (nxA xs xs' l s') l k) k = x at *
      have HX := hid hxx
      clear hxx
      obtain ⟨code, word⟩ := x
      have hwl : word.length ≤ k := by
        have h := qs_wlen k (fun j hj => (HD.out j hj).1) _ (pos_mem hlt)
        rw [HX.out] at h
        exact h
      obtain ⟨X, hX⟩ : ∃ X, X = code / s' := ⟨_, rfl⟩
      obtain ⟨Y, hY⟩ : ∃ Y, Y = code % s' := ⟨_, rfl⟩
      have hXs : X < s := by rw [hX]; exact Nat.div_lt_of_lt_mul (by rw [Nat.mul_comm]; exact hc)
      have hYs : Y < s' := by rw [hY]; exact Nat.mod_lt _ (by omega)
      have EX := hid hX
      have EY := hid hY
      have hcd : code < 4096 := by have := hM.out; have h1 : code < s * s' := hc; omega
      have W6 : wrap64 ((code : Int) / (s' : Int)) = (X : Int) := by
        have : ((code / s' : Nat) : Int) = (code : Int) / (s' : Int) := Int.natCast_ediv _ _
        rw [← this, ← hX]
        unfold wrap64
        omega
      have W7 : (code : Int) % (s' : Int) = (Y : Int) := by
        have : ((code % s' : Nat) : Int) = (code : Int) % (s' : Int) := Int.natCast_emod _ _
        rw [← this, ← hY]
      clear hX hY
      dsimp only at pc
      go_wp2_with fail
      go_quiet (fail)
      revert nq
      intro na
      go_wp2_with fail
      go_quiet (fail)
      revert nq
      intro nb
      go_wp2_with fail
      rw [W6, W7]
      clear W6 W7
      have hXb : X < bs.length := by have h1 := HP.out.bl; have h2 := HP.out.ms; omega
      have hYb : Y < bs'.length := by have h1 := HP'.out.bl; have h2 := HP'.out.ms; omega
      obtain ⟨b1, o1, rfl, hb1, e1⟩ := bools_at (rd_step HL.out.b SR.out.bel) hXb
      obtain ⟨b2, o2, rfl, hb2, e2⟩ := bools_at (rd_step HL'.out.b SR.out.bel) hYb
      have a3 := PA1.out.c3
      have b3 := PB1.out.c3
      have hXm : (X : Int) < (m : Int) := by have h2 := HP.out.ms; omega
      have hYm : (Y : Int) < (m' : Int) := by have h2 := HP'.out.ms; omega
      have HAP := hid (show apA bs bs' s' code = (bs[X] != bs'[Y]) by unfold apA; rw [← EX.out, ← EY.out]; simp [List.getD_eq_getElem?_getD, hXb, hYb])
      generalize bs[X] = p1 at *
      generalize bs'[Y] = p2 at *
      by_cases hap : p1 = p2
      · subst hap
        have hne : (p1 != p1) = false := bne_self_eq_false _
        go_quiet (fail)
        go_wp2_with fail
        have S1 := hid (((SR.out.drewN na).drewN nb).drewN nq)
        clear a3 b3 e1 e2 pc b0 PA1 PB1 hsz
        generalize ((wr.drewN na).drewN nb).drewN nq = wv at *
        generalize hqq : Qs (nxA xs xs' l s') l k = q at *
        have EQ := hid hqq
        have HQG := hid hgood
        clear hqq hgood
        have hlq := expand_le (nxA xs xs' l s') (code, word) q
        go_loopw [6, 7, 11] (fun v6 v7 i wr => ∃ (j gp cp gw cw : Nat) (hs : List Value), j ≤ l ∧ i = .int .i64 j ∧ v6 = .slice (some ⟨gp, 0, none⟩) (expand (nxA xs xs' l s') (code, word) q j).length cp ∧ v7 = .slice (some ⟨gw, 0, none⟩) (expand (nxA xs xs' l s') (code, word) q j).length cw ∧ Hid (Srch w wr w.heap.size gp cp gw cw (expand (nxA xs xs' l s') (code, word) q j) hs)) (fun _ _ i _ => l - (intOf i).toNat)
        case atStart => exact ⟨0, gp, cp, gw, cw, hs, Nat.zero_le _, rfl, rfl, rfl, S1⟩
        case round =>
          clear S1
          obtain ⟨j, gp, cp, gw, cw, hs, hj, rfl, rfl, rfl, S1⟩ := hrel
          have PA1 := hid (PA.out.step (S1.out.bel) HB.out)
          have a1 := PA1.out.c1
          by_cases hjl : j < l
          · have PB1 := hid (PB.out.step (S1.out.bel) HB'.out)
            obtain ⟨i1, i2, v1, v2, nxt, NF⟩ := nx_facts HP.out HP'.out EX.out EY.out hXs hYs hjl
            obtain ⟨b3, o3, rfl, hb3, e3⟩ := i64s_at (rd_step HL.out.a S1.out.bel) NF.l1
            obtain ⟨b4, o4, rfl, hb4, e4⟩ := i64s_at (rd_step HL'.out.a S1.out.bel) NF.l2
            rw [NF.x1] at e3
            rw [NF.x2] at e4
            have HNXT := hid NF.e
            have hin1 : (i1 : Int) < (n : Int) := by have := NF.i1; omega
            have hin2 : (i2 : Int) < (n' : Int) := by have := NF.i2; omega
            have hnb := NF.nb
            obtain ⟨W1, U1⟩ := NF.w1
            obtain ⟨W2, U2⟩ := NF.w2
            obtain ⟨W3, U3⟩ := NF.w3
            obtain ⟨W4, U4⟩ := NF.w4
            obtain ⟨W5, U5⟩ := NF.w5
            obtain ⟨W6, U6⟩ := NF.w6
            clear NF
            have a2 := PA1.out.c2
            have b0 := PB1.out.c0
            have b1' := PB1.out.c1
            have b2' := PB1.out.c2
            go_wp2_with fail
            go_quiet (fail)
            revert nq
            intro nd
            go_wp2_with fail
            have HEX := hid (show expand (nxA xs xs' l s') (code, word) q (j + 1) = if ((expand (nxA xs xs' l s') (code, word) q j).map (·.1)).contains nxt then expand (nxA xs xs' l s') (code, word) q j else expand (nxA xs xs' l s') (code, word) q j ++ [(nxt, word ++ [(j : Int)])] by
              rw [← HNXT.out, ← any_has]
              rfl)
            have hbig : (expand (nxA xs xs' l s') (code, word) q j).length ≤ 4096 := by
              have h1 := Good.expand (L := l) (M := s * s') (fun c k hc hk => HNX.out c k hc hk) (x := (code, word)) hc (HQG.out) j (by omega)
              exact Nat.le_trans h1.len hM.out
            have SN := hid (S1.out.drewN nd)
            clear a2 b0 b1' b2' a1 PA1 PB1 e3 e4 W1 W2 W3 W4 W5 W6 U1 U2 U3 U4 U5 U6 HNXT
            generalize wr.drewN nd = wq at *
            have HEJ := hid (show k < (expand (nxA xs xs' l s') (code, word) q j).length ∧ pos (expand (nxA xs xs' l s') (code, word) q j) k = (code, word) from by
              obtain ⟨t, ht, _⟩ := expand_app (nxA xs xs' l s') (code, word) q j
              rw [ht]
              exact ⟨by rw [List.length_append]; omega, by rw [pos_app hlt, HX.out]⟩)
            cases hin : ((expand (nxA xs xs' l s') (code, word) q j).map (·.1)).contains nxt
            · rw [hin] at HEX
              have IX := hid (l02Index_add w.heap.size gp (expand (nxA xs xs' l s') (code, word) q j).length cp ((expand (nxA xs xs' l s') (code, word) q j).map (·.1)) nxt (by omega) hin wq SN.out.bel.size SN.out.pairs)
              have E2 := hid (show expand (nxA xs xs' l s') (code, word) q (j + 1) = expand (nxA xs xs' l s') (code, word) q j ++ [(nxt, word ++ [(j : Int)])] from HEX.out)
              clear hin
              refine IX.out.mono ?_
              rintro e w5 ⟨gp', cp', rfl, ow5, gr5⟩
              have HH := hid (half_of SN.out ow5 gr5)
              clear IX ow5 gr5 SN S1
              generalize expand (nxA xs xs' l s') (code, word) q j = Q at *
              obtain ⟨gk, ck, pk, ok, hk1, hk2, hk3, hk4⟩ := HH.out.each k HEJ.out.1
              have pk2 : w5.cell? ⟨gw, k, none⟩ = some (.slice (some ⟨gk, 0, none⟩) (pos Q k).2.length ck) := by rw [World.ownsRow.cellAt HH.out.words k (by have := HEJ.out.1; omega)]; exact pk
              rw [HEJ.out.2] at pk2 ok
              dsimp only at pk2 ok
              have NW := hid (ownL_news ok)
              have hgwl := own_lt HH.out.words
              have hgpl := own_lt HH.out.pairs
              have hbw := HH.out.bel.size
              have hgww := own_base HH.out.words
              clear pk ok
              have hkQ : (k : Int) < (Q.length : Int) := by have := HEJ.out.1; omega
              have hgt : ((Q.length : Nat) : Int) < ((Q.length + 1 : Nat) : Int) := by omega
              have hgt2 : ((Q.length : Nat) : Int) < ((Q.length : Nat) : Int) + 1 := by omega
              obtain ⟨i1', hi1, hz1, hz2, hz3⟩ := info_parts lists_info
              have wnl : w5.heap.size ≠ gw := by omega
              have HWL := hid hwl
              have hw4 : word.length ≤ 4096 := by omega
              go_upto_region 16 with (fail)
              go_wp2_with (first | (at_builtin; refine wpList_append_own_at _ rfl _ _ 22 rfl w5.heap.size 2 j0 (Value.int .i64 0) 1 8 Try.underlying22 hj0 hw0 hw1 hw2 rfl (by decide) (.slice (some ⟨w5.heap.size, 0, none⟩) 0 0) 0 [] rfl (own_empty _ _ _) ⟨gk, 0, none⟩ word.length _ (i64s word) rfl (by simp) (NW.out _ ((Below.refl _ _).alloc (Nat.le_refl _) _)) (i64s_one' _) (by unfold maxLen; omega) (by omega) (by simp) ?_; intro v' w6 hown' hgrow hnil hat; rw [Nat.zero_add, List.nil_append] at hown'; obtain ⟨A6, c6, rfl⟩ := own_any' hown'; have be6 := hid (show Below w5.heap.size w5 w6 from ((Below.refl w5.heap.size w5).alloc (Nat.le_refl _) _).trans ((Kept.of_grown hgrow).below (by simp) fun r hr g' hg' => by simp [Value.ownBlock] at hr; subst hr; simp at hg'; omega)); have sz6 := be6.out.size; have OW6 := hid hown'; clear hgrow hat hnil hown') | (at_builtin; refine wpList_append_own_at _ rfl _ _ 22 rfl w5.heap.size 2 j0 (Value.int .i64 0) 1 8 Try.underlying22 hj0 hw0 hw1 hw2 rfl (by decide) (.slice A6 word.length c6) word.length (i64s word) rfl (OW6.out.alloc _) ⟨w6.heap.size, 0, none⟩ 1 1 [.int .i64 (j : Int)] rfl rfl (cell_one_new _ _ _) (ints_oneCell .i64 [(j : Int)]) (by unfold maxLen; omega) (by omega) (by simp; omega) ?_; intro v' w7 hown' hgrow hnil hat; rw [ints_snoc] at hown'; obtain ⟨g7, c7, rfl⟩ := own_succ' hown'; have be7 := hid (be6.out.trans (app_bel OW6.out sz6 hgrow)); have sz7 := be7.out.size; have OW7 := hid hown'; have HH7 := hid (HH.out.step be7.out); clear hgrow hat hnil hown') | (at_builtin; refine wpList_append_own_at _ rfl _ _ 75 rfl w.heap.size 22 i1' (Value.slice none 0 0) 1 24 Try.underlying75 hi1 hz1 hz2 hz3 rfl (by decide) (.slice (some ⟨gw, 0, none⟩) Q.length cw) Q.length hs rfl (HH7.out.words.alloc _) ⟨w7.heap.size, 0, none⟩ 1 1 [.slice (some ⟨g7, 0, none⟩) (word.length + 1) c7] rfl rfl (cell_one_new _ _ _) (by intro u hu; rw [List.mem_singleton.1 hu]; rfl) (by unfold maxLen; omega) (by omega) (by simp; omega) ?_; intro v' w9 hown' hgrow hnil hat; obtain ⟨gw', cw', rfl⟩ := own_succ' hown'; have GR9 := hid (grew_of hgrow hat); have OW9 := hid hown'; clear hgrow hat hnil hown'))
              have g7b := own_base OW7.out
              have g7l := own_lt OW7.out
              have S9 := hid (srch_add HH7.out ⟨by have := OW7.out.1; rw [i64s_length] at this; exact this, .inr ⟨g7, rfl, own_rebase OW7.out⟩⟩ (by simp) (by omega) (by omega) (by omega) g7l OW9.out GR9.out)
              go_roundw
              case rel => exact ⟨j + 1, gp', cp', gw', cw', hs ++ [.slice (some ⟨g7, 0, none⟩) (word.length + 1) c7], hjl, by go_num, by rw [E2.out]; simp, by rw [E2.out]; simp, by rw [E2.out]; exact S9⟩
              case measure =>
                show l - ((j : Int) + 1).toNat < l - ((j : Int)).toNat
                omega
            · rw [hin] at HEX
              have IX := hid (l02Index_found w.heap.size gp (expand (nxA xs xs' l s') (code, word) q j).length cp ((expand (nxA xs xs' l s') (code, word) q j).map (·.1)) nxt (by omega) hin wq SN.out.pairs)
              clear hin
              refine IX.out.mono ?_
              rintro e w5 ⟨rfl, h5⟩
              subst h5
              clear IX
              have E2 := hid (show expand (nxA xs xs' l s') (code, word) q (j + 1) = expand (nxA xs xs' l s') (code, word) q j from HEX.out)
              generalize place ((expand (nxA xs xs' l s') (code, word) q j).map (·.1)) nxt = pl at *
              have hnl : ¬ (((expand (nxA xs xs' l s') (code, word) q j).length : Nat) : Int) < (((expand (nxA xs xs' l s') (code, word) q j).length : Nat) : Int) := by omega
              go_wp2_with fail
              go_roundw
              case rel => exact ⟨j + 1, gp, cp, gw, cw, hs, hjl, by go_num, by rw [E2.out], by rw [E2.out], by rw [E2.out]; exact SN⟩
              case measure =>
                show l - ((j : Int) + 1).toNat < l - ((j : Int)).toNat
                omega
          · obtain rfl : j = l := by omega
            have EX2 := hid (show Qs (nxA xs xs' j s') j (k + 1) = expand (nxA xs xs' j s') (code, word) q j by rw [HQ.out])
            have HD2 := hid (show ∀ i, i < k + 1 → i < (Qs (nxA xs xs' j s') j i).length ∧ apA bs bs' s' (pos (Qs (nxA xs xs' j s') j i) i).1 = false from fun i hi => by
              by_cases e : i = k
              · subst e
                rw [EQ.out]
                exact ⟨hlt, by rw [HX.out]; exact HAP.out.trans hne⟩
              · exact HD.out i (by omega))
            go_wp2_with fail
            go_roundw
            case rel => exact ⟨k + 1, gp, cp, gw, cw, hs, by go_num, by rw [EX2.out], by rw [EX2.out], by rw [EX2.out]; exact S1, HD2.out⟩
            case measure =>
              have hkm : k < s * s' := by omega
              show s * s' - ((k : Int) + 1).toNat < s * s' - ((k : Int)).toNat
              omega
      · have hne : (p1 != p2) = true := bne_iff_ne.2 hap
        have hne2 : (p1 == p2) = false := beq_eq_false_iff_ne.2 hap
        have HANS := hid (ansS_unique HR.out ⟨k, HD.out, .inl ⟨hlt, by rw [HX.out]; exact HAP.out.trans hne, rfl⟩⟩)
        obtain ⟨gk, ck, pk, ok, hk1, hk2, hk3, hk4⟩ := SR.out.word hlt
        rw [HX.out] at pk ok HANS
        dsimp only at pk ok HANS
        have OK := hid ok
        have SRD := hid SR.out
        clear ok hap
        by_cases h12 : word.length ≤ 12
        · rw [if_pos h12] at HANS
          have hle : ((word.length : Nat) : Int) ≤ 12 := by omega
          go_quiet (fail)
          revert nq
          intro nc
          go_wp2_with fail
          go_quiet (fail)
          go_wp2_with fail
          go_ret2
          rw [HANS.out]
          refine ⟨some ⟨gk, 0, none⟩, word.length, ck, rfl, below_drewN (below_drewN (below_drewN (below_drewN SRD.out.bel _) _) _) _, fun word' hw => ?_⟩
          cases hw
          exact ⟨rfl, OK.out, fun r hr x hx => by rw [List.mem_singleton.1 hr] at hx; have h1 := rowN_is hx; subst h1; exact ⟨hk1, hk4⟩⟩
        · rw [if_neg h12] at HANS
          have hle : ¬ ((word.length : Nat) : Int) ≤ 12 := by omega
          go_quiet (fail)
          revert nq
          intro nc
          go_wp2_with fail
          go_quiet (fail)
          go_wp2_with fail
          go_ret2
          rw [HANS.out]
          exact ⟨some ⟨gk, 0, none⟩, word.length, ck, by show Ending.returned (.tuple #[.slice _ _ _, .bool (decide ((word.length : Int) ≤ 12))]) = _; rw [decide_eq_false (by omega)]; rfl, below_drewN (below_drewN SRD.out.bel _) _, fun word' hw => nomatch hw⟩
    · have hge := qs_ge (nx := nxA xs xs' l s') (L := l) k fun j hj => (HD.out j hj).1
      have HANS := hid (ansS_unique HR.out ⟨k, HD.out, .inr ⟨by omega, rfl⟩⟩)
      go_wp2_with fail
      go_ret2
      rw [HANS.out]
      exact ⟨none, 0, 0, rfl, SR.out.bel, fun word' hw => nomatch hw⟩
end Go.Proofs.Ytlfmcdobiojdlaa.fnExactApartWord
