/-
  The first word that just one of two plain machines reads, by the program.
-/
import Derived.Test.YtlfmcdobiojdlaaApSpec2
import Derived.Test.YtlfmcdobiojdlaaPairKey
import Derived.Test.YtlfmcdobiojdlaaOtherImpl
import Derived.Deep.RegionHeld3
import Derived.Deep.AppendLies
namespace Go.Proofs.Ytlfmcdobiojdlaa.fnExactApartWord
open Go.RowKit Go.Proofs.Fl Go.Proofs.Ytlfmcdobiojdlaa.Num Go.Proofs.Bfs
open Go.Maps (Keyed)
set_option linter.unusedVariables false
set_option linter.unusedSimpArgs false
def kvP (s' : Nat) (q : List Ent) : List (Value × Value) := q.map fun e => (pairV ((e.1 / s' : Nat) : Int) ((e.1 % s' : Nat) : Int), .bool true)
/-- what the program's search holds: the places (pair, word), the pairs seen in a map -/
structure SrchI (w wr : World) (base gp cp bm s' : Nat) (q : List Ent) (vs : List Value) (kvs : List (Value × Value)) : Prop where
  row : wr.ownsRow base 77 3 (.slice (some ⟨gp, 0, none⟩) q.length cp) q.length vs
  each : ∀ j, j < q.length → ∃ A c, vs[j * 3]? = some (.int .i64 (((pos q j).1 / s' : Nat) : Int)) ∧ vs[j * 3 + 1]? = some (.int .i64 (((pos q j).1 % s' : Nat) : Int)) ∧ vs[j * 3 + 2]? = some (.slice A (pos q j).2.length c) ∧ OwnL wr 2 1 A (pos q j).2.length c (pos q j).2 ∧ (∀ g, rowN (pos q j).2.length A = some g → base ≤ g ∧ g ≠ gp ∧ g ≠ bm) ∧ ((pos q j).2.length = 0 → A = none ∧ c = 0)
  map : MapIs wr bm kvs
  ne : gp ≠ bm
  mb : base ≤ bm
  bel : Below base w wr
theorem SrchI.bw {w wr : World} {base gp cp bm s' : Nat} {q : List Ent} {vs : List Value} {kvs : List (Value × Value)} (h : SrchI w wr base gp cp bm s' q vs kvs) : base ≤ wr.heap.size := Nat.le_trans h.mb (Nat.le_of_lt h.map.lt)
theorem SrchI.step {w wr w' : World} {base gp cp bm s' : Nat} {q : List Ent} {vs : List Value} {kvs : List (Value × Value)} (h : SrchI w wr base gp cp bm s' q vs kvs) (hb : Below wr.heap.size wr w') : SrchI w w' base gp cp bm s' q vs kvs :=
  ⟨own_keep h.row (hb.block _ (own_lt h.row)), fun j hj => by
    obtain ⟨A, c, h1, h2, h3, h4, h5⟩ := h.each j hj
    exact ⟨A, c, h1, h2, h3, h4.step hb, h5⟩, h.map.keep (hb.block _ h.map.lt), h.ne, h.mb, h.bel.trans (hb.mono h.bw)⟩
theorem SrchI.drewN {w wr : World} {base gp cp bm s' : Nat} {q : List Ent} {vs : List Value} {kvs : List (Value × Value)} (h : SrchI w wr base gp cp bm s' q vs kvs) (k : Nat) : SrchI w (wr.drewN k) base gp cp bm s' q vs kvs :=
  ⟨h.row, h.each, h.map, h.ne, h.mb, below_drewN h.bel k⟩
theorem SrchI.cells {w wr : World} {base gp cp bm s' : Nat} {q : List Ent} {vs : List Value} {kvs : List (Value × Value)} (h : SrchI w wr base gp cp bm s' q vs kvs) {j : Nat} (hj : j < q.length) :
    ∃ A c, wr.cell? ⟨gp, j * 3, none⟩ = some (.int .i64 (((pos q j).1 / s' : Nat) : Int)) ∧ wr.cell? ⟨gp, j * 3 + 1, none⟩ = some (.int .i64 (((pos q j).1 % s' : Nat) : Int)) ∧ wr.cell? ⟨gp, j * 3 + 2, none⟩ = some (.slice A (pos q j).2.length c) ∧ OwnL wr 2 1 A (pos q j).2.length c (pos q j).2 ∧ (∀ g, rowN (pos q j).2.length A = some g → base ≤ g ∧ g ≠ gp ∧ g ≠ bm) ∧ ((pos q j).2.length = 0 → A = none ∧ c = 0) := by
  obtain ⟨A, c, h1, h2, h3, h4, h5, h6⟩ := h.each j hj
  exact ⟨A, c, by rw [World.ownsRow.cellAt h.row _ (by omega)]; exact h1, by rw [World.ownsRow.cellAt h.row _ (by omega)]; exact h2, by rw [World.ownsRow.cellAt h.row _ (by omega)]; exact h3, h4, h5, h6⟩
theorem SrchI.vlen {w wr : World} {base gp cp bm s' : Nat} {q : List Ent} {vs : List Value} {kvs : List (Value × Value)} (h : SrchI w wr base gp cp bm s' q vs kvs) : vs.length = q.length * 3 := h.row.1
/-- one pair more is seen, its place not yet there -/
theorem SrchI.put {w wr w' : World} {base gp cp bm s' : Nat} {q : List Ent} {vs : List Value} {kvs kvs' : List (Value × Value)} (h : SrchI w wr base gp cp bm s' q vs kvs) (hm : MapIs w' bm kvs') (hg : wr.grownBy w' (some bm)) : SrchI w w' base gp cp bm s' q vs kvs' := by
  have K := Kept.of_grown hg
  have hrow := own_lt h.row
  refine ⟨own_keep h.row (K.block _ hrow fun r hr e => by rw [List.mem_singleton.1 hr] at e; exact h.ne (Option.some.inj e)), fun j hj => ?_, hm, h.ne, h.mb, h.bel.trans (K.below h.bw fun r hr g e => by rw [List.mem_singleton.1 hr] at e; rw [← Option.some.inj e]; exact h.mb)⟩
  obtain ⟨A, c, h1, h2, h3, h4, h5, h6⟩ := h.each j hj
  exact ⟨A, c, h1, h2, h3, h4.apart K fun g hg r hr e => by rw [List.mem_singleton.1 hr] at e; exact (h5 g hg).2.2 (Option.some.inj e), h5, h6⟩
/-- the place behind the others -/
theorem SrchI.add {w w7 w9 : World} {base gp cp bm s' gp' cp' g7 c7 n7 v1 v2 : Nat} {q : List Ent} {nxt : Nat} {vs : List Value} {kvs : List (Value × Value)} {wd : List Int} (h : SrchI w w7 base gp cp bm s' q vs kvs) (h2 : OwnL w7 2 1 (some ⟨g7, 0, none⟩) n7 c7 wd) (hn : n7 = wd.length) (hn0 : wd.length ≠ 0) (hb : base ≤ g7) (hp : g7 ≠ gp) (hm : g7 ≠ bm) (hl : g7 < w7.heap.size) (e1 : nxt / s' = v1) (e2 : nxt % s' = v2)
    (ho : w9.ownsRow base 77 3 (.slice (some ⟨gp', 0, none⟩) (q.length + 1) cp') (q.length + 1) (vs ++ [.int .i64 (v1 : Int), .int .i64 (v2 : Int), .slice (some ⟨g7, 0, none⟩) n7 c7])) (hg : Grew w7 w9 gp gp') : SrchI w w9 base gp' cp' bm s' (q ++ [(nxt, wd)]) (vs ++ [.int .i64 (v1 : Int), .int .i64 (v2 : Int), .slice (some ⟨g7, 0, none⟩) n7 c7]) kvs := by
  subst hn
  have hrow := own_lt h.row
  have hml := h.map.lt
  have hv := h.vlen
  have hne : gp' ≠ bm := by
    rcases hg.at_ with e | e
    · rw [e]; exact h.ne
    · omega
  refine ⟨by simpa using ho, fun j hj => ?_, h.map.keep (hg.kept.block bm hml fun r hr e => by rw [List.mem_singleton.1 hr] at e; exact h.ne (Option.some.inj e).symm), hne, h.mb, h.bel.trans (hg.kept.below h.bw fun r hr g e => by rw [List.mem_singleton.1 hr] at e; rw [← Option.some.inj e]; exact Go.Proofs.Ytlfmcdobiojdlaa.fnExactOtherPlain.own_ge h.row)⟩
  by_cases hj2 : j < q.length
  · obtain ⟨A, c, h1, h2', h3, h4, h5, h6⟩ := h.each j hj2
    rw [pos_app hj2]
    refine ⟨A, c, by rw [List.getElem?_append_left (by omega)]; exact h1, by rw [List.getElem?_append_left (by omega)]; exact h2', by rw [List.getElem?_append_left (by omega)]; exact h3, h4.apart hg.kept fun g hg r hr e => by rw [List.mem_singleton.1 hr] at e; exact (h5 g hg).2.1 (Option.some.inj e), fun g hgr => ?_, h6⟩
    have hgl := h4.row_lt hgr
    have a := h5 g hgr
    refine ⟨a.1, ?_, a.2.2⟩
    rcases hg.at_ with e | e
    · rw [e]; exact a.2.1
    · omega
  · have hje : j = q.length := by simp at hj; omega
    subst hje
    rw [pos_last]
    refine ⟨some ⟨g7, 0, none⟩, c7, ?_, ?_, ?_, ownL_kept1 h2 hg.kept hp, fun g hgr => ?_, fun h0 => absurd h0 hn0⟩
    · rw [List.getElem?_append_right (by omega), hv]; simp [e1]
    · rw [List.getElem?_append_right (by omega), hv, show q.length * 3 + 1 - q.length * 3 = 1 by omega]; simp [e2]
    · rw [List.getElem?_append_right (by omega), hv, show q.length * 3 + 2 - q.length * 3 = 2 by omega]; simp
    · have e := rowN_is hgr
      subst e
      refine ⟨hb, ?_, hm⟩
      rcases hg.at_ with e | e
      · rw [e]; exact hp
      · omega
/-- the place at hand: its copy at block bx -/
structure Cur (wr : World) (bx gp bm X Y : Nat) (A : Option Addr) (c : Nat) (word : List Int) : Prop where
  p0 : wr.cell? ⟨bx, 0, none⟩ = some (.int .i64 (X : Int))
  p1 : wr.cell? ⟨bx, 1, none⟩ = some (.int .i64 (Y : Int))
  p2 : wr.cell? ⟨bx, 2, none⟩ = some (.slice A word.length c)
  own : OwnL wr 2 1 A word.length c word
  row : ∀ g, rowN word.length A = some g → g ≠ gp ∧ g ≠ bm
  nil : word.length = 0 → A = none ∧ c = 0
  ne : bx ≠ gp
  nb : bx ≠ bm
  lt : bx < wr.heap.size
theorem Cur.kept {wr w' : World} {bx gp bm X Y : Nat} {A : Option Addr} {c : Nat} {word : List Int} (h : Cur wr bx gp bm X Y A c word) {g0 : Nat} (K : Kept wr w' [some g0]) (h0 : g0 = gp ∨ g0 = bm ∨ wr.heap.size ≤ g0) : Cur w' bx gp bm X Y A c word := by
  have hlt := h.lt
  have ne := h.ne
  have nb := h.nb
  have k : ∀ o, w'.cell? ⟨bx, o, none⟩ = wr.cell? ⟨bx, o, none⟩ := fun o => K.cell hlt (fun r hr e => by rw [List.mem_singleton.1 hr] at e; have := Option.some.inj e; omega) o
  refine ⟨(k 0).trans h.p0, (k 1).trans h.p1, (k 2).trans h.p2, h.own.apart K fun g hg r hr e => ?_, h.row, h.nil, h.ne, h.nb, Nat.lt_of_lt_of_le h.lt K.size⟩
  rw [List.mem_singleton.1 hr] at e
  have e := Option.some.inj e
  have a := h.row g hg
  have b := h.own.row_lt hg
  omega
theorem Cur.step {wr w' : World} {bx gp bm X Y : Nat} {A : Option Addr} {c : Nat} {word : List Int} (h : Cur wr bx gp bm X Y A c word) (hb : Below wr.heap.size wr w') : Cur w' bx gp bm X Y A c word := h.kept (Kept.of_below hb [some wr.heap.size]) (.inr (.inr (Nat.le_refl _)))
theorem Cur.grew {wr w' : World} {bx gp gp' bm X Y : Nat} {A : Option Addr} {c : Nat} {word : List Int} (h : Cur wr bx gp bm X Y A c word) (G : Grew wr w' gp gp') : Cur w' bx gp' bm X Y A c word := by
  have a := h.kept G.kept (.inl rfl)
  have hlt := h.lt
  refine ⟨a.p0, a.p1, a.p2, a.own, fun g hg => ⟨?_, (a.row g hg).2⟩, a.nil, ?_, a.nb, a.lt⟩
  · have b := h.own.row_lt hg
    rcases G.at_ with e | e
    · rw [e]; exact (a.row g hg).1
    · omega
  · rcases G.at_ with e | e
    · rw [e]; exact h.ne
    · omega
/-- a pair's block -/
structure PairAt (w : World) (b : Nat) (v1 v2 : Value) : Prop where
  c0 : w.cell? ⟨b, 0, none⟩ = some v1
  c1 : w.cell? ⟨b, 1, none⟩ = some v2
  fr : ∀ o, w.frozen? ⟨b, o, none⟩ = false
  lt : b < w.heap.size
theorem PairAt.step {w w' : World} {b : Nat} {v1 v2 : Value} (h : PairAt w b v1 v2) (hb : Below w.heap.size w w') : PairAt w' b v1 v2 :=
  ⟨(hb.cell (p := ⟨b, 0, none⟩) h.lt).trans h.c0, (hb.cell (p := ⟨b, 1, none⟩) h.lt).trans h.c1, fun o => (hb.frozen (p := ⟨b, o, none⟩) h.lt).trans (h.fr o), Nat.lt_of_lt_of_le h.lt hb.size⟩
theorem PairAt.kept {w w' : World} {b g0 : Nat} {v1 v2 : Value} (h : PairAt w b v1 v2) (K : Kept w w' [some g0]) (h0 : b ≠ g0) : PairAt w' b v1 v2 := by
  have k := K.block b h.lt fun r hr e => by rw [List.mem_singleton.1 hr] at e; exact h0 (Option.some.inj e)
  exact ⟨(World.cell?_of_block k).trans h.c0, (World.cell?_of_block k).trans h.c1, fun o => (World.frozen?_of_block k).trans (h.fr o), Nat.lt_of_lt_of_le h.lt K.size⟩
theorem seen_no {s' nxt p1 p2 : Nat} (e1 : nxt / s' = p1) (e2 : nxt % s' = p2) (q : List Ent) (h : q.any (fun y => y.1 == nxt) = false) : ∀ p ∈ kvP s' q, p.1 ≠ pairV (p1 : Int) (p2 : Int) := by
  intro p hp e
  obtain ⟨x, hx, rfl⟩ := List.mem_map.1 hp
  obtain ⟨a, b⟩ := pair_inj e
  have h1 : x.1 / s' = nxt / s' := by omega
  have h2 : x.1 % s' = nxt % s' := by omega
  have h3 : x.1 = nxt := by rw [← Nat.div_add_mod x.1 s', ← Nat.div_add_mod nxt s', h1, h2]
  rw [List.any_eq_false] at h
  exact h x hx (by simpa using h3)
theorem seen_yes {s' nxt p1 p2 : Nat} (e1 : nxt / s' = p1) (e2 : nxt % s' = p2) (q : List Ent) (h : q.any (fun y => y.1 == nxt) = true) : (pairV (p1 : Int) (p2 : Int), Value.bool true) ∈ kvP s' q := by
  obtain ⟨x, hx, h2⟩ := List.any_eq_true.1 h
  have h3 : x.1 = nxt := by simpa using h2
  exact List.mem_map.2 ⟨x, hx, by rw [h3, e1, e2]⟩
theorem kvP_true {s' : Nat} {q : List Ent} : ∀ p ∈ kvP s' q, ∀ k, p.1 = k → p.2 = Value.bool true := by
  intro p hp k _
  obtain ⟨x, hx, rfl⟩ := List.mem_map.1 hp
  rfl
theorem kvP_snoc {s' nxt p1 p2 : Nat} (e1 : nxt / s' = p1) (e2 : nxt % s' = p2) (q : List Ent) (wd : List Int) : kvP s' q ++ [(pairV (p1 : Int) (p2 : Int), Value.bool true)] = kvP s' (q ++ [(nxt, wd)]) := by
  unfold kvP
  rw [List.map_append, ← e1, ← e2]
  rfl
theorem own_row_ge {w : World} {base e size : Nat} {v : Value} {n : Nat} {xs : List Value} (h : w.ownsRow base e size v n xs) : ∀ g, v.ownBlock = some g → base ≤ g := by
  intro g hg
  rcases h.2 with ⟨rfl, _⟩ | ⟨g', cap, cur, rfl, hb, _⟩
  · cases hg
  · simp [Value.ownBlock] at hg; omega
theorem app_belV {wr w5 : World} {base e size : Nat} {v : Value} {n : Nat} {xs : List Value} (ho : wr.ownsRow base e size v n xs) (hb : base ≤ wr.heap.size) (hg : wr.grownBy w5 v.ownBlock) : Below base wr w5 :=
  (Kept.of_grown hg).below hb fun r hr g e => own_row_ge ho g (by rw [← List.mem_singleton.1 hr]; exact e)
theorem news_madeD (w : World) (v : Value) (e : TypeId) {w' : World} (hb : Below (w.alloc (.cells #[v] e)).drew.heap.size (w.alloc (.cells #[v] e)).drew w') : ∀ (j : Nat) (u : Value), [v][j]? = some u → w'.cell? ((⟨w.heap.size, 0, none⟩ : Addr).add j) = some u := by
  intro j u hu
  have hj : j = 0 := by
    have := (List.getElem?_eq_some_iff.1 hu).1
    simp at this
    exact this
  subst hj
  have h := cell_one_new w v e 0 u hu
  rw [← h]
  exact hb.cell (p := ⟨w.heap.size, 0, none⟩) (by show w.heap.size < (w.alloc _).heap.size; simp)
theorem place_info : (Try.prog.info? 77).map (fun i => (i.zero, i.size, i.bytes)) = some (some (Value.agg #[.int .i64 0, .int .i64 0, .slice none 0 0]), 3, 40) := by kernel_rfl
theorem grew_lies {w w' : World} {X : Obj} {g g' k c : Nat} (hg : (w.alloc X).grownBy w' (Value.slice (some ⟨g, 0, none⟩) k c).ownBlock) (hat : (Value.slice (some ⟨g, 0, none⟩) k c).ownBlock = some g' ∨ g' = w.heap.size + 1) : Grew w w' g g' := by
  refine ⟨(Kept.of_below ((Below.refl w.heap.size w).alloc (Nat.le_refl _) X) [some g]).trans (Kept.of_grown hg), ?_⟩
  rcases hat with h | h
  · simp [Value.ownBlock] at h; exact .inl h.symm
  · exact .inr (by omega)
theorem pair_made (w : World) {w' : World} (hb : Below (w.alloc (.cells #[.int .i64 0, .int .i64 0] 65)).heap.size (w.alloc (.cells #[.int .i64 0, .int .i64 0] 65)) w') : PairAt w' w.heap.size (.int .i64 0) (.int .i64 0) :=
  PairAt.step (w := w.alloc (.cells #[.int .i64 0, .int .i64 0] 65)) ⟨by go_simp, by go_simp, fun o => by go_simp, by simp⟩ hb
theorem pair_madeD (w : World) {w' : World} (hb : Below (w.alloc (.cells #[.int .i64 0, .int .i64 0] 65)).drew.heap.size (w.alloc (.cells #[.int .i64 0, .int .i64 0] 65)).drew w') : PairAt w' w.heap.size (.int .i64 0) (.int .i64 0) := pair_made w.drew hb
theorem bel_al {B : Nat} {w w' : World} (h : Below B w w') (hB : B ≤ w'.heap.size) (o : Obj) : Below B w (w'.alloc o) := h.alloc hB o
/-- a copy of a list: nothing at all stays nothing at all -/
theorem cloneV_calls (A : Option Addr) (n c : Nat) (xs : List Int) (hx : xs.length = n) (hn : n ≤ 1048576) (h0 : n = 0 → A = none ∧ c = 0) (w : World) (h : Rd w w.heap.size A (i64s xs)) :
    Calls Try.prog 58 #[.slice A n c] w (fun e w' => ∃ v4, e = .returned v4 ∧ w'.ownsRow w.heap.size 2 1 v4 n (i64s xs) ∧ Below w.heap.size w w') := by
  by_cases hn0 : n = 0
  · obtain ⟨rfl, rfl⟩ := h0 hn0
    subst hn0
    have hx0 : xs = [] := List.length_eq_zero_iff.1 hx
    subst hx0
    clear h hx
    go_enter Try.func58, Try.ntmps58
    go_wp2
    go_ret
    exact ⟨_, rfl, ⟨rfl, .inl ⟨rfl, rfl⟩⟩, Below.refl _ _⟩
  · refine (Go.Proofs.Ytlfmcdobiojdlaa.fnExactOtherPlain.cloneI_calls A n c xs hx hn w h).mono ?_
    rintro e w' ⟨A', c', rfl, ol, orr, bel⟩
    refine ⟨_, rfl, ?_, bel⟩
    rcases ol.2 with h1 | ⟨g, rfl, ho⟩
    · exact absurd h1 hn0
    · exact own_mono ho (orr g (rowN_some hn0))
theorem kvP_ok (s' : Nat) (q : List Ent) (h : ∀ e ∈ q, e.1 < 9223372036854775807) : KeysOk Try.prog 65 (kvP s' q) := by
  intro p hp
  obtain ⟨e, he, rfl⟩ := List.mem_map.1 hp
  have h1 := h e he
  have h2 := Nat.div_le_self e.1 s'
  have h3 := Nat.mod_le e.1 s'
  show ∃ l, keyOf Try.prog 65 (pairV ((e.1 / s' : Nat) : Int) ((e.1 % s' : Nat) : Int)) = some l
  generalize e.1 / s' = X at *
  generalize e.1 % s' = Y at *
  exact pair_key _ _ (by omega) (by omega)
theorem own_place (w : World) : (w.alloc (.cells #[.int .i64 0, .int .i64 0, .slice none 0 0] 77)).ownsRow w.heap.size 77 3 (.slice (some ⟨w.heap.size, 0, none⟩) 1 1) 1 [.int .i64 0, .int .i64 0, .slice none 0 0] :=
  ⟨by simp, .inr ⟨w.heap.size, 1, #[.int .i64 0, .int .i64 0, .slice none 0 0], rfl, Nat.le_refl _, heap_alloc_new _ _, Nat.le_refl _, by simp [maxLen], by simp, by simp⟩⟩
/-- the start of the program's search: three blocks made, then the map, one pair put -/
theorem srchI_start (w : World) (X Y : Obj) (s' : Nat) {w4 : World} (hm : MapIs w4 (w.heap.size + 1 + 1 + 1) [(pairV 0 0, .bool true)])
    (hg : ((((w.alloc X).alloc Y).alloc (.cells #[.int .i64 0, .int .i64 0, .slice none 0 0] 77)).alloc (.map #[] 0)).grownBy w4 (some (w.heap.size + 1 + 1 + 1))) :
    SrchI ((w.alloc X).alloc Y) w4 (w.heap.size + 1 + 1) (w.heap.size + 1 + 1) 1 (w.heap.size + 1 + 1 + 1) s' [(0, [])] [.int .i64 0, .int .i64 0, .slice none 0 0] (kvP s' [(0, [])]) := by
  have z2 : ((w.alloc X).alloc Y).heap.size = w.heap.size + 1 + 1 := by simp
  have K := Kept.of_grown hg
  have hb : Below ((w.alloc X).alloc Y).heap.size ((w.alloc X).alloc Y) w4 := (((Below.refl _ _).alloc (Nat.le_refl _) _).alloc (by simp) _).trans (K.below (by simp) fun r hr g e => by rw [List.mem_singleton.1 hr] at e; have := Option.some.inj e; omega)
  have ho := (own_place ((w.alloc X).alloc Y)).alloc (.map #[] 0)
  rw [z2] at ho
  have ho4 := own_keep ho (K.block _ (by simp) fun r hr e => by rw [List.mem_singleton.1 hr] at e; have := Option.some.inj e; omega)
  refine ⟨ho4, fun j hj => ?_, by simpa [kvP] using hm, by omega, by omega, z2 ▸ hb⟩
  have hj0 : j = 0 := by simp at hj; exact hj
  subst hj0
  exact ⟨none, 0, by simp [pos], by simp [pos], by simp [pos], ⟨rfl, .inl rfl⟩, (fun g h => nomatch h), fun _ => ⟨rfl, rfl⟩⟩
theorem qi_ge {nx : Nat → Nat → Nat} {L : Nat} : ∀ i, (∀ j, j < i → j < (Qi nx L j).length) → i ≤ (Qi nx L i).length
  | 0, _ => by omega
  | i + 1, h => by
    have h1 := h i (by omega)
    have h2 := expand_le nx (pos (Qi nx L i) i) (Qi nx L i) L
    unfold Qi
    split <;> omega
theorem qi_wlen {nx : Nat → Nat → Nat} {L : Nat} : ∀ i, (∀ j, j < i → j < (Qi nx L j).length) → ∀ y ∈ Qi nx L i, y.2.length ≤ i
  | 0, _ => by simp [Qi]
  | i + 1, h => by
    have ih := qi_wlen i fun j hj => h j (by omega)
    obtain ⟨t, ht, hl⟩ := expand_app nx (pos (Qi nx L i) i) (Qi nx L i) L
    intro y hy
    unfold Qi at hy
    split at hy
    · have := ih y hy; omega
    · rw [ht] at hy
      rcases List.mem_append.1 hy with h1 | h1
      · have := ih y h1; omega
      · have h2 := ih _ (pos_mem (h i (by omega))); rw [hl y h1]; omega
theorem step_of {s l n : Nat} {xs : List Int} {m : Nat} {bs : List Bool} (h : Pl s l n xs m bs) {x k : Nat} (hx : x < s) (hk : k < l) : StepOk s l n xs x k (x * l + k) ((toN xs l x k : Nat) : Int) ∧ toN xs l x k < s := by
  obtain ⟨v, hv, he, ht⟩ := h.to hx hk
  have hs := h.s2
  have hl := h.l2
  have a := mul_cast_small (a := x) (b := l) (k := k) (by omega) (by omega) (by omega) rfl
  have e : (x : Int) * (l : Int) + (k : Int) = ((x * l + k : Nat) : Int) := by simp
  rw [ht]
  refine ⟨⟨a.1.1, a.2.1.1, e, by rw [h.ns]; exact idx_lt hx hk, by rw [h.xl, h.ns]; exact idx_lt hx hk, he, ?_, by omega⟩, hv⟩
  unfold stepP
  rw [e, Int.toNat_natCast, List.getD_eq_getElem?_getD, he]
  rfl
theorem nx_parts {xs xs' : List Int} {l s' code X Y j : Nat} (eX : X = code / s') (eY : Y = code % s') {v1 v2 : Nat} (h1 : toN xs l X j = v1) (h2 : toN xs' l Y j = v2) (hv : v2 < s') : nxA xs xs' l s' code j / s' = v1 ∧ nxA xs xs' l s' code j % s' = v2 := by
  have e : nxA xs xs' l s' code j = v1 * s' + v2 := by
    unfold nxA
    rw [← eX, ← eY, h1, h2]
  rw [e]
  exact ⟨by rw [Nat.mul_comm, Nat.mul_add_div (by omega), Nat.div_eq_of_lt hv]; rfl, by rw [Nat.mul_comm, Nat.mul_add_mod, Nat.mod_eq_of_lt hv]⟩
set_option maxRecDepth 100000 in
set_option maxHeartbeats 12800000 in
theorem firstApart_calls (s l : Nat) (A : Option Addr) (n c : Nat) (B : Option Addr) (m d : Nat) (xs : List Int) (bs : List Bool) (hP : Pl s l n xs m bs) (s' : Nat) (A' : Option Addr) (n' c' : Nat) (B' : Option Addr) (m' d' : Nat) (xs' : List Int) (bs' : List Bool) (hP' : Pl s' l n' xs' m' bs')
    (r : Option (List Int)) (hr : AnsI (nxA xs xs' l s') l (apA bs bs' s') r) (w : World) (hl : ListsP w A B xs bs) (hl' : ListsP w A' B' xs' bs') :
    Calls Try.prog 63 #[.agg #[.int .i64 s, .int .i64 l, .slice A n c, .slice B m d], .agg #[.int .i64 s', .int .i64 l, .slice A' n' c', .slice B' m' d']] w (RetAp2 r w) := by
  obtain ⟨j0, hj0, hw0, hw1, hw2⟩ := info_parts toInt64S_info
  have HP := hid hP
  have HP' := hid hP'
  have HR := hid hr
  have HL := hid hl
  have HL' := hid hl'
  have hs1 := hP.s1
  have hs2 := hP.s2
  have hs1' := hP'.s1
  have hs2' := hP'.s2
  have hl1 := hP.l1
  have hl2 := hP.l2
  have hM := hid (Pl.mulb hP hP')
  have HNX := hid fun c k (hc : c < s * s') (hk : k < l) => nxA_lt hP hP' hc hk
  have HG := hid fun i hi => Good.qi (nx := nxA xs xs' l s') (L := l) (M := s * s') (fun c k hc hk => nxA_lt hP hP' hc hk) (Nat.mul_pos (show 0 < s by omega) (show 0 < s' by omega)) i hi
  clear hl hl' hr
  have hmm := @run_makeMap Try.prog
  obtain ⟨w4, hrun, hmap, hgrow⟩ := MapIs.put (w := (((w.alloc (Obj.cells #[.int .i64 (s : Int), .int .i64 (l : Int), .slice A n c, .slice B m d] 31)).alloc (Obj.cells #[.int .i64 (s' : Int), .int .i64 (l : Int), .slice A' n' c', .slice B' m' d'] 31)).alloc (Obj.cells #[.int .i64 0, .int .i64 0, .slice none 0 0] 77)).alloc (.map #[] 0)) (b := w.heap.size + 1 + 1 + 1) (kvs := []) (val := .bool true) (by have h := MapIs.made (((w.alloc (Obj.cells #[.int .i64 (s : Int), .int .i64 (l : Int), .slice A n c, .slice B m d] 31)).alloc (Obj.cells #[.int .i64 (s' : Int), .int .i64 (l : Int), .slice A' n' c', .slice B' m' d'] 31)).alloc (Obj.cells #[.int .i64 0, .int .i64 0, .slice none 0 0] 77)); simpa using h) pairKeyed Try.underlying79 (fun p hp => nomatch hp) (pair_key 0 0 (by omega) (by omega)).choose_spec (fun p hp => nomatch hp)
  have HMAP := hid hmap
  have HGROW := hid hgrow
  unfold pairV at hrun
  clear hmap hgrow
  go_enter Try.func63, Try.ntmps63
  go_wp2_with fail
  have PA0 := hid (show PlainAt ((w.alloc (Obj.cells #[.int .i64 (s : Int), .int .i64 (l : Int), .slice A n c, .slice B m d] 31)).alloc (Obj.cells #[.int .i64 (s' : Int), .int .i64 (l : Int), .slice A' n' c', .slice B' m' d'] 31)) w.heap.size s l A n c B m d from ⟨by go_simp, by go_simp, by go_simp, by go_simp⟩)
  have PB0 := hid (show PlainAt ((w.alloc (Obj.cells #[.int .i64 (s : Int), .int .i64 (l : Int), .slice A n c, .slice B m d] 31)).alloc (Obj.cells #[.int .i64 (s' : Int), .int .i64 (l : Int), .slice A' n' c', .slice B' m' d'] 31)) (w.heap.size + 1) s' l A' n' c' B' m' d' from ⟨by go_simp, by go_simp, by go_simp, by go_simp⟩)
  have S0 := hid (srchI_start w _ _ s' (by simpa using HMAP.out) HGROW.out)
  have BV := hid ((((Below.refl w.heap.size w).alloc (Nat.le_refl _) (Obj.cells #[.int .i64 (s : Int), .int .i64 (l : Int), .slice A n c, .slice B m d] 31)).alloc (by simp) (Obj.cells #[.int .i64 (s' : Int), .int .i64 (l : Int), .slice A' n' c', .slice B' m' d'] 31)))
  have zV : w.heap.size + 2 ≤ ((w.alloc (Obj.cells #[.int .i64 (s : Int), .int .i64 (l : Int), .slice A n c, .slice B m d] 31)).alloc (Obj.cells #[.int .i64 (s' : Int), .int .i64 (l : Int), .slice A' n' c', .slice B' m' d'] 31)).heap.size := by simp
  clear HMAP HGROW hrun hmm
  generalize (w.alloc (Obj.cells #[.int .i64 (s : Int), .int .i64 (l : Int), .slice A n c, .slice B m d] 31)).alloc (Obj.cells #[.int .i64 (s' : Int), .int .i64 (l : Int), .slice A' n' c', .slice B' m' d'] 31) = v at *
  go_loopw [6, 8] (fun v6 i wr => ∃ (k gp cp : Nat) (vs : List Value), i = .int .i64 k ∧ v6 = .slice (some ⟨gp, 0, none⟩) (Qi (nxA xs xs' l s') l k).length cp ∧ Hid (SrchI v wr (w.heap.size + 1 + 1) gp cp (w.heap.size + 1 + 1 + 1) s' (Qi (nxA xs xs' l s') l k) vs (kvP s' (Qi (nxA xs xs' l s') l k))) ∧ Hid (∀ j, j < k → j < (Qi (nxA xs xs' l s') l j).length ∧ apA bs bs' s' (pos (Qi (nxA xs xs' l s') l j) j).1 = false)) (fun _ i _ => s * s' - (intOf i).toNat)
  case atStart => exact ⟨0, w.heap.size + 1 + 1, 1, _, rfl, rfl, S0, fun j hj => absurd hj (by omega)⟩
  case round =>
    clear S0
    obtain ⟨k, gp, cp, vs, rfl, rfl, SR, HD⟩ := hrel
    have hgood := HG.out k fun j hj => (HD.out j hj).1
    have hql := hgood.len
    have hq4 : (Qi (nxA xs xs' l s') l k).length ≤ 4096 := Nat.le_trans hql hM.out
    by_cases hlt : k < (Qi (nxA xs xs' l s') l k).length
    · have hc := hgood.2 _ (pos_mem hlt)
      obtain ⟨Ak, ck, p0, p1, p2, ok, hrk, hnk⟩ := SR.out.cells hlt
      have hgl := own_lt SR.out.row
      generalize hxx : pos (Qi (nxA xs xs' l s') l k) k = x at *
      have HX := hid hxx
      clear hxx
      obtain ⟨code, word⟩ := x
      dsimp only at p0 p1 p2 ok hrk hnk hc
      have HNK := hid hnk
      have OK := hid ok
      have HRK := hid hrk
      clear ok hrk hnk
      obtain ⟨X, hX⟩ : ∃ X, X = code / s' := ⟨_, rfl⟩
      obtain ⟨Y, hY⟩ : ∃ Y, Y = code % s' := ⟨_, rfl⟩
      have hXs : X < s := by rw [hX]; exact Nat.div_lt_of_lt_mul (by rw [Nat.mul_comm]; exact hc)
      have hYs : Y < s' := by rw [hY]; exact Nat.mod_lt _ (by omega)
      rw [← hX] at p0
      rw [← hY] at p1
      have EX := hid hX
      have EY := hid hY
      clear hX hY
      go_upto_region 7 with (fail)
      have be1 : Below wr.heap.size wr (wr.alloc (.cells #[.int .i64 (X : Int), .int .i64 (Y : Int), .slice Ak word.length ck] 77)) := (Below.refl _ _).alloc (Nat.le_refl _) _
      have e0 : (wr.alloc (.cells #[.int .i64 (X : Int), .int .i64 (Y : Int), .slice Ak word.length ck] 77)).cell? ⟨wr.heap.size, 0, none⟩ = some (.int .i64 (X : Int)) := by go_simp
      have e1 : (wr.alloc (.cells #[.int .i64 (X : Int), .int .i64 (Y : Int), .slice Ak word.length ck] 77)).cell? ⟨wr.heap.size, 1, none⟩ = some (.int .i64 (Y : Int)) := by go_simp
      have e2 : (wr.alloc (.cells #[.int .i64 (X : Int), .int .i64 (Y : Int), .slice Ak word.length ck] 77)).cell? ⟨wr.heap.size, 2, none⟩ = some (.slice Ak word.length ck) := by go_simp
      have ss1 : (wr.alloc (.cells #[.int .i64 (X : Int), .int .i64 (Y : Int), .slice Ak word.length ck] 77)).heap.size = wr.heap.size + 1 := by simp
      have SV := hid (SR.out.step be1)
      have BV1 := hid (SR.out.bel.trans (be1.mono SR.out.bw))
      have hbw := SR.out.bw
      have PA1 := hid (show PlainAt (wr.alloc (.cells #[.int .i64 (X : Int), .int .i64 (Y : Int), .slice Ak word.length ck] 77)) w.heap.size s l A n c B m d from PA0.out.keep fun o => BV1.out.cell (p := ⟨w.heap.size, o, none⟩) (by simp; omega))
      have PB1 := hid (show PlainAt (wr.alloc (.cells #[.int .i64 (X : Int), .int .i64 (Y : Int), .slice Ak word.length ck] 77)) (w.heap.size + 1) s' l A' n' c' B' m' d' from PB0.out.keep fun o => BV1.out.cell (p := ⟨w.heap.size + 1, o, none⟩) (by simp))
      have hXb : X < bs.length := by have h1 := HP.out.bl; have h2 := HP.out.ms; omega
      have hYb : Y < bs'.length := by have h1 := HP'.out.bl; have h2 := HP'.out.ms; omega
      have BW1 := hid (BV.out.trans (BV1.out.mono (by omega)))
      obtain ⟨b1, o1, rfl, hb1, q1⟩ := bools_at (rd_step HL.out.b BW1.out) hXb
      obtain ⟨b2, o2, rfl, hb2, q2⟩ := bools_at (rd_step HL'.out.b BW1.out) hYb
      have HAP := hid (show apA bs bs' s' code = (bs[X] != bs'[Y]) by unfold apA; rw [← EX.out, ← EY.out]; simp [List.getD_eq_getElem?_getD, hXb, hYb])
      have hXm : (X : Int) < (m : Int) := by have h2 := HP.out.ms; omega
      have hYm : (Y : Int) < (m' : Int) := by have h2 := HP'.out.ms; omega
      have a3 := PA1.out.c3
      have b3 := PB1.out.c3
      have OK1 := hid (OK.out.step be1)
      clear be1 p0 p1 p2
      generalize wr.alloc (.cells #[.int .i64 (X : Int), .int .i64 (Y : Int), .slice Ak word.length ck] 77) = v1 at *
      generalize hbx : wr.heap.size = bx at *
      generalize bs[X] = t1 at *
      generalize bs'[Y] = t2 at *
      by_cases hap : t1 = t2
      · subst hap
        have hne : (t1 != t1) = false := bne_self_eq_false _
        have HD2 := hid (show ∀ i, i < k + 1 → i < (Qi (nxA xs xs' l s') l i).length ∧ apA bs bs' s' (pos (Qi (nxA xs xs' l s') l i) i).1 = false from fun i hi => by
          by_cases e : i = k
          · subst e
            exact ⟨hlt, by rw [HX.out]; exact HAP.out.trans hne⟩
          · exact HD.out i (by omega))
        have a1 := PA1.out.c1
        by_cases h12 : word.length = 12
        · have h12a : ((word.length : Nat) : Int) = 12 := by omega
          have EQ12 := hid (show Qi (nxA xs xs' l s') l (k + 1) = Qi (nxA xs xs' l s') l k by
            show (if (pos (Qi (nxA xs xs' l s') l k) k).2.length = 12 then _ else _) = _
            rw [HX.out, if_pos h12])
          clear h12
          go_quiet (fail)
          revert nq
          intro na
          go_wp2_with fail
          go_roundw
          case rel => exact ⟨k + 1, gp, cp, vs, by go_num, by rw [EQ12.out], by rw [EQ12.out]; exact SV.out.drewN na, HD2.out⟩
          case measure =>
            have hkm : k < s * s' := by omega
            show s * s' - ((k : Int) + 1).toNat < s * s' - ((k : Int)).toNat
            omega
        · have h12a : (((word.length : Nat) : Int) == 12) = false := by simp; omega
          have EQ12 := hid (show Qi (nxA xs xs' l s') l (k + 1) = expand (nxA xs xs' l s') (code, word) (Qi (nxA xs xs' l s') l k) l by
            show (if (pos (Qi (nxA xs xs' l s') l k) k).2.length = 12 then _ else expand (nxA xs xs' l s') (pos (Qi (nxA xs xs' l s') l k) k) (Qi (nxA xs xs' l s') l k) l) = _
            rw [HX.out, if_neg h12])
          have hw12 : word.length ≤ 4096 := by
            have h := qi_wlen k (fun j hj => (HD.out j hj).1) _ (pos_mem hlt)
            rw [HX.out] at h
            have h' : word.length ≤ k := h
            omega
          clear h12
          go_quiet (fail)
          revert nq
          intro na
          go_wp2_with fail
          have hbml : w.heap.size + 1 + 1 + 1 < bx := by have := SR.out.map.lt; rw [hbx] at this; exact this
          have C1 := hid (show Cur (v1.drewN na) bx gp (w.heap.size + 1 + 1 + 1) X Y Ak ck word from ⟨e0, e1, e2, OK1.out, fun g hg => (HRK.out g hg).2, HNK.out, (show bx ≠ gp by omega), (show bx ≠ w.heap.size + 1 + 1 + 1 by omega), (show bx < v1.heap.size by omega)⟩)
          have S1 := hid (SV.out.drewN na)
          clear e0 e1 e2 a1 a3 b3 q1 q2 hb1 hb2 PA1 PB1 OK1 BW1 BV1 SV SR OK HRK HNK ss1 hbx
          generalize v1.drewN na = wv at *
          generalize hqq : Qi (nxA xs xs' l s') l k = q at *
          have EQ := hid hqq
          have HQG := hid hgood
          clear hqq hgood
          have hlq := expand_le (nxA xs xs' l s') (code, word) q
          go_loopw [6, 50] (fun v6 i wr => ∃ (j gp cp : Nat) (vs : List Value), j ≤ l ∧ i = .int .i64 j ∧ v6 = .slice (some ⟨gp, 0, none⟩) (expand (nxA xs xs' l s') (code, word) q j).length cp ∧ Hid (SrchI v wr (w.heap.size + 1 + 1) gp cp (w.heap.size + 1 + 1 + 1) s' (expand (nxA xs xs' l s') (code, word) q j) vs (kvP s' (expand (nxA xs xs' l s') (code, word) q j))) ∧ Hid (Cur wr bx gp (w.heap.size + 1 + 1 + 1) X Y Ak ck word)) (fun _ i _ => l - (intOf i).toNat)
          case atStart => exact ⟨0, gp, cp, vs, Nat.zero_le _, rfl, rfl, S1, C1⟩
          case round =>
            clear S1 C1
            obtain ⟨j, gp, cp, vs, hj, rfl, rfl, S1, C1⟩ := hrel
            by_cases hjl : j < l
            · have BWR := hid (BV.out.trans (S1.out.bel.mono (by omega)))
              have hbz := S1.out.bw
              have PA1 := hid (show PlainAt wr w.heap.size s l A n c (some ⟨b1, o1, none⟩) m d from PA0.out.keep fun o => S1.out.bel.cell (p := ⟨w.heap.size, o, none⟩) (by simp; omega))
              have PB1 := hid (show PlainAt wr (w.heap.size + 1) s' l A' n' c' (some ⟨b2, o2, none⟩) m' d' from PB0.out.keep fun o => S1.out.bel.cell (p := ⟨w.heap.size + 1, o, none⟩) (by simp))
              obtain ⟨so1, hv1⟩ := step_of HP.out hXs hjl
              obtain ⟨so2, hv2⟩ := step_of HP'.out hYs hjl
              have HSO1 := hid so1
              have HSO2 := hid so2
              have NXP := hid (nx_parts (xs := xs) (xs' := xs') EX.out EY.out (j := j) rfl rfl hv2)
              clear so1 so2
              have HSF := hid (show ∀ w', Below wr.heap.size wr w' → (w'.cell? ⟨w.heap.size, 0, none⟩ = some (.int .i64 (s : Int)) ∧ w'.cell? ⟨w.heap.size, 1, none⟩ = some (.int .i64 (l : Int)) ∧ w'.cell? ⟨w.heap.size, 2, none⟩ = some (.slice A n c) ∧ w'.cell? ⟨w.heap.size, 3, none⟩ = some (.slice (some ⟨b1, o1, none⟩) m d) ∧ w'.cell? ⟨w.heap.size + 1, 0, none⟩ = some (.int .i64 (s' : Int)) ∧ w'.cell? ⟨w.heap.size + 1, 1, none⟩ = some (.int .i64 (l : Int)) ∧ w'.cell? ⟨w.heap.size + 1, 2, none⟩ = some (.slice A' n' c') ∧ w'.cell? ⟨w.heap.size + 1, 3, none⟩ = some (.slice (some ⟨b2, o2, none⟩) m' d') ∧ w'.cell? ⟨bx, 0, none⟩ = some (.int .i64 (X : Int)) ∧ w'.cell? ⟨bx, 1, none⟩ = some (.int .i64 (Y : Int))) from fun w' hb => by
                obtain ⟨x0, x1, x2, x3⟩ := PA1.out.step hb (by omega)
                obtain ⟨y0, y1, y2, y3⟩ := PB1.out.step hb (by omega)
                have cu := C1.out.step hb
                exact ⟨x0, x1, x2, x3, y0, y1, y2, y3, cu.p0, cu.p1⟩)
              have hn1 : n ≤ 1048576 := by have := HP.out.ns; have := Nat.mul_le_mul hs2 hl2; omega
              have hn2 : n' ≤ 1048576 := by have := HP'.out.ns; have := Nat.mul_le_mul hs2' hl2; omega
              generalize toN xs l X j = p1 at *
              generalize toN xs' l Y j = p2 at *
              have HC1 := hid (show ∀ w', Below wr.heap.size wr w' → Calls Try.prog 56 #[.agg #[.int .i64 (s : Int), .int .i64 (l : Int), .slice A n c, .slice (some ⟨b1, o1, none⟩) m d], .int .i64 (X : Int), .int .i64 (j : Int)] w' (fun e w'' => e = .returned (.int .i64 (p1 : Int)) ∧ Below w'.heap.size w' w'' ∧ Below wr.heap.size wr w'') from fun w' hb => by
                refine (to_calls s l A n c (some ⟨b1, o1, none⟩) m d xs HP.out.xl hn1 X j _ _ HSO1.out w' (rd_step HL.out.a (BWR.out.trans (hb.mono BWR.out.size)))).mono ?_
                rintro e w9 ⟨rfl, b9⟩
                exact ⟨rfl, b9, hb.trans (b9.mono hb.size)⟩)
              have HC2 := hid (show ∀ w', Below wr.heap.size wr w' → Calls Try.prog 56 #[.agg #[.int .i64 (s' : Int), .int .i64 (l : Int), .slice A' n' c', .slice (some ⟨b2, o2, none⟩) m' d'], .int .i64 (Y : Int), .int .i64 (j : Int)] w' (fun e w'' => e = .returned (.int .i64 (p2 : Int)) ∧ Below w'.heap.size w' w'' ∧ Below wr.heap.size wr w'') from fun w' hb => by
                refine (to_calls s' l A' n' c' (some ⟨b2, o2, none⟩) m' d' xs' HP'.out.xl hn2 Y j _ _ HSO2.out w' (rd_step HL'.out.a (BWR.out.trans (hb.mono BWR.out.size)))).mono ?_
                rintro e w9 ⟨rfl, b9⟩
                exact ⟨rfl, b9, hb.trans (b9.mono hb.size)⟩)
              have D0 := hid (show Below wr.heap.size wr wr.drew from (Below.refl _ _).drew)
              have D1 := hid (show Below wr.heap.size wr (wr.alloc (.cells #[.int .i64 0, .int .i64 0] 65)).drew from ((Below.refl _ _).alloc (Nat.le_refl _) _).drew)
              obtain ⟨x0, x1, x2, x3, x4, x5, x6, x7, x8, x9⟩ := HSF.out wr.drew D0.out
              go_wp2_with fail
              go_cut [11] from 53 to 65 (fun vv wx => ∃ bo, vv = .pointer (some ⟨bo, 0, none⟩) ∧ Hid (PairAt wx bo (.int .i64 (p1 : Int)) (.int .i64 (p2 : Int))) ∧ wr.heap.size ≤ bo ∧ Hid (Below wr.heap.size wr wx))
              case first =>
                go_region_held3 (fun w' => w'.cell? ⟨w.heap.size, 0, none⟩ = some (.int .i64 (s : Int)) ∧ w'.cell? ⟨w.heap.size, 1, none⟩ = some (.int .i64 (l : Int)) ∧ w'.cell? ⟨w.heap.size, 2, none⟩ = some (.slice A n c) ∧ w'.cell? ⟨w.heap.size, 3, none⟩ = some (.slice (some ⟨b1, o1, none⟩) m d) ∧ w'.cell? ⟨w.heap.size + 1, 0, none⟩ = some (.int .i64 (s' : Int)) ∧ w'.cell? ⟨w.heap.size + 1, 1, none⟩ = some (.int .i64 (l : Int)) ∧ w'.cell? ⟨w.heap.size + 1, 2, none⟩ = some (.slice A' n' c') ∧ w'.cell? ⟨w.heap.size + 1, 3, none⟩ = some (.slice (some ⟨b2, o2, none⟩) m' d') ∧ w'.cell? ⟨bx, 0, none⟩ = some (.int .i64 (X : Int)) ∧ w'.cell? ⟨bx, 1, none⟩ = some (.int .i64 (Y : Int)))
                  (first | with_reducible exact HSF.out _ D0.out | with_reducible exact HSF.out _ D1.out | with_reducible exact HSF.out _ DA.out | with_reducible exact HSF.out _ DB.out | with_reducible exact HSF.out _ (bel_al DA.out DA.out.size _) | with_reducible exact HSF.out _ (bel_al DB.out DB.out.size _) | with_reducible exact HSF.out _ ((DB.out.setCell ZG.out _).setCell ZG.out _) | with_reducible exact HSF.out _ (((bel_al DB.out DB.out.size _).setCell DB.out.size _).setCell DB.out.size _) | fail)
                  (first | (go_at_call_of 56 c; refine (HC1.out _ (by first | with_reducible exact D0.out | with_reducible exact D1.out)).mono ?_; rintro e wa ⟨rfl, ba, da⟩; have DA := hid da; (first | (with_reducible have ZA := hid (pair_madeD wr ba); have ZH := hid (Nat.le_refl wr.heap.size)) | skip); clear ba da) | (go_at_call_of 56 c'; refine (HC2.out _ (by first | with_reducible exact DA.out | with_reducible exact bel_al DA.out DA.out.size _)).mono ?_; rintro e wb ⟨rfl, bb, db⟩; have DB := hid db; (first | (with_reducible have ZB := hid (pair_made wa bb); have ZG := hid DA.out.size) | (with_reducible have ZB := hid (ZA.out.step bb); have ZG := ZH) | skip); (try (obtain ⟨k0, k1, fz, zl⟩ := ZB.out; have f0 := fz 0; have f1 := fz 1; clear fz)); clear bb db) | fail)
                all_goals
                  go_wp2_with fail
                  go_meet
                  case rel =>
                    first
                    | exact ⟨wr.heap.size, rfl, ⟨by go_simp, by go_simp, fun o => by have := ZB.out.fr o; go_simp, by have := ZB.out.lt; simp; omega⟩, Nat.le_refl _, ((DB.out.setCell ZG.out _).setCell ZG.out _)⟩
                    | exact ⟨wa.heap.size, rfl, ⟨by go_simp, by go_simp, fun o => by have := ZB.out.fr o; go_simp, by have := ZB.out.lt; simp; omega⟩, DA.out.size, ((DB.out.setCell ZG.out _).setCell ZG.out _)⟩
                    | exact ⟨wb.heap.size, rfl, ⟨by go_simp, by go_simp, fun o => by go_simp, by simp⟩, DB.out.size, bel_al DB.out DB.out.size _⟩
                    | fail
              case rest =>
                obtain ⟨bo, rfl, PO, hbo1, BC⟩ := hcut
                have S2 := hid (S1.out.step BC.out)
                have C2 := hid (C1.out.step BC.out)
                clear x0 x1 x2 x3 x4 x5 x6 x7 x8 x9 HSF HC1 HC2 D0 D1 PA1 PB1
                have bow : bo ≠ w.heap.size + 1 + 1 + 1 := by have := S1.out.map.lt; omega
                have bog : bo ≠ gp := by have := own_lt S1.out.row; omega
                have HEX := hid (show expand (nxA xs xs' l s') (code, word) q (j + 1) = if (expand (nxA xs xs' l s') (code, word) q j).any (fun y => y.1 == nxA xs xs' l s' code j) then expand (nxA xs xs' l s') (code, word) q j else expand (nxA xs xs' l s') (code, word) q j ++ [(nxA xs xs' l s' code j, word ++ [(j : Int)])] from rfl)
                have hge := Good.expand (L := l) (M := s * s') (fun c k hc hk => HNX.out c k hc hk) (x := (code, word)) hc (HQG.out) j (by omega)
                have hbig : (expand (nxA xs xs' l s') (code, word) q j).length ≤ 4096 := Nat.le_trans hge.len hM.out
                have hkok := kvP_ok s' (expand (nxA xs xs' l s') (code, word) q j) fun e he => by have := hge.2 e he; have := hM.out; omega
                clear hge
                generalize hq2 : expand (nxA xs xs' l s') (code, word) q (j + 1) = Q2 at *
                have HQ2 := hid hq2
                clear hq2
                generalize expand (nxA xs xs' l s') (code, word) q j = Q at *
                generalize nxA xs xs' l s' code j = nxt at *
                have hkey := (pair_key (p1 : Int) (p2 : Int) (by omega) (by omega)).choose_spec
                generalize wc = w2 at *
                obtain ⟨o0, o1', ofz, ol⟩ := PO.out
                cases hin : Q.any (fun y => y.1 == nxt)
                · have hno := seen_no NXP.out.1 NXP.out.2 Q hin
                  have E2 := hid (show Q2 = Q ++ [(nxt, word ++ [(j : Int)])] by rw [HEX.out, hin]; rfl)
                  have hlook := MapIs.look_no S2.out.map pairKeyed Try.underlying79 hkok (z := .bool false) (by go_simp) hkey hno false
                  obtain ⟨w5, hrun, hmap, hgrow⟩ := MapIs.put S2.out.map pairKeyed Try.underlying79 hkok (val := .bool true) hkey hno
                  rw [kvP_snoc NXP.out.1 NXP.out.2 Q (word ++ [(j : Int)])] at hmap
                  have S5 := hid (S2.out.put hmap hgrow)
                  have C5 := hid (C2.out.kept (Kept.of_grown hgrow) (.inr (.inl rfl)))
                  have PO5 := hid (PO.out.kept (Kept.of_grown hgrow) bow)
                  unfold pairV at hlook hrun
                  simp only [Bool.false_eq_true, if_false] at hlook
                  clear hkok hkey hno hmap hgrow hin
                  go_wp2_with fail
                  obtain ⟨q0, q1, qf, ql⟩ := PO5.out
                  obtain ⟨i1', hi1, hz1, hz2, hz3⟩ := info_parts place_info
                  have HSF := hid (show ∀ w', Below w5.heap.size w5 w' → (w'.cell? ⟨bx, 2, none⟩ = some (.slice Ak word.length ck) ∧ w'.cell? ⟨bo, 0, none⟩ = some (.int .i64 (p1 : Int)) ∧ w'.cell? ⟨bo, 1, none⟩ = some (.int .i64 (p2 : Int))) from fun w' hb => by
                    have a := C5.out.step hb
                    have b := PO5.out.step hb
                    exact ⟨a.p2, b.c0, b.c1⟩)
                  have HCL := hid (show ∀ w', Below w5.heap.size w5 w' → Calls Try.prog 58 #[.slice Ak word.length ck] w' (fun e w'' => ∃ v4, e = .returned v4 ∧ w''.ownsRow w5.heap.size 2 1 v4 word.length (i64s word) ∧ Below w'.heap.size w' w'' ∧ Below w5.heap.size w5 w'') from fun w' hb => by
                    refine (cloneV_calls Ak word.length ck word rfl (by omega) C5.out.nil w' (C5.out.step hb).own.rd).mono ?_
                    rintro e w9 ⟨v4, rfl, ho, b9⟩
                    refine ⟨v4, rfl, ?_, b9, hb.trans (b9.mono hb.size)⟩
                    obtain ⟨h1, h2⟩ := ho
                    refine ⟨h1, ?_⟩
                    rcases h2 with h2 | ⟨g', cap, cur, hv, hbb, rest⟩
                    · exact .inl h2
                    · exact .inr ⟨g', cap, cur, hv, Nat.le_trans hb.size hbb, rest⟩)
                  have D0 := hid (show Below w5.heap.size w5 w5.drew from (Below.refl _ _).drew)
                  have D1 := hid (show Below w5.heap.size w5 (w5.alloc (Obj.cells #[.int .i64 (j : Int)] 2)).drew from ((Below.refl _ _).alloc (Nat.le_refl _) _).drew)
                  obtain ⟨x0, x1, x2⟩ := HSF.out w5.drew D0.out
                  have hb5 := S5.out.bw
                  have hgp5 := own_lt S5.out.row
                  have hbm5 := S5.out.map.lt
                  have C5g := C5.out.ne
                  have hw13 : word.length + 1 ≤ 4097 := by omega
                  clear PO5 o0 o1' ofz ol hlook hrun PO S2 C2 HSO1 HSO2
                  go_region_held3 (fun w' => w'.cell? ⟨bx, 2, none⟩ = some (.slice Ak word.length ck) ∧ w'.cell? ⟨bo, 0, none⟩ = some (.int .i64 (p1 : Int)) ∧ w'.cell? ⟨bo, 1, none⟩ = some (.int .i64 (p2 : Int)))
                    (first | with_reducible exact HSF.out _ D0.out | with_reducible exact HSF.out _ D1.out | with_reducible exact HSF.out _ DA.out | with_reducible exact HSF.out _ (bel_al DA.out DA.out.size _) | with_reducible exact HSF.out _ D7.out | with_reducible exact HSF.out _ (bel_al D7.out D7.out.size _) | with_reducible exact HS9.out | fail)
                    (first
                      | (go_at_call 58; refine (HCL.out _ (by first | with_reducible exact D0.out | with_reducible exact D1.out)).mono ?_; rintro e wa ⟨v4, rfl, ho4, ba, da⟩; have DA := hid da; have O4 := hid ho4; (first | (with_reducible have NW := hid (news_madeD w5 (.int .i64 (j : Int)) 2 ba)) | skip); clear ba da ho4)
                      | (refine step_append_lies _ (by rfl) _ _ 22 (by rfl) w5.heap.size 2 j0 (Value.int .i64 0) 1 8 Try.underlying22 hj0 hw0 hw1 hw2 rfl (by decide) v4 word.length (i64s word) (by rfl) (O4.out.alloc _) ⟨wa.heap.size, 0, none⟩ 1 1 [.int .i64 (j : Int)] (by rfl) rfl (cell_one_new _ _ _) (ints_oneCell .i64 [(j : Int)]) (by decide) (by unfold maxLen; omega) (by omega) (bel_al DA.out DA.out.size _).size _ rfl ?_; intro g7 c7 w7 hown hgrow hat hlt; rw [ints_snoc] at hown; have D7 := hid ((bel_al DA.out DA.out.size _).trans (app_belV (O4.out.alloc _) (bel_al DA.out DA.out.size _).size hgrow)); have OW7 := hid hown; have HL7 := hid hlt; clear hown hgrow hat hlt)
                      | (refine step_append_lies _ (by rfl) _ _ 22 (by rfl) w5.heap.size 2 j0 (Value.int .i64 0) 1 8 Try.underlying22 hj0 hw0 hw1 hw2 rfl (by decide) v4 word.length (i64s word) (by rfl) O4.out ⟨w5.heap.size, 0, none⟩ 1 1 [.int .i64 (j : Int)] (by rfl) rfl NW.out (ints_oneCell .i64 [(j : Int)]) (by decide) (by unfold maxLen; omega) (by omega) DA.out.size _ rfl ?_; intro g7 c7 w7 hown hgrow hat hlt; rw [ints_snoc] at hown; have D7 := hid (DA.out.trans (app_belV O4.out DA.out.size hgrow)); have OW7 := hid hown; have HL7 := hid hlt; clear hown hgrow hat hlt)
                      | (refine step_append_lies _ (by rfl) _ _ 78 (by rfl) (w.heap.size + 1 + 1) 77 i1' (Value.agg #[.int .i64 0, .int .i64 0, .slice none 0 0]) 3 40 Try.underlying78 hi1 hz1 hz2 hz3 rfl (by decide) (.slice (some ⟨gp, 0, none⟩) Q.length cp) Q.length vs (by rfl) ((S5.out.step D7.out).row.alloc _) ⟨w7.heap.size, 0, none⟩ 1 1 [.int .i64 (p1 : Int), .int .i64 (p2 : Int), .slice (some ⟨g7, 0, none⟩) (word.length + 1) c7] (by rfl) rfl (World.news_of_block (heap_alloc_new w7 (Obj.cells #[.int .i64 (p1 : Int), .int .i64 (p2 : Int), .slice (some ⟨g7, 0, none⟩) (word.length + 1) c7] 77))) (by intro u hu; simp at hu; rcases hu with rfl | rfl | rfl <;> rfl) (by decide) (by unfold maxLen; omega) (by omega) (by have := (S5.out.step D7.out).bw; simp; omega) (w7.heap.size + 1) (by simp) ?_; intro g9 c9 w9 hown hgrow hat hlt; have OW9 := hid hown; have GR9 := hid (grew_lies hgrow hat); have HS9 := hid (show (w9.cell? ⟨bx, 2, none⟩ = some (.slice Ak word.length ck) ∧ w9.cell? ⟨bo, 0, none⟩ = some (.int .i64 (p1 : Int)) ∧ w9.cell? ⟨bo, 1, none⟩ = some (.int .i64 (p2 : Int))) from (by have C9 := (C5.out.step D7.out).grew GR9.out; have P9 := ((PairAt.step ⟨q0, q1, qf, ql⟩ D7.out).kept GR9.out.kept bog); exact ⟨C9.p2, P9.c0, P9.c1⟩)); clear hown hgrow hat hlt)
                      | fail)
                  all_goals
                    go_wp2_with fail
                    have g7b := Go.Proofs.Ytlfmcdobiojdlaa.fnExactOtherPlain.own_ge OW7.out
                    go_roundw
                    case rel => exact ⟨j + 1, g9, c9, _, hjl, by go_num, by rw [HQ2.out, E2.out]; simp, by rw [HQ2.out, E2.out]; exact (S5.out.step D7.out).add ⟨by have := OW7.out.1; rw [i64s_length] at this; exact this, .inr ⟨g7, rfl, own_rebase OW7.out⟩⟩ (by simp) (by simp) (by omega) (by omega) (by omega) HL7.out NXP.out.1 NXP.out.2 OW9.out GR9.out, (C5.out.step D7.out).grew GR9.out⟩
                    case measure =>
                      show l - ((j : Int) + 1).toNat < l - ((j : Int)).toNat
                      omega
                · have E2 := hid (show Q2 = Q by rw [HEX.out, hin]; rfl)
                  have hlook := MapIs.look_yes S2.out.map pairKeyed Try.underlying79 hkok hkey (seen_yes NXP.out.1 NXP.out.2 Q hin) (fun p hp h => kvP_true p hp _ h) false
                  unfold pairV at hlook
                  simp only [Bool.false_eq_true, if_false] at hlook
                  clear hkok hkey hin
                  go_wp2_with fail
                  go_roundw
                  case rel => exact ⟨j + 1, gp, cp, vs, hjl, by go_num, by rw [HQ2.out, E2.out], by rw [HQ2.out, E2.out]; exact S2, C2⟩
                  case measure =>
                    show l - ((j : Int) + 1).toNat < l - ((j : Int)).toNat
                    omega
            · obtain rfl : j = l := by omega
              go_wp2_with fail
              go_roundw
              case rel => exact ⟨k + 1, gp, cp, vs, by go_num, by rw [EQ12.out], by rw [EQ12.out]; exact S1, HD2.out⟩
              case measure =>
                have hkm : k < s * s' := by omega
                show s * s' - ((k : Int) + 1).toNat < s * s' - ((k : Int)).toNat
                omega
      · have hne : (t1 != t2) = true := bne_iff_ne.2 hap
        have hne2 : (t1 == t2) = false := beq_eq_false_iff_ne.2 hap
        have HANS := hid (ansI_unique HR.out ⟨k, HD.out, .inl ⟨hlt, by rw [HX.out]; exact HAP.out.trans hne, rfl⟩⟩)
        rw [HX.out] at HANS
        dsimp only at HANS
        clear hap
        go_quiet (fail)
        revert nq
        intro na
        go_wp2_with fail
        go_ret2
        rw [HANS.out]
        exact ⟨Ak, word.length, ck, rfl, below_drewN BW1.out _, (fun word' hw => by
          cases hw
          exact ⟨rfl, OK1.out, fun rr hr x hx => by
            rw [List.mem_singleton.1 hr] at hx
            have a := HRK.out x hx
            have b := OK1.out.row_lt hx
            show _ ≤ x ∧ x < v1.heap.size
            omega⟩), fun h => nomatch h⟩
    · have hge := qi_ge (nx := nxA xs xs' l s') (L := l) k fun j hj => (HD.out j hj).1
      have HANS := hid (ansI_unique HR.out ⟨k, HD.out, .inr ⟨by omega, rfl⟩⟩)
      have BWR := hid (BV.out.trans (SR.out.bel.mono (by omega)))
      go_wp2_with fail
      go_ret2
      rw [HANS.out]
      exact ⟨none, 0, 0, rfl, BWR.out, (fun word' hw => nomatch hw), fun _ => rfl⟩
end Go.Proofs.Ytlfmcdobiojdlaa.fnExactApartWord
