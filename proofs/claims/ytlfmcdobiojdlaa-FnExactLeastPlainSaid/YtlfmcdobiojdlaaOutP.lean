/-
  A plain machine that is being told: its block, and its two lists, which are appended to; other rows of the same call lie apart.
-/
import Derived.Test.YtlfmcdobiojdlaaApImpl
import Derived.Test.YtlfmcdobiojdlaaExplore
import Derived.Deep.AppendLies
namespace Go.Proofs.Ytlfmcdobiojdlaa.Num
open Go.RowKit Go.Proofs.Fl
open Go.Proofs.Ytlfmcdobiojdlaa.fnExactApartWord (own_row_ge app_belV)
set_option linter.unusedVariables false
set_option linter.unusedSimpArgs false
/-- the machine told lies at block bo: no states yet, its lists in blocks of their own; E: the call's other rows -/
structure OutP (wr : World) (base bo : Nat) (l : Int) (xs : List Int) (bs : List Bool) (A : Option Addr) (c : Nat) (B : Option Addr) (d : Nat) (E : List Nat) : Prop where
  at_ : PlainAt wr bo 0 l A xs.length c B bs.length d
  fr : ∀ o, wr.frozen? ⟨bo, o, none⟩ = false
  lt : bo < wr.heap.size
  bb : base ≤ bo
  ra : wr.ownsRow base 2 1 (.slice A xs.length c) xs.length (i64s xs)
  rb : wr.ownsRow base 4 1 (.slice B bs.length d) bs.length (bools bs)
  na : blk A ≠ some bo
  nb : blk B ≠ some bo
  ab : ∀ g, blk A = some g → blk B ≠ some g
  ex : ∀ e ∈ E, e ≠ bo ∧ blk A ≠ some e ∧ blk B ≠ some e ∧ e < wr.heap.size
theorem ownBlock_slice (A : Option Addr) (n c : Nat) : (Value.slice A n c).ownBlock = blk A := by cases A <;> rfl
theorem own_row_lt {w : World} {base e size : Nat} {A : Option Addr} {n c : Nat} {xs : List Value} (h : w.ownsRow base e size (.slice A n c) n xs) : ∀ g, blk A = some g → base ≤ g ∧ g < w.heap.size := by
  intro g hg
  rcases h.2 with ⟨hv, _⟩ | ⟨g', cap, cur, hv, hb, hh, _⟩
  · injection hv with h1; subst h1; cases hg
  · injection hv with h1; subst h1
    have : g' = g := Option.some.inj hg
    subst this
    exact ⟨hb, (Array.getElem?_eq_some_iff.1 hh).1⟩
theorem own_keepA {w w' : World} {base e size : Nat} {A : Option Addr} {n c : Nat} {xs : List Value} (h : w.ownsRow base e size (.slice A n c) n xs) (hk : ∀ g, blk A = some g → w'.heap[g]? = w.heap[g]?) : w'.ownsRow base e size (.slice A n c) n xs := by
  refine ⟨h.1, ?_⟩
  rcases h.2 with hn | ⟨g', cap, cur, hv, hb, hg, rest⟩
  · exact .inl hn
  · refine .inr ⟨g', cap, cur, hv, hb, ?_, rest⟩
    injection hv with h1
    rw [hk g' (by rw [h1]; rfl)]; exact hg
section
variable {wr w' : World} {base bo : Nat} {l : Int} {xs : List Int} {bs : List Bool} {A : Option Addr} {c : Nat} {B : Option Addr} {d : Nat} {E : List Nat}
theorem OutP.size (h : OutP wr base bo l xs bs A c B d E) : base ≤ wr.heap.size := Nat.le_trans h.bb (Nat.le_of_lt h.lt)
/-- kept while one other row is written, or nothing of the old -/
theorem OutP.kept (h : OutP wr base bo l xs bs A c B d E) {R : List (Option Nat)} (K : Kept wr w' R) (hR : ∀ r ∈ R, ∀ g, r = some g → wr.heap.size ≤ g ∨ (g ≠ bo ∧ blk A ≠ some g ∧ blk B ≠ some g)) {E' : List Nat} (hE : ∀ x ∈ E', x ∈ E ∨ (wr.heap.size ≤ x ∧ x < w'.heap.size)) : OutP w' base bo l xs bs A c B d E' := by
  have kk : ∀ b, b < wr.heap.size → (b = bo ∨ blk A = some b ∨ blk B = some b) → w'.heap[b]? = wr.heap[b]? := fun b hb ho => K.block b hb fun r hr e => by
    rcases hR r hr b e.symm with h1 | ⟨h1, h2, h3⟩
    · omega
    · rcases ho with ho | ho | ho
      · exact h1 ho
      · exact h2 ho
      · exact h3 ho
  have k0 := kk bo h.lt (.inl rfl)
  refine ⟨h.at_.keep fun o => World.cell?_of_block k0, fun o => (World.frozen?_of_block k0).trans (h.fr o), Nat.lt_of_lt_of_le h.lt K.size, h.bb,
    own_keepA h.ra fun g hg => kk g (own_row_lt h.ra g hg).2 (.inr (.inl hg)), own_keepA h.rb fun g hg => kk g (own_row_lt h.rb g hg).2 (.inr (.inr hg)), h.na, h.nb, h.ab, fun e he => ?_⟩
  rcases hE e he with h1 | ⟨h1, h2⟩
  · obtain ⟨a1, a2, a3, a4⟩ := h.ex e h1
    exact ⟨a1, a2, a3, Nat.lt_of_lt_of_le a4 K.size⟩
  · refine ⟨fun e1 => ?_, fun e1 => ?_, fun e1 => ?_, h2⟩
    · have := h.lt; omega
    · have := (own_row_lt h.ra e e1).2; omega
    · have := (own_row_lt h.rb e e1).2; omega
theorem OutP.step (h : OutP wr base bo l xs bs A c B d E) (hb : Below wr.heap.size wr w') : OutP w' base bo l xs bs A c B d E := h.kept (Kept.of_below hb []) (fun r hr => nomatch hr) fun x hx => .inl hx
theorem OutP.drew' (h : OutP wr base bo l xs bs A c B d E) : OutP wr.drew base bo l xs bs A c B d E := h.step (Below.refl _ _).drew
theorem OutP.more (h : OutP wr base bo l xs bs A c B d E) {E' : List Nat} (hE : ∀ x ∈ E', x ∈ E) : OutP wr base bo l xs bs A c B d E' := h.kept (Kept.refl wr []) (fun r hr => nomatch hr) fun x hx => .inl (hE x hx)
theorem OutP.ext (h : OutP wr base bo l xs bs A c B d E) {e : Nat} (K : Kept wr w' [some e]) (he : e ∈ E) : OutP w' base bo l xs bs A c B d E :=
  h.kept K (fun r hr g hg => by rw [List.mem_singleton.1 hr] at hg; have := Option.some.inj hg; subst this; exact .inr ⟨(h.ex _ he).1, (h.ex _ he).2.1, (h.ex _ he).2.2.1⟩) fun x hx => .inl hx
theorem OutP.grew (h : OutP wr base bo l xs bs A c B d E) {e e' : Nat} (G : Grew wr w' e e') (hl : e' < w'.heap.size) (he : e ∈ E) {E' : List Nat} (hE : ∀ x ∈ E', x ∈ E ∨ x = e') : OutP w' base bo l xs bs A c B d E' :=
  h.kept G.kept (fun r hr g hg => by rw [List.mem_singleton.1 hr] at hg; have := Option.some.inj hg; subst this; exact .inr ⟨(h.ex _ he).1, (h.ex _ he).2.1, (h.ex _ he).2.2.1⟩) fun x hx => by
    rcases hE x hx with h1 | h1
    · exact .inl h1
    · rcases G.at_ with h2 | h2
      · exact .inl (by rw [h1, h2]; exact he)
      · exact .inr ⟨by omega, by omega⟩
theorem OutP.cells (h : OutP wr base bo l xs bs A c B d E) {w5 : World} {X : Obj} {v : Value} (hv : v = .slice A xs.length c ∨ v = .slice B bs.length d) (hg : (wr.alloc X).grownBy w5 v.ownBlock) : PlainAt w5 bo 0 l A xs.length c B bs.length d ∧ ∀ o, w5.frozen? ⟨bo, o, none⟩ = false := by
  have K : Kept wr w5 [v.ownBlock] := (Kept.of_below ((Below.refl wr.heap.size wr).alloc (Nat.le_refl _) X) [v.ownBlock]).trans (Kept.of_grown hg)
  have k0 := K.block bo h.lt fun r hr e => by
    rw [List.mem_singleton.1 hr] at e
    rcases hv with rfl | rfl
    · rw [ownBlock_slice] at e; exact h.na e.symm
    · rw [ownBlock_slice] at e; exact h.nb e.symm
  exact ⟨h.at_.keep fun o => World.cell?_of_block k0, fun o => (World.frozen?_of_block k0).trans (h.fr o)⟩
/-- a number told: an append to the first list, then its header stored -/
theorem OutP.addA (h : OutP wr base bo l xs bs A c B d E) {w5 : World} {g5 c5 : Nat} {x : Int} {X : Obj} (ho : w5.ownsRow base 2 1 (.slice (some ⟨g5, 0, none⟩) (xs.length + 1) c5) (xs.length + 1) (i64s (xs ++ [x])))
    (hg : (wr.alloc X).grownBy w5 (Value.slice A xs.length c).ownBlock) (hat : (Value.slice A xs.length c).ownBlock = some g5 ∨ g5 = wr.heap.size + 1) :
    OutP (w5.setCell ⟨bo, 2, none⟩ (.slice (some ⟨g5, 0, none⟩) (xs.length + 1) c5)) base bo l (xs ++ [x]) bs (some ⟨g5, 0, none⟩) c5 B d E ∧ (∀ e ∈ E, (w5.setCell ⟨bo, 2, none⟩ (.slice (some ⟨g5, 0, none⟩) (xs.length + 1) c5)).heap[e]? = wr.heap[e]?) ∧ Below base wr (w5.setCell ⟨bo, 2, none⟩ (.slice (some ⟨g5, 0, none⟩) (xs.length + 1) c5)) := by
  rw [ownBlock_slice] at hg hat
  have K : Kept wr w5 [blk A] := (Kept.of_below ((Below.refl wr.heap.size wr).alloc (Nat.le_refl _) X) [blk A]).trans (Kept.of_grown hg)
  have hlt := h.lt
  have hsz := K.size
  have kk : ∀ b, b < wr.heap.size → blk A ≠ some b → w5.heap[b]? = wr.heap[b]? := fun b hb hn => K.block b hb fun r hr e => by rw [List.mem_singleton.1 hr] at e; exact hn e.symm
  have g5ne : ∀ b, b < wr.heap.size → blk A ≠ some b → g5 ≠ b := by
    intro b hb hn e
    subst e
    rcases hat with h1 | h1
    · exact hn h1
    · omega
  have k0 := kk bo hlt h.na
  have hbo := g5ne bo hlt h.na
  have set_ne : ∀ b, b ≠ bo → (w5.setCell ⟨bo, 2, none⟩ (.slice (some ⟨g5, 0, none⟩) (xs.length + 1) c5)).heap[b]? = w5.heap[b]? := fun b hb => Below.heap_setCell _ _ _ _ hb
  obtain ⟨p0, p1, p2, p3⟩ := h.at_.keep fun o => World.cell?_of_block k0
  have ff : ∀ o, w5.frozen? ⟨bo, o, none⟩ = false := fun o => (World.frozen?_of_block k0).trans (h.fr o)
  have hg5 := own_lt ho
  refine ⟨⟨⟨by go_simp, by go_simp, by rw [List.length_append]; go_simp, by go_simp⟩, fun o => by have := ff o; go_simp, by simp [World.setCell]; omega, h.bb, ?_, own_keepA h.rb fun g hg2 => ?_, ?_, h.nb, fun g hg2 => ?_, fun e he => ?_⟩, fun e he => ?_, ?_⟩
  · rw [List.length_append]
    exact own_keep ho (set_ne g5 hbo)
  · have hb2 := own_row_lt h.rb g hg2
    have hne : blk A ≠ some g := fun e => h.ab g e hg2
    exact (set_ne g fun e => h.nb (by rw [hg2, e])).trans (kk g hb2.2 hne)
  · exact fun e => hbo (Option.some.inj e)
  · have e5 : g5 = g := Option.some.inj hg2
    subst e5
    exact fun e => g5ne g5 (own_row_lt h.rb g5 e).2 (fun e2 => h.ab g5 e2 e) rfl
  · obtain ⟨a1, a2, a3, a4⟩ := h.ex e he
    exact ⟨a1, fun e2 => g5ne e a4 a2 (Option.some.inj e2), a3, by simp [World.setCell]; omega⟩
  · obtain ⟨a1, a2, a3, a4⟩ := h.ex e he
    exact (set_ne e a1).trans (kk e a4 a2)
  · refine (K.below h.size fun r hr g e => ?_).setCell h.bb _
    rw [List.mem_singleton.1 hr] at e
    exact (own_row_lt h.ra g e).1
theorem OutP.addB (h : OutP wr base bo l xs bs A c B d E) {w5 : World} {g5 c5 : Nat} {x : Bool} {X : Obj} (ho : w5.ownsRow base 4 1 (.slice (some ⟨g5, 0, none⟩) (bs.length + 1) c5) (bs.length + 1) (bools (bs ++ [x])))
    (hg : (wr.alloc X).grownBy w5 (Value.slice B bs.length d).ownBlock) (hat : (Value.slice B bs.length d).ownBlock = some g5 ∨ g5 = wr.heap.size + 1) :
    OutP (w5.setCell ⟨bo, 3, none⟩ (.slice (some ⟨g5, 0, none⟩) (bs.length + 1) c5)) base bo l xs (bs ++ [x]) A c (some ⟨g5, 0, none⟩) c5 E ∧ (∀ e ∈ E, (w5.setCell ⟨bo, 3, none⟩ (.slice (some ⟨g5, 0, none⟩) (bs.length + 1) c5)).heap[e]? = wr.heap[e]?) ∧ Below base wr (w5.setCell ⟨bo, 3, none⟩ (.slice (some ⟨g5, 0, none⟩) (bs.length + 1) c5)) := by
  rw [ownBlock_slice] at hg hat
  have K : Kept wr w5 [blk B] := (Kept.of_below ((Below.refl wr.heap.size wr).alloc (Nat.le_refl _) X) [blk B]).trans (Kept.of_grown hg)
  have hlt := h.lt
  have hsz := K.size
  have kk : ∀ b, b < wr.heap.size → blk B ≠ some b → w5.heap[b]? = wr.heap[b]? := fun b hb hn => K.block b hb fun r hr e => by rw [List.mem_singleton.1 hr] at e; exact hn e.symm
  have g5ne : ∀ b, b < wr.heap.size → blk B ≠ some b → g5 ≠ b := by
    intro b hb hn e
    subst e
    rcases hat with h1 | h1
    · exact hn h1
    · omega
  have k0 := kk bo hlt h.nb
  have hbo := g5ne bo hlt h.nb
  have set_ne : ∀ b, b ≠ bo → (w5.setCell ⟨bo, 3, none⟩ (.slice (some ⟨g5, 0, none⟩) (bs.length + 1) c5)).heap[b]? = w5.heap[b]? := fun b hb => Below.heap_setCell _ _ _ _ hb
  obtain ⟨p0, p1, p2, p3⟩ := h.at_.keep fun o => World.cell?_of_block k0
  have ff : ∀ o, w5.frozen? ⟨bo, o, none⟩ = false := fun o => (World.frozen?_of_block k0).trans (h.fr o)
  have hg5 := own_lt ho
  refine ⟨⟨⟨by go_simp, by go_simp, by go_simp, by rw [List.length_append]; go_simp⟩, fun o => by have := ff o; go_simp, by simp [World.setCell]; omega, h.bb, own_keepA h.ra fun g hg2 => ?_, ?_, h.na, ?_, fun g hg2 => ?_, fun e he => ?_⟩, fun e he => ?_, ?_⟩
  · have hb2 := own_row_lt h.ra g hg2
    have hne : blk B ≠ some g := h.ab g hg2
    exact (set_ne g fun e => h.na (by rw [hg2, e])).trans (kk g hb2.2 hne)
  · rw [List.length_append]
    exact own_keep ho (set_ne g5 hbo)
  · exact fun e => hbo (Option.some.inj e)
  · exact fun e => g5ne g (own_row_lt h.ra g hg2).2 (fun e2 => h.ab g hg2 e2) (Option.some.inj e)
  · obtain ⟨a1, a2, a3, a4⟩ := h.ex e he
    exact ⟨a1, a2, fun e2 => g5ne e a4 a3 (Option.some.inj e2), by simp [World.setCell]; omega⟩
  · obtain ⟨a1, a2, a3, a4⟩ := h.ex e he
    exact (set_ne e a1).trans (kk e a4 a3)
  · refine (K.below h.size fun r hr g e => ?_).setCell h.bb _
    rw [List.mem_singleton.1 hr] at e
    exact (own_row_lt h.rb g e).1
/-- the machine's lists as a caller gets them -/
theorem OutP.own (h : OutP wr base bo l xs bs A c B d E) : OwnP wr A xs.length c B bs.length d xs bs ∧ Within base wr.heap.size (rowsP xs.length A bs.length B) := by
  obtain ⟨⟨A', c', e1, ol, orr⟩⟩ : Nonempty (∃ A' c', Value.slice A xs.length c = .slice A' xs.length c' ∧ OwnL wr 2 1 A' xs.length c' xs ∧ ∀ g, rowN xs.length A' = some g → base ≤ g) := ⟨Go.Proofs.Ytlfmcdobiojdlaa.fnExactOtherPlain.own_any h.ra⟩
  injection e1 with e1 _ e2
  subst e1 e2
  obtain ⟨ob, obr⟩ := Go.Proofs.Ytlfmcdobiojdlaa.fnExactOtherPlain.ownB_of h.rb
  have ra : ∀ g, rowN xs.length A = some g → blk A = some g := fun g hg => by unfold rowN at hg; split at hg; cases hg; exact hg
  have rb : ∀ g, rowN bs.length B = some g → blk B = some g := fun g hg => by unfold rowN at hg; split at hg; cases hg; exact hg
  refine ⟨⟨ol, ob, fun g h1 h2 => h.ab g (ra g h1) (rb g h2)⟩, fun r hr g hg => ?_⟩
  simp only [rowsP, List.mem_cons, List.not_mem_nil, or_false] at hr
  rcases hr with rfl | rfl
  · exact own_row_lt h.ra g (ra g hg)
  · exact own_row_lt h.rb g (rb g hg)
end
/-- a machine with nothing told -/
theorem outP_new (w : World) (l : Int) {base : Nat} (hb : base ≤ w.heap.size) {E : List Nat} (hE : ∀ e ∈ E, e < w.heap.size) : OutP (w.alloc (.cells #[.int .i64 0, .int .i64 l, .slice none 0 0, .slice none 0 0] 31)) base w.heap.size l [] [] none 0 none 0 E :=
  ⟨⟨by go_simp, by go_simp, by go_simp, by go_simp⟩, fun o => by go_simp, by simp, hb, ⟨rfl, .inl ⟨rfl, rfl⟩⟩, ⟨rfl, .inl ⟨rfl, rfl⟩⟩, (fun e => nomatch e), (fun e => nomatch e), (fun g e => nomatch e), fun e he => ⟨by have := hE e he; omega, (fun h => nomatch h), (fun h => nomatch h), by have := hE e he; simp; omega⟩⟩
/-- the plain machine told, or none -/
def RetM (l : Nat) (r : Option (Nat × List Int × List Bool)) (w : World) (e : Ending) (w' : World) : Prop :=
  (r = none → Go.Proofs.Ytlfmcdobiojdlaa.fnExactOtherPlain.RetBP 0 0 0 0 [] [] false w e w') ∧ ∀ (i : Nat) (N : List Int) (D : List Bool), r = some (i, N, D) → Go.Proofs.Ytlfmcdobiojdlaa.fnExactOtherPlain.RetBP i l N.length D.length N D true w e w'
theorem ownP_five {w : World} {A : Option Addr} {n c : Nat} {B : Option Addr} {m d : Nat} {xs : List Int} {bs : List Bool} (h : OwnP w A n c B m d xs bs) {lo hi : Nat} (hw : Within lo hi (rowsP n A m B)) {bo bz : Nat} (hA : ∀ g, rowN n A = some g → g ≠ bo) (hB : ∀ g, rowN m B = some g → g ≠ bo) (hz : bz < lo) (u0 u1 u2 u3 u4 : Value) :
    OwnP (((((w.setCell ⟨bo, 0, none⟩ u0).setCell ⟨bz, 0, none⟩ u1).setCell ⟨bz, 1, none⟩ u2).setCell ⟨bz, 2, none⟩ u3).setCell ⟨bz, 3, none⟩ u4) A n c B m d xs bs := by
  have wA : ∀ g, rowN n A = some g → g ≠ bz := fun g hg e => by have := hw _ (show rowN n A ∈ rowsP n A m B by simp [rowsP]) g hg; omega
  have wB : ∀ g, rowN m B = some g → g ≠ bz := fun g hg e => by have := hw _ (show rowN m B ∈ rowsP n A m B by simp [rowsP]) g hg; omega
  exact ⟨Go.Proofs.Ytlfmcdobiojdlaa.fnExactOtherPlain.OwnL.setc (Go.Proofs.Ytlfmcdobiojdlaa.fnExactOtherPlain.OwnL.setc (Go.Proofs.Ytlfmcdobiojdlaa.fnExactOtherPlain.OwnL.setc (Go.Proofs.Ytlfmcdobiojdlaa.fnExactOtherPlain.OwnL.setc (Go.Proofs.Ytlfmcdobiojdlaa.fnExactOtherPlain.OwnL.setc h.a hA _) wA _) wA _) wA _) wA _,
    OwnB.setc (OwnB.setc (OwnB.setc (OwnB.setc (OwnB.setc h.b hB _) wB _) wB _) wB _) wB _, h.ab⟩
theorem grown_undrew {w w' : World} {r : Option Nat} (h : w.drew.grownBy w' r) : w.grownBy w' r := ⟨h.os, h.tape, h.output, h.size, h.block⟩
end Go.Proofs.Ytlfmcdobiojdlaa.Num
