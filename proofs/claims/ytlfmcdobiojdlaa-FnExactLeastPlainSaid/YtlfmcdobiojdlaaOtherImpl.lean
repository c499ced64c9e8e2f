/-
  The plain machine that reads the other words, by the program.
-/
import Derived.Test.YtlfmcdobiojdlaaOtherLaw
import Derived.Maps.AppendAt
import Derived.Laws.Cover3
import Derived.RegionTactic
import Derived.BigRegion
import Derived.Deep.RegionHeld3
namespace Go.Proofs.Ytlfmcdobiojdlaa.fnExactOtherPlain
open Go.RowKit Go.Proofs.Fl Go.Proofs.Ytlfmcdobiojdlaa.Num
set_option linter.unusedVariables false
set_option linter.unusedSimpArgs false
theorem Kept.of_grown {w w' : World} {row : Option Nat} (h : w.grownBy w' row) : Kept w w' [row] := ⟨h.os, h.tape, h.output, h.size, fun b hb hr => h.block b hb (hr row (by simp))⟩
theorem Kept.frz {w w' : World} {R : List (Option Nat)} (h : Kept w w' R) {b : Nat} (hb : b < w.heap.size) (hr : ∀ r ∈ R, some b ≠ r) (o : Nat) : w'.frozen? ⟨b, o, none⟩ = w.frozen? ⟨b, o, none⟩ := World.frozen?_of_block (w := w) (h.block b hb hr)
theorem i64s_one (xs : List Int) : ∀ u ∈ i64s xs, u.oneCell' = true := by
  intro u hu
  unfold i64s at hu
  obtain ⟨x, _, rfl⟩ := List.mem_map.1 hu
  rfl
theorem own_some {w : World} {base e size : Nat} {v : Value} {k : Nat} {xs : List Value} (h : w.ownsRow base e size v k xs) (hk : 0 < k) : ∃ g cap, v = .slice (some ⟨g, 0, none⟩) k cap := by
  rcases h.2 with ⟨_, h0⟩ | ⟨g, cap, _, rfl, _⟩
  · omega
  · exact ⟨g, cap, rfl⟩
theorem own_empty (w : World) (e : TypeId) (size : Nat) : (w.alloc (.cells #[] e)).ownsRow w.heap.size e size (.slice (some ⟨w.heap.size, 0, none⟩) 0 0) 0 [] :=
  ⟨by simp, .inr ⟨w.heap.size, 0, #[], rfl, Nat.le_refl _, heap_alloc_new _ _, Nat.le_refl _, by simp [maxLen], by simp, by simp⟩⟩
@[go_sem] theorem eqlI_nil (a : Option Addr) (l c : Nat) (w : World) : (binOp .eql 22 (.slice a l c) (.slice none 0 0)).run Try.prog w = .ok (.bool a.isNone) w := by
  simp only [binOp]
  simp [run_equal_slice_nil w _ _ a l c Try.underlying22]
/-- returned a copy of a list -/
def RetClone (E size n : Nat) (zs : List Int) (w : World) (e : Ending) (w' : World) : Prop := ∃ A c, e = .returned (.slice A n c) ∧ OwnL w' E size A n c zs ∧ (∀ g, rowN n A = some g → w.heap.size ≤ g) ∧ Below w.heap.size w w'
theorem own_any {w : World} {base e size : Nat} {v : Value} {n : Nat} {zs : List Int} (h : w.ownsRow base e size v n (i64s zs)) : ∃ A c, v = .slice A n c ∧ OwnL w e size A n c zs ∧ ∀ g, rowN n A = some g → base ≤ g := by
  have hl : zs.length = n * size := by simpa using h.1
  have h2 := h
  rcases h.2 with ⟨rfl, rfl⟩ | ⟨g, cap, cur, rfl, hb, _⟩
  · exact ⟨none, 0, rfl, ⟨hl, .inl rfl⟩, fun g hg => nomatch hg⟩
  · exact ⟨_, cap, rfl, ⟨hl, .inr ⟨g, rfl, own_rebase h2⟩⟩, fun x hx => by rw [rowN_is hx]; exact hb⟩
set_option maxHeartbeats 1600000 in
theorem cloneI_calls (A : Option Addr) (n c : Nat) (xs : List Int) (hx : xs.length = n) (hn : n ≤ 1048576) (w : World) (h : Rd w w.heap.size A (i64s xs)) :
    Calls Try.prog 58 #[.slice A n c] w (RetClone 2 1 n xs w) := by
  obtain ⟨i0, hi0, hz0, hz1, hz2⟩ := info_parts toInt64S_info
  have HX := hid hx
  cases A with
  | none =>
    have hx0 : n = 0 := by
      rcases h with h0 | ⟨b, off, hA, _⟩
      · have := congrArg List.length h0; simp at this; subst this; simp at hx; omega
      · cases hA
    have HO := hid (show OwnL w 2 1 none n 0 xs from ⟨by omega, .inl hx0⟩)
    clear h hx
    subst hx0
    go_enter Try.func58, Try.ntmps58
    go_wp2
    go_ret
    exact ⟨none, 0, rfl, HO.out, (fun g hg => nomatch hg), Below.refl _ _⟩
  | some ad =>
    have hnews : ∀ w', Below w.heap.size w w' → ∀ (j : Nat) (u : Value), (i64s xs)[j]? = some u → w'.cell? (ad.add j) = some u := by
      intro w' hw j u hu
      rcases h with h0 | ⟨b, off, hA, hb, hc⟩
      · rw [h0] at hu; cases hu
      · cases hA
        rw [Addr.add_lit, ← hc j u hu]
        exact hw.cell (p := ⟨b, off + j, none⟩) hb
    have NW := hid hnews
    clear hnews h hx
    go_enter Try.func58, Try.ntmps58
    go_wp2_with (at_builtin; refine wpList_append_own_at _ rfl _ _ 22 rfl w.heap.size 2 i0 (Value.int .i64 0) 1 8 Try.underlying22 hi0 hz0 hz1 hz2 rfl (by decide) (.slice (some ⟨w.heap.size, 0, none⟩) 0 0) 0 [] rfl (own_empty _ _ _) ad n _ (i64s xs) rfl (by simp [HX.out]) (NW.out _ ((Below.refl _ _).alloc (Nat.le_refl _) _)) (i64s_one _) (by unfold maxLen; omega) (by omega) (by simp) ?_; intro v' w5 hown' hgrow hnil hat; rw [Nat.zero_add] at hown'; obtain ⟨A', c', rfl, hol, hrow⟩ := own_any hown'; have OL := hid hol; have OR := hid hrow; have BW := hid (show Below w.heap.size w w5 from ((Below.refl w.heap.size w).alloc (Nat.le_refl _) _).trans ((Kept.of_grown hgrow).below (by simp) fun r hr g' hg' => by simp [Value.ownBlock] at hr; subst hr; simp at hg'; omega)); clear hgrow hat hnil hown' hol hrow)
    go_ret
    exact ⟨A', c', rfl, OL.out, OR.out, BW.out⟩

/-- behind an append of one number to a row that the call owns -/
theorem app_one {wr w5 : World} {X : Obj} {base : Nat} {e size : Nat} {A : Option Addr} {j c : Nat} {xs : List Value} (ho : wr.ownsRow base e size (.slice A j c) j xs) (hb : base ≤ wr.heap.size) (hgrow : (wr.alloc X).grownBy w5 (Value.slice A j c).ownBlock) : Below base wr w5 := by
  have hbel : Below base wr (wr.alloc X) := (Below.refl _ _).alloc hb _
  refine hbel.trans (Kept.below (Kept.of_grown hgrow) (by simp; omega) fun r hr g' hg' => ?_)
  simp at hr
  subst hr
  rcases ho.2 with ⟨hv, _⟩ | ⟨g, cap, cur, hv, hbb, _⟩
  · injection hv with h1; subst h1; cases hg'
  · injection hv with h1; subst h1; simp [Value.ownBlock] at hg'; omega
theorem OwnL.setc {w : World} {e size : Nat} {A : Option Addr} {n c : Nat} {zs : List Int} (h : OwnL w e size A n c zs) {p : Addr} (hp : ∀ g, rowN n A = some g → g ≠ p.block) (u : Value) : OwnL (w.setCell p u) e size A n c zs :=
  h.apart ((Kept.refl w [some p.block]).set (by simp) u) fun g hg r hr e => by simp at hr; subst hr; simp at e; exact hp g hg e
theorem own_ge {w : World} {base e size g n c : Nat} {xs : List Value} (h : w.ownsRow base e size (.slice (some ⟨g, 0, none⟩) n c) n xs) : base ≤ g := by
  rcases h.2 with ⟨hv, _⟩ | ⟨g', cap, cur, hv, hb, _⟩
  · cases hv
  · simp only [Value.slice.injEq, Option.some.injEq, Addr.mk.injEq, and_true, true_and] at hv
    omega
theorem ownB_of {w : World} {base : Nat} {A : Option Addr} {n c : Nat} {bs : List Bool} (h : w.ownsRow base 4 1 (.slice A n c) n (bools bs)) : OwnB w A n c bs ∧ ∀ g, rowN n A = some g → base ≤ g := by
  have hl : bs.length = n := by simpa using h.1
  have h2 := h
  rcases h.2 with ⟨hv, h0⟩ | ⟨g, cap, cur, hv, hb, _⟩
  · exact ⟨⟨hl, .inl h0⟩, fun g hg => by subst h0; cases hg⟩
  · injection hv with h1 h3 h4
    subst h1
    exact ⟨⟨hl, .inr ⟨g, rfl, own_rebase h2⟩⟩, fun x hx => by rw [rowN_is hx]; exact hb⟩
theorem ownP_nil (w : World) : OwnP w none 0 0 none 0 0 [] [] := ⟨⟨rfl, .inl rfl⟩, ⟨rfl, .inl rfl⟩, (fun _ h => nomatch h)⟩
theorem within_nil (lo hi : Nat) : Within lo hi (rowsP 0 none 0 none) := by
  intro r hr g hg
  simp only [rowsP, List.mem_cons, List.not_mem_nil, or_false] at hr
  rcases hr with rfl | rfl <;> cases hg
theorem not_take (bs : List Bool) (k : Nat) (h : k < bs.length) : (bs.map not).take (k + 1) = (bs.map not).take k ++ [!bs[k]] := by
  rw [List.take_succ_eq_append_getElem (by simpa using h)]
  simp
def P31 : TypeId := 31
set_option maxHeartbeats 6400000 in
theorem impl_yes (S L : Int) (A : Option Addr) (n c : Nat) (B : Option Addr) (m d : Nat) (xs : List Int) (bs : List Bool) (hF : FitsP n m xs bs) (hv : validP S L n xs m = true) (w : World) (hl : ListsP w A B xs bs) :
    Calls Try.prog 29 #[.agg #[.int .i64 S, .int .i64 L, .slice A n c, .slice B m d]] w (RetBP S L n m xs (bs.map not) true w) := by
  have HL := hid hl
  have HF := hid hF
  have HV := hid (hv ▸ fun w hl => implValid_calls S L A n c B m d xs hF.x hF.n hF.m w hl)
  clear hl hF hv
  go_enter Try.func29, Try.ntmps29
  go_wp2_with fail
  refine (HV.out _ ((HL.out.alloc _).alloc _).a).mono ?_
  rintro e w1 ⟨rfl, bel1⟩
  have hc := (old_cell bel1).1
  have hf := (old_cell bel1).2
  have s1 : w.heap.size + 2 ≤ w1.heap.size := by have := bel1.size; simp at this; omega
  have BEL := hid (((Below.refl w.heap.size w).alloc (Nat.le_refl _) _).alloc (by simp) _ |>.trans (bel1.mono (by simp; omega)))
  have PA := hid (show PlainAt w1 w.heap.size S L A n c B m d from ⟨by rw [hc _ _ (by simp; omega)]; go_simp, by rw [hc _ _ (by simp; omega)]; go_simp, by rw [hc _ _ (by simp; omega)]; go_simp, by rw [hc _ _ (by simp; omega)]; go_simp⟩)
  have PZ := hid (show PlainAt w1 (w.heap.size + 1) 0 0 none 0 0 none 0 0 from ⟨by rw [hc _ _ (by simp)]; go_simp, by rw [hc _ _ (by simp)]; go_simp, by rw [hc _ _ (by simp)]; go_simp, by rw [hc _ _ (by simp)]; go_simp⟩)
  have FZ := hid (show ∀ o, w1.frozen? ⟨w.heap.size + 1, o, none⟩ = false from fun o => by rw [hf _ _ (by simp)]; go_simp)
  clear hc hf bel1
  have HLE := hid (HL.out.step BEL.out)
  go_wp2_with fail
  have CLN := hid (cloneI_calls A n c xs HF.out.x HF.out.n)
  go_cut [4] from 11 to 18 (fun v wx => ∃ (bo : Nat) (A4 : Option Addr) (c4 : Nat), v = .pointer (some ⟨bo, 0, none⟩) ∧ Hid (PlainAt wx bo S L A4 n c4 none 0 0) ∧ Hid (∀ o, wx.frozen? ⟨bo, o, none⟩ = false) ∧ Hid (OwnL wx 2 1 A4 n c4 xs) ∧ Hid (∀ g, rowN n A4 = some g → w1.heap.size ≤ g ∧ g ≠ bo) ∧ w1.heap.size ≤ bo ∧ bo < wx.heap.size ∧ Hid (Below w1.heap.size w1 wx))
  case first =>
    have PAD := hid PA.out.drew
    have LD := hid HLE.out.drew
    obtain ⟨a0, a1, a2, a3⟩ := PAD.out
    have hza : w.heap.size < w1.drew.heap.size := (show w.heap.size < w1.heap.size by omega)
    have PAZ := hid (show PlainAt (w1.alloc (Obj.cells #[.int .i64 0, .int .i64 0, .slice none 0 0, .slice none 0 0] 31)).drew w.heap.size S L A n c B m d from (PA.out.step ((Below.refl _ _).alloc (Nat.le_refl _) (Obj.cells #[.int .i64 0, .int .i64 0, .slice none 0 0, .slice none 0 0] 31)) (by omega)).drew)
    obtain ⟨z0, z1, z2, z3⟩ := PAZ.out
    have hzz : w.heap.size < (w1.alloc (Obj.cells #[.int .i64 0, .int .i64 0, .slice none 0 0, .slice none 0 0] 31)).drew.heap.size := (show w.heap.size < (w1.alloc (Obj.cells #[.int .i64 0, .int .i64 0, .slice none 0 0, .slice none 0 0] 31)).heap.size by simp; omega)
    have PNZ := hid (show PlainAt (w1.alloc (Obj.cells #[.int .i64 0, .int .i64 0, .slice none 0 0, .slice none 0 0] 31)).drew w1.heap.size 0 0 none 0 0 none 0 0 from ⟨by go_simp, by go_simp, by go_simp, by go_simp⟩)
    have FNZ := hid (show ∀ o, (w1.alloc (Obj.cells #[.int .i64 0, .int .i64 0, .slice none 0 0, .slice none 0 0] 31)).drew.frozen? ⟨w1.heap.size, o, none⟩ = false from fun o => by go_simp)
    have hnz : w1.heap.size < (w1.alloc (Obj.cells #[.int .i64 0, .int .i64 0, .slice none 0 0, .slice none 0 0] 31)).drew.heap.size := (show w1.heap.size < (w1.alloc (Obj.cells #[.int .i64 0, .int .i64 0, .slice none 0 0, .slice none 0 0] 31)).heap.size by simp)
    have BZ := hid (show Below w1.heap.size w1 (w1.alloc (Obj.cells #[.int .i64 0, .int .i64 0, .slice none 0 0, .slice none 0 0] 31)).drew from ((Below.refl w1.heap.size w1).alloc (Nat.le_refl _) _).drew)
    go_region_held3 (fun w' => w'.cell? ⟨w.heap.size, 0, none⟩ = some (.int .i64 S) ∧ w'.cell? ⟨w.heap.size, 1, none⟩ = some (.int .i64 L) ∧ w'.cell? ⟨w.heap.size, 2, none⟩ = some (.slice A n c)) (first | with_reducible exact ⟨a0, a1, a2⟩ | with_reducible exact ⟨z0, z1, z2⟩ | with_reducible exact ⟨q0, q1, q2⟩ | exact ⟨by go_simp, by go_simp, by go_simp⟩) (first | (go_at_call 58; refine (CLN.out w1.drew LD.out.a).mono ?_; rintro e w2 ⟨A4, c4, rfl, ol, orr, bel2⟩; obtain ⟨q0, q1, q2, q3⟩ := PAD.out.step bel2 hza; have lt2 : w.heap.size < w2.heap.size := Nat.lt_of_lt_of_le hza bel2.size; have OL1 := hid ol; have OR1 := hid orr; have BEL2 := hid bel2; clear ol orr bel2) | (go_at_call 58; refine (CLN.out (w1.alloc (Obj.cells #[.int .i64 0, .int .i64 0, .slice none 0 0, .slice none 0 0] 31)).drew ((HLE.out.alloc (Obj.cells #[.int .i64 0, .int .i64 0, .slice none 0 0, .slice none 0 0] 31)).drew).a).mono ?_; rintro e w2 ⟨A4, c4, rfl, ol, orr, bel2⟩; obtain ⟨q0, q1, q2, q3⟩ := PAZ.out.step bel2 hzz; obtain ⟨y0, y1, y2, y3⟩ := PNZ.out.step bel2 hnz; have fz := (fun o => ((old_cell bel2).2 w1.heap.size o hnz).trans (FNZ.out o)); have f0 := fz 0; have f1 := fz 1; have f2 := fz 2; have f3 := fz 3; have FF := hid fz; have OL2 := hid ol; have OR2 := hid orr; have BEL2 := hid bel2; clear fz ol orr bel2))
    all_goals
      go_wp2_with fail
      go_meet
      case rel =>
        first
        | exact ⟨w2.heap.size, A4, c4, rfl, ⟨by go_simp, by go_simp, by go_simp, by go_simp⟩, fun o => by go_simp, OL1.out.step ((Below.refl _ _).alloc (Nat.le_refl _) _), fun g hg => by have a := OR1.out g hg; have b := OL1.out.row_lt hg; exact ⟨a, by omega⟩, BEL2.out.size, by simp, (((Below.refl w1.heap.size w1).drew.trans BEL2.out).alloc BEL2.out.size _)⟩
        | exact ⟨w1.heap.size, A4, c4, rfl, ⟨by go_simp, by go_simp, by go_simp, by go_simp⟩, fun o => by have := FF.out o; go_simp, (OwnL.setc (OwnL.setc (OwnL.setc (OwnL.setc OL2.out (fun g hg => by have a := OR2.out g hg; have b := hnz; simp; omega) _) (fun g hg => by have a := OR2.out g hg; have b := hnz; simp; omega) _) (fun g hg => by have a := OR2.out g hg; have b := hnz; simp; omega) _) (fun g hg => by have a := OR2.out g hg; have b := hnz; simp; omega) _), fun g hg => by have a := OR2.out g hg; have b := hnz; exact ⟨by omega, by omega⟩, Nat.le_refl _, by have a := BEL2.out.size; have b := hnz; simp; omega, (((((BZ.out.trans (BEL2.out.mono (Nat.le_of_lt hnz))).setCell (Nat.le_refl _) _).setCell (Nat.le_refl _) _).setCell (Nat.le_refl _) _).setCell (Nat.le_refl _) _)⟩
  case rest =>
    obtain ⟨bo, A4, c4, rfl, PO, FO, OL, OR, hbo1, hbo2, BELX⟩ := hcut
    generalize wc = w3 at *
    have HL3 := hid (HLE.out.step BELX.out)
    have PA3 := hid (PA.out.step BELX.out (by omega))
    have PZ3 := hid (PZ.out.step BELX.out (by omega))
    have FZ3 := hid (fun o => (BELX.out.frozen (p := ⟨w.heap.size + 1, o, none⟩) (show w.heap.size + 1 < w1.heap.size by omega)).trans (FZ.out o))
    have BEL3 := hid (BEL.out.trans (BELX.out.mono (by omega)))
    have s3 := BELX.out.size
    have HB := hid HF.out.b
    have hm := HF.out.m
    obtain ⟨i0, hi0, hz0, hz1, hz2⟩ := info_parts toBoolS_info
    have RW := hid (fun (g : Nat) (hg : rowN n A4 = some g) => show g < w3.heap.size from OL.out.row_lt hg)
    clear CLN HV PA PZ FZ BEL HL
    obtain ⟨a0, a1, a2, a3⟩ := PA3.out
    go_wp2_with fail
    clear a0 a1 a2 a3
    go_loopw [22] (fun i wr => ∃ (k : Nat) (A5 : Option Addr) (c5 : Nat), k ≤ m ∧ i = .int .i64 k ∧ Hid (PlainAt wr bo S L A4 n c4 A5 k c5) ∧ Hid (∀ o, wr.frozen? ⟨bo, o, none⟩ = false) ∧ Hid (OwnL wr 2 1 A4 n c4 xs) ∧ Hid (wr.ownsRow w3.heap.size 4 1 (.slice A5 k c5) k (bools ((bs.map not).take k))) ∧ Hid (Below (w1.heap.size) w3 wr ∧ ∀ b, b < w3.heap.size → b ≠ bo → wr.heap[b]? = w3.heap[b]?)) (fun i _ => m - (intOf i).toNat)
    case atStart => exact ⟨0, none, 0, Nat.zero_le _, rfl, PO, FO, OL, ⟨by simp [bools], .inl ⟨rfl, rfl⟩⟩, Below.refl _ _, fun _ _ _ => rfl⟩
    case round =>
      clear PO FO OL
      obtain ⟨k, A5, c5, hk, rfl, PO, FO, OL, OW, HBB⟩ := hrel
      have hszr := HBB.out.1.size
      by_cases hlt : k < m
      · have hkb : k < bs.length := by have := HB.out; omega
        obtain ⟨b1, o1, rfl, hb1, hc1⟩ := bools_at (HLE.out.b.below (BELX.out.trans HBB.out.1)) hkb
        have HT := hid (not_take bs k hkb)
        generalize bs[k] = b at *
        have o3 := PO.out.c3
        go_wp2_with (at_builtin; refine wpList_append_own_at _ rfl _ _ 26 rfl w3.heap.size 4 i0 (Value.bool false) 1 1 Try.underlying26 hi0 hz0 hz1 hz2 rfl (by decide) (.slice A5 k c5) k (bools ((bs.map not).take k)) rfl (OW.out.alloc _) ⟨wr.heap.size, 0, none⟩ 1 1 [.bool (!b)] rfl rfl (cell_one_new _ _ _) (fun u hu => by simp at hu; subst hu; rfl) (by unfold maxLen; omega) (by omega) (by simp; omega) ?_; intro v' w5 hown' hgrow hnil hat; have hb5 := app_one OW.out hszr hgrow; obtain ⟨g5, cap5, rfl⟩ := own_some hown' (by omega); have p5 : PlainAt w5 bo S L A4 n c4 A5 k c5 := PO.out.keep fun o => hb5.cell (p := ⟨bo, o, none⟩) hbo2; obtain ⟨q0, q1, q2, q3⟩ := p5; have f5 := fun o => (hb5.frozen (p := ⟨bo, o, none⟩) hbo2).trans (FO.out o); have r3 := f5 3; have FF := hid f5; have OW5 := hid hown'; have B5 := hid hb5; have hg5 := own_ge hown'; clear hgrow hat hnil f5 hown' hb5)
        have hll : bools ((bs.map not).take k) ++ [Value.bool (!b)] = bools ((bs.map not).take (k + 1)) := by rw [HT.out]; unfold bools; rw [List.map_append]; rfl
        have OW6 := hid (own_keep (hll ▸ OW5.out) (w' := w5.setCell ⟨bo, 3, none⟩ (.slice (some ⟨g5, 0, none⟩) (k + 1) cap5)) (Below.heap_setCell _ _ _ _ (show g5 ≠ bo by omega)))
        have OL6 := hid (OwnL.setc (OL.out.under B5.out RW.out) (p := ⟨bo, 3, none⟩) (fun g hg => (OR.out g hg).2) (.slice (some ⟨g5, 0, none⟩) (k + 1) cap5))
        have BB6 := hid (show Below w1.heap.size w3 (w5.setCell ⟨bo, 3, none⟩ (.slice (some ⟨g5, 0, none⟩) (k + 1) cap5)) ∧ ∀ b, b < w3.heap.size → b ≠ bo → (w5.setCell ⟨bo, 3, none⟩ (.slice (some ⟨g5, 0, none⟩) (k + 1) cap5)).heap[b]? = w3.heap[b]? from ⟨(HBB.out.1.trans (B5.out.mono (by omega))).setCell (p := ⟨bo, 3, none⟩) hbo1 _, fun b hb hne => ((Below.heap_setCell _ _ _ _ hne).trans (B5.out.block b hb)).trans (HBB.out.2 b hb hne)⟩)
        go_roundw
        case rel => exact ⟨k + 1, some ⟨g5, 0, none⟩, cap5, hlt, by go_num, ⟨by go_simp, by go_simp, by go_simp, by go_simp⟩, fun o => by have := FF.out o; go_simp, OL6, OW6, BB6⟩
        case measure => simp [intOf]; omega
      · have he : k = m := by omega
        subst he
        have hlk : ¬ (k : Int) < (k : Int) := by omega
        have HT := hid (show (bs.map not).take k = bs.map not from List.take_of_length_le (by simp; have := HB.out; omega))
        rw [HT.out] at OW
        have kz : ∀ o, wr.cell? ⟨w.heap.size + 1, o, none⟩ = w3.cell? ⟨w.heap.size + 1, o, none⟩ := fun o => World.cell?_of_block (w := w3) (HBB.out.2 _ (show w.heap.size + 1 < w3.heap.size by omega) (show w.heap.size + 1 ≠ bo by omega))
        have fz : ∀ o, wr.frozen? ⟨w.heap.size + 1, o, none⟩ = false := fun o => (World.frozen?_of_block (w := w3) (HBB.out.2 _ (show w.heap.size + 1 < w3.heap.size by omega) (show w.heap.size + 1 ≠ bo by omega))).trans (FZ3.out o)
        obtain ⟨k0, k1, k2, k3⟩ := PZ3.out.keep kz
        have j0 := fz 0
        have j1 := fz 1
        have j2 := fz 2
        have j3 := fz 3
        clear kz fz
        obtain ⟨e0, e1, e2, e3⟩ := PO.out
        go_wp2_with fail
        obtain ⟨hob, hrb⟩ := ownB_of OW
        have OB := hid hob
        have RB := hid (fun (g : Nat) (hg : rowN k A5 = some g) => show w3.heap.size ≤ g ∧ g < wr.heap.size from ⟨hrb g hg, hob.row_lt hg⟩)
        have BF := hid (BEL3.out.trans (HBB.out.1.mono (by omega)))
        clear hob hrb
        exact bodyPost_ret (v := .tuple #[.agg #[.int .i64 S, .int .i64 L, .slice A4 n c4, .slice A5 k c5], .bool true]) (by simp [results, Try.results29, go_sem, k0, k1, k2, k3]) rfl
          ⟨A4, c4, A5, c5, rfl, ⟨(OwnL.setc (OwnL.setc (OwnL.setc (OwnL.setc OL.out (fun g hg => by have := OR.out g hg; simp; omega) _) (fun g hg => by have := OR.out g hg; simp; omega) _) (fun g hg => by have := OR.out g hg; simp; omega) _) (fun g hg => by have := OR.out g hg; simp; omega) _), (OwnB.setc (OwnB.setc (OwnB.setc (OwnB.setc OB.out (fun g hg => by have := RB.out g hg; simp; omega) _) (fun g hg => by have := RB.out g hg; simp; omega) _) (fun g hg => by have := RB.out g hg; simp; omega) _) (fun g hg => by have := RB.out g hg; simp; omega) _), fun g h e => by have a := RW.out g h; have b := RB.out g e; omega⟩,
            fun r hr g hg => by
              simp only [rowsP, List.mem_cons, List.not_mem_nil, or_false] at hr
              rcases hr with rfl | rfl
              · have a := RW.out g hg; have b := OR.out g hg; simp; omega
              · have a := RB.out g hg; simp; omega,
            ((((BF.out.setCell (by simp) _).setCell (by simp) _).setCell (by simp) _).setCell (by simp) _)⟩
set_option maxHeartbeats 3200000 in
theorem impl_no (S L : Int) (A : Option Addr) (n c : Nat) (B : Option Addr) (m d : Nat) (xs : List Int) (bs : List Bool) (hF : FitsP n m xs bs) (hv : validP S L n xs m = false) (w : World) (hl : ListsP w A B xs bs) :
    Calls Try.prog 29 #[.agg #[.int .i64 S, .int .i64 L, .slice A n c, .slice B m d]] w (RetBP 0 0 0 0 [] [] false w) := by
  have HL := hid hl
  have HV := hid (hv ▸ fun w hl => implValid_calls S L A n c B m d xs hF.x hF.n hF.m w hl)
  clear hl hF hv
  go_enter Try.func29, Try.ntmps29
  go_wp2_with fail
  refine (HV.out _ ((HL.out.alloc _).alloc _).a).mono ?_
  rintro e w1 ⟨rfl, bel1⟩
  have hc := (old_cell bel1).1
  have hf := (old_cell bel1).2
  have BEL := hid (((Below.refl w.heap.size w).alloc (Nat.le_refl _) _).alloc (by simp) _ |>.trans (bel1.mono (by simp; omega)))
  obtain ⟨k0, k1, k2, k3⟩ := show PlainAt w1 (w.heap.size + 1) 0 0 none 0 0 none 0 0 from ⟨by rw [hc _ _ (by simp)]; go_simp, by rw [hc _ _ (by simp)]; go_simp, by rw [hc _ _ (by simp)]; go_simp, by rw [hc _ _ (by simp)]; go_simp⟩
  have fz : ∀ o, w1.frozen? ⟨w.heap.size + 1, o, none⟩ = false := fun o => by rw [hf _ _ (by simp)]; go_simp
  have j0 := fz 0
  have j1 := fz 1
  have j2 := fz 2
  have j3 := fz 3
  clear fz hc hf bel1
  go_wp2_with fail
  exact bodyPost_ret (v := .tuple #[.agg #[.int .i64 0, .int .i64 0, .slice none 0 0, .slice none 0 0], .bool false]) (by simp [results, Try.results29, go_sem, k0, k1, k2, k3]) rfl
    ⟨none, 0, none, 0, rfl, ownP_nil _, within_nil _ _, ((((BEL.out.setCell (by simp) _).setCell (by simp) _).setCell (by simp) _).setCell (by simp) _)⟩
end Go.Proofs.Ytlfmcdobiojdlaa.fnExactOtherPlain
