/-
  The plain machine that reads the other words, by the reference.
-/
import Derived.Test.YtlfmcdobiojdlaaOtherImpl
import Derived.Deep.AppendLies
import Derived.Deep.RegionHeldLaw
namespace Go.Proofs.Ytlfmcdobiojdlaa.fnExactOtherPlain
open Go.RowKit Go.Proofs.Fl Go.Proofs.Ytlfmcdobiojdlaa.Num
set_option linter.unusedVariables false
set_option linter.unusedSimpArgs false
theorem rd_news {w : World} {A : Option Addr} {xs : List Int} (h : Rd w w.heap.size A (i64s xs)) (hne : 0 < xs.length) : ∃ b off, A = some ⟨b, off, none⟩ ∧ b < w.heap.size ∧ ∀ w', Below w.heap.size w w' → ∀ (j : Nat) (u : Value), (i64s xs)[j]? = some u → w'.cell? ((⟨b, off, none⟩ : Addr).add j) = some u := by
  rcases h with h0 | ⟨b, off, hA, hb, hc⟩
  · have := congrArg List.length h0
    simp at this
    subst this
    simp at hne
  · exact ⟨b, off, hA, hb, fun w' hw j u hu => by rw [Addr.add_lit]; rw [← hc j u hu]; exact hw.cell (p := ⟨b, off + j, none⟩) hb⟩
theorem rd_newsB {w : World} {A : Option Addr} {xs : List Bool} (h : Rd w w.heap.size A (bools xs)) (hne : 0 < xs.length) : ∃ b off, A = some ⟨b, off, none⟩ ∧ b < w.heap.size ∧ ∀ w', Below w.heap.size w w' → ∀ (j : Nat) (u : Value), (bools xs)[j]? = some u → w'.cell? ((⟨b, off, none⟩ : Addr).add j) = some u := by
  rcases h with h0 | ⟨b, off, hA, hb, hc⟩
  · have := congrArg List.length h0
    simp [bools] at this
    subst this
    simp at hne
  · exact ⟨b, off, hA, hb, fun w' hw j u hu => by rw [Addr.add_lit]; rw [← hc j u hu]; exact hw.cell (p := ⟨b, off + j, none⟩) hb⟩
theorem bools_one (xs : List Bool) : ∀ u ∈ bools xs, u.oneCell' = true := by
  intro u hu
  unfold bools at hu
  obtain ⟨x, _, rfl⟩ := List.mem_map.1 hu
  rfl
theorem own_set {w : World} {base e size g n c : Nat} {xs : List Value} (h : w.ownsRow base e size (.slice (some ⟨g, 0, none⟩) n c) n xs) {p : Addr} (hp : g ≠ p.block) (u : Value) : (w.setCell p u).ownsRow base e size (.slice (some ⟨g, 0, none⟩) n c) n xs := own_keep h (Below.heap_setCell _ _ _ _ hp)
theorem hat_ne {a g H k c : Nat} (h : (Value.slice (some ⟨a, 0, none⟩) k c).ownBlock = some g ∨ g = H) (x : Nat) (hx : x ≠ a) (hy : x < H) : g ≠ x := by
  rcases h with h | h
  · simp [Value.ownBlock] at h; omega
  · omega
theorem ownL_of {w : World} {base e size g n c : Nat} {xs : List Int} (h : w.ownsRow base e size (.slice (some ⟨g, 0, none⟩) n c) n (i64s xs)) : OwnL w e size (some ⟨g, 0, none⟩) n c xs := ⟨by simpa using h.1, .inr ⟨g, rfl, own_rebase h⟩⟩
set_option maxHeartbeats 6400000 in
theorem own_calls (b : Nat) (S L : Int) (A : Option Addr) (n c : Nat) (B : Option Addr) (m d : Nat) (xs : List Int) (bs : List Bool) (hF : FitsP n m xs bs) (hn1 : 0 < n) (hm1 : 0 < m) (w : World) (hp : PlainAt w b S L A n c B m d) (hb : b < w.heap.size) (hl : ListsP w A B xs bs) :
    Calls Try.prog 57 #[.pointer (some ⟨b, 0, none⟩)] w (fun e w' => ∃ A4 c4 A5 c5, e = .returned (.agg #[.int .i64 S, .int .i64 L, .slice A4 n c4, .slice A5 m c5]) ∧ OwnP w' A4 n c4 A5 m c5 xs bs ∧ Within w.heap.size w'.heap.size (rowsP n A4 m A5) ∧ Below w.heap.size w w') := by
  have HL := hid hl
  have HF := hid hF
  have HP := hid hp
  have hn := hF.n
  have hm := hF.m
  clear hl hF hp
  obtain ⟨i0, hi0, hz0, hz1, hz2⟩ := info_parts toInt64S_info
  go_enter Try.func57, Try.ntmps57
  go_wp2_with fail
  have P1 := hid (HP.out.step ((Below.refl w.heap.size w).alloc (Nat.le_refl _) (Obj.cells #[.int .i64 0, .int .i64 0, .slice none 0 0, .slice none 0 0] 31)) hb)
  have L1 := hid (HL.out.alloc (Obj.cells #[.int .i64 0, .int .i64 0, .slice none 0 0, .slice none 0 0] 31))
  have B1 := hid ((Below.refl w.heap.size w).alloc (Nat.le_refl _) (Obj.cells #[.int .i64 0, .int .i64 0, .slice none 0 0, .slice none 0 0] 31))
  have s1 : (w.alloc (Obj.cells #[.int .i64 0, .int .i64 0, .slice none 0 0, .slice none 0 0] 31)).heap.size = w.heap.size + 1 := by simp
  have RZ := hid (show PlainAt (w.alloc (Obj.cells #[.int .i64 0, .int .i64 0, .slice none 0 0, .slice none 0 0] 31)) w.heap.size 0 0 none 0 0 none 0 0 from ⟨by go_simp, by go_simp, by go_simp, by go_simp⟩)
  have RF := hid (show ∀ o, (w.alloc (Obj.cells #[.int .i64 0, .int .i64 0, .slice none 0 0, .slice none 0 0] 31)).frozen? ⟨w.heap.size, o, none⟩ = false from fun o => by go_simp)
  generalize w.alloc (Obj.cells #[.int .i64 0, .int .i64 0, .slice none 0 0, .slice none 0 0] 31) = w1 at *
  have ltb : b < w1.heap.size := by omega
  have S1 := hid s1
  clear s1
  obtain ⟨ba, oa, rfl, hba, nw⟩ := rd_news L1.out.a (by rw [HF.out.x]; exact hn1)
  have nw := hid nw
  have O1 := hid (own_empty w1 2 1).drew
  have O2 := hid ((own_empty w1 2 1).alloc (Obj.cells #[.int .i64 0, .int .i64 0, .slice none 0 0, .slice none 0 0] 31)).drew
  have O3 := hid (show ((w1.alloc (Obj.cells #[.int .i64 0, .int .i64 0, .slice none 0 0, .slice none 0 0] 31)).alloc (Obj.cells #[] 2)).drew.ownsRow w1.heap.size 2 1 (.slice (some ⟨w1.heap.size + 1, 0, none⟩) 0 0) 0 [] from by
    refine ⟨by simp, .inr ⟨w1.heap.size + 1, 0, #[], rfl, by omega, ?_, Nat.le_refl _, by simp [maxLen], by simp, by simp⟩⟩
    have := heap_alloc_new (w1.alloc (Obj.cells #[.int .i64 0, .int .i64 0, .slice none 0 0, .slice none 0 0] 31)) (Obj.cells #[] 2)
    have e : (w1.alloc (Obj.cells #[.int .i64 0, .int .i64 0, .slice none 0 0, .slice none 0 0] 31)).heap.size = w1.heap.size + 1 := by simp
    rw [e] at this
    exact this)
  have BW1 := hid (show Below w1.heap.size w1 (w1.alloc (Obj.cells #[] 2)).drew from ((Below.refl _ _).alloc (Nat.le_refl _) _).drew)
  have BW2 := hid (show Below w1.heap.size w1 ((w1.alloc (Obj.cells #[] 2)).alloc (Obj.cells #[.int .i64 0, .int .i64 0, .slice none 0 0, .slice none 0 0] 31)).drew from (((Below.refl w1.heap.size w1).alloc (Nat.le_refl _) _).alloc (by simp) _).drew)
  have BW3 := hid (show Below w1.heap.size w1 ((w1.alloc (Obj.cells #[.int .i64 0, .int .i64 0, .slice none 0 0, .slice none 0 0] 31)).alloc (Obj.cells #[] 2)).drew from (((Below.refl w1.heap.size w1).alloc (Nat.le_refl _) _).alloc (by simp) _).drew)
  have zlt2 : w1.heap.size + 1 < ((w1.alloc (Obj.cells #[] 2)).alloc (Obj.cells #[.int .i64 0, .int .i64 0, .slice none 0 0, .slice none 0 0] 31)).drew.heap.size := (show w1.heap.size + 1 < ((w1.alloc (Obj.cells #[] 2)).alloc (Obj.cells #[.int .i64 0, .int .i64 0, .slice none 0 0, .slice none 0 0] 31)).heap.size by simp)
  have zlt3 : w1.heap.size < ((w1.alloc (Obj.cells #[.int .i64 0, .int .i64 0, .slice none 0 0, .slice none 0 0] 31)).alloc (Obj.cells #[] 2)).drew.heap.size := (show w1.heap.size < ((w1.alloc (Obj.cells #[.int .i64 0, .int .i64 0, .slice none 0 0, .slice none 0 0] 31)).alloc (Obj.cells #[] 2)).heap.size by simp; omega)
  have PZ2 := hid (show PlainAt ((w1.alloc (Obj.cells #[] 2)).alloc (Obj.cells #[.int .i64 0, .int .i64 0, .slice none 0 0, .slice none 0 0] 31)).drew (w1.heap.size + 1) 0 0 none 0 0 none 0 0 from ⟨by go_simp, by go_simp, by go_simp, by go_simp⟩)
  have FZ2 := hid (show ∀ o, ((w1.alloc (Obj.cells #[] 2)).alloc (Obj.cells #[.int .i64 0, .int .i64 0, .slice none 0 0, .slice none 0 0] 31)).drew.frozen? ⟨w1.heap.size + 1, o, none⟩ = false from fun o => by go_simp)
  have PZ3 := hid (show PlainAt ((w1.alloc (Obj.cells #[.int .i64 0, .int .i64 0, .slice none 0 0, .slice none 0 0] 31)).alloc (Obj.cells #[] 2)).drew w1.heap.size 0 0 none 0 0 none 0 0 from ⟨by go_simp, by go_simp, by go_simp, by go_simp⟩)
  have FZ3 := hid (show ∀ o, ((w1.alloc (Obj.cells #[.int .i64 0, .int .i64 0, .slice none 0 0, .slice none 0 0] 31)).alloc (Obj.cells #[] 2)).drew.frozen? ⟨w1.heap.size, o, none⟩ = false from fun o => by go_simp)
  obtain ⟨p0, p1, p2, p3⟩ := P1.out
  obtain ⟨a0, a1, a2, a3⟩ := P1.out.drew
  go_cut [3] from 4 to 18 (fun v wx => ∃ bo g cap : Nat, v = .pointer (some ⟨bo, 0, none⟩) ∧ Hid (PlainAt wx bo S L (some ⟨g, 0, none⟩) n cap none 0 0) ∧ Hid (∀ o, wx.frozen? ⟨bo, o, none⟩ = false) ∧ Hid (wx.ownsRow w1.heap.size 2 1 (.slice (some ⟨g, 0, none⟩) n cap) n (i64s xs)) ∧ g ≠ bo ∧ w1.heap.size ≤ bo ∧ bo < wx.heap.size ∧ Hid (Below w1.heap.size w1 wx))
  case first =>
    go_region_held_law (fun w' => w'.cell? ⟨b, 0, none⟩ = some (.int .i64 S) ∧ w'.cell? ⟨b, 1, none⟩ = some (.int .i64 L) ∧ w'.cell? ⟨b, 2, none⟩ = some (.slice (some ⟨ba, oa, none⟩) n c)) (first | with_reducible exact ⟨a0, a1, a2⟩ | with_reducible exact ⟨q0, q1, q2⟩ | exact ⟨by go_simp, by go_simp, by go_simp⟩)
      (first
        | (refine step_append_lies _ rfl _ _ 22 rfl w1.heap.size 2 i0 (Value.int .i64 0) 1 8 Try.underlying22 hi0 hz0 hz1 hz2 rfl (by decide) (.slice (some ⟨w1.heap.size, 0, none⟩) 0 0) 0 [] rfl O1.out ⟨ba, oa, none⟩ n c (i64s xs) rfl (by simp [HF.out.x]) (nw.out _ BW1.out) (i64s_one _) hn1 (by unfold maxLen; omega) (by omega) BW1.out.size _ rfl ?_; intro g cap w5 hown hgrow hat hlt; rw [Nat.zero_add] at hown; have bel5 : Below w1.heap.size w1 w5 := BW1.out.trans ((Kept.of_grown hgrow).below BW1.out.size fun r hr g' hg' => by simp [Value.ownBlock] at hr; subst hr; simp at hg'; omega); obtain ⟨q0, q1, q2, q3⟩ := P1.out.step bel5 ltb; have ltb5 : b < w5.heap.size := Nat.lt_of_lt_of_le ltb bel5.size; have OW5 := hid hown; have BL5 := hid bel5; have HLT := hid hlt; clear hown hgrow hat hlt bel5)
        | (refine step_append_lies _ rfl _ _ 22 rfl w1.heap.size 2 i0 (Value.int .i64 0) 1 8 Try.underlying22 hi0 hz0 hz1 hz2 rfl (by decide) (.slice (some ⟨w1.heap.size, 0, none⟩) 0 0) 0 [] rfl O2.out ⟨ba, oa, none⟩ n c (i64s xs) rfl (by simp [HF.out.x]) (nw.out _ BW2.out) (i64s_one _) hn1 (by unfold maxLen; omega) (by omega) BW2.out.size _ rfl ?_; intro g cap w5 hown hgrow hat hlt; rw [Nat.zero_add] at hown; have bel5 : Below w1.heap.size w1 w5 := BW2.out.trans ((Kept.of_grown hgrow).below BW2.out.size fun r hr g' hg' => by simp [Value.ownBlock] at hr; subst hr; simp at hg'; omega); obtain ⟨q0, q1, q2, q3⟩ := P1.out.step bel5 ltb; have ltb5 : b < w5.heap.size := Nat.lt_of_lt_of_le ltb bel5.size; have kz := (fun o => ((Kept.of_grown hgrow).cell (show w1.heap.size + 1 < ((w1.alloc (Obj.cells #[] 2)).alloc (Obj.cells #[.int .i64 0, .int .i64 0, .slice none 0 0, .slice none 0 0] 31)).drew.heap.size from zlt2) (fun r hr e => by simp [Value.ownBlock] at hr; subst hr; simp at e) o)); have fz := (fun o => (Kept.frz (Kept.of_grown hgrow) (show w1.heap.size + 1 < ((w1.alloc (Obj.cells #[] 2)).alloc (Obj.cells #[.int .i64 0, .int .i64 0, .slice none 0 0, .slice none 0 0] 31)).drew.heap.size from zlt2) (fun r hr e => by simp [Value.ownBlock] at hr; subst hr; simp at e) o).trans (FZ2.out o)); obtain ⟨y0, y1, y2, y3⟩ := PZ2.out.keep kz; have j0 := fz 0; have j1 := fz 1; have j2 := fz 2; have j3 := fz 3; have FF2 := hid fz; clear kz fz; have HAT := hid (hat_ne hat (w1.heap.size + 1) (by omega) zlt2); have K2 := hid (Nat.lt_of_lt_of_le zlt2 hgrow.size); have OW5 := hid hown; have BL5 := hid bel5; have HLT := hid hlt; clear hown hgrow hat hlt bel5)
        | (refine step_append_lies _ rfl _ _ 22 rfl w1.heap.size 2 i0 (Value.int .i64 0) 1 8 Try.underlying22 hi0 hz0 hz1 hz2 rfl (by decide) (.slice (some ⟨w1.heap.size + 1, 0, none⟩) 0 0) 0 [] rfl O3.out ⟨ba, oa, none⟩ n c (i64s xs) rfl (by simp [HF.out.x]) (nw.out _ BW3.out) (i64s_one _) hn1 (by unfold maxLen; omega) (by omega) BW3.out.size _ rfl ?_; intro g cap w5 hown hgrow hat hlt; rw [Nat.zero_add] at hown; have bel5 : Below w1.heap.size w1 w5 := BW3.out.trans ((Kept.of_grown hgrow).below BW3.out.size fun r hr g' hg' => by simp [Value.ownBlock] at hr; subst hr; simp at hg'; omega); obtain ⟨q0, q1, q2, q3⟩ := P1.out.step bel5 ltb; have ltb5 : b < w5.heap.size := Nat.lt_of_lt_of_le ltb bel5.size; have kz := (fun o => ((Kept.of_grown hgrow).cell (show w1.heap.size < ((w1.alloc (Obj.cells #[.int .i64 0, .int .i64 0, .slice none 0 0, .slice none 0 0] 31)).alloc (Obj.cells #[] 2)).drew.heap.size from zlt3) (fun r hr e => by simp [Value.ownBlock] at hr; subst hr; simp at e) o)); have fz := (fun o => (Kept.frz (Kept.of_grown hgrow) (show w1.heap.size < ((w1.alloc (Obj.cells #[.int .i64 0, .int .i64 0, .slice none 0 0, .slice none 0 0] 31)).alloc (Obj.cells #[] 2)).drew.heap.size from zlt3) (fun r hr e => by simp [Value.ownBlock] at hr; subst hr; simp at e) o).trans (FZ3.out o)); obtain ⟨y0, y1, y2, y3⟩ := PZ3.out.keep kz; have j0 := fz 0; have j1 := fz 1; have j2 := fz 2; have j3 := fz 3; have FF3 := hid fz; clear kz fz; have HAT := hid (hat_ne hat w1.heap.size (by omega) zlt3); have K3 := hid (Nat.lt_of_lt_of_le zlt3 hgrow.size); have OW5 := hid hown; have BL5 := hid bel5; have HLT := hid hlt; clear hown hgrow hat hlt bel5))
    all_goals
      go_wp2_with fail
      go_meet
      case rel =>
        first
        | (have gd := FF2.out; exact ⟨w1.heap.size + 1, g, cap, rfl, ⟨by go_simp, by go_simp, by go_simp, by go_simp⟩, fun o => by have := FF2.out o; go_simp, (own_set (own_set (own_set (own_set OW5.out HAT.out _) HAT.out _) HAT.out _) HAT.out _), HAT.out, by omega, by have a := K2.out; simp; omega, ((((BL5.out.setCell (Nat.le_succ _) _).setCell (Nat.le_succ _) _).setCell (Nat.le_succ _) _).setCell (Nat.le_succ _) _)⟩)
        | (have gd := FF3.out; exact ⟨w1.heap.size, g, cap, rfl, ⟨by go_simp, by go_simp, by go_simp, by go_simp⟩, fun o => by have := FF3.out o; go_simp, (own_set (own_set (own_set (own_set OW5.out HAT.out _) HAT.out _) HAT.out _) HAT.out _), HAT.out, Nat.le_refl _, by have a := K3.out; simp; omega, ((((BL5.out.setCell (Nat.le_refl _) _).setCell (Nat.le_refl _) _).setCell (Nat.le_refl _) _).setCell (Nat.le_refl _) _)⟩)
        | exact ⟨w5.heap.size, g, cap, rfl, ⟨by go_simp, by go_simp, by go_simp, by go_simp⟩, fun o => by go_simp, OW5.out.alloc _, (by have := HLT.out; omega), BL5.out.size, by simp, (BL5.out.alloc BL5.out.size _)⟩
  case rest =>
    obtain ⟨bo, g, cap, rfl, PO, FO, OA, hgbo, hbo1, hbo2, BX⟩ := hcut
    generalize wc = w3 at *
    have P3 := hid (P1.out.step BX.out ltb)
    have L3 := hid (L1.out.step BX.out)
    have sX := BX.out.size
    have hrc : w.heap.size < w1.heap.size := by have := S1.out; omega
    have RZ3 := hid (RZ.out.step BX.out hrc)
    have RF3 := hid (fun o => (BX.out.frozen (p := ⟨w.heap.size, o, none⟩) hrc).trans (RF.out o))
    clear p0 p1 p2 p3 a0 a1 a2 a3 O1 O2 O3 BW1 BW2 BW3 PZ2 PZ3 FZ2 FZ3 zlt2 zlt3 nw RZ RF
    obtain ⟨k0, hk0, hy0, hy1, hy2⟩ := info_parts toBoolS_info
    obtain ⟨bb, ob, rfl, hbb, nwb⟩ := rd_newsB L3.out.b (by rw [HF.out.b]; exact hm1)
    have NWB := hid nwb
    have OAL := hid (ownL_of OA.out)
    have hg3 : g < w3.heap.size := own_lt OA.out
    have hg1 : w1.heap.size ≤ g := own_ge OA.out
    have BB := hid (B1.out.trans (BX.out.mono (Nat.le_of_lt hrc)))
    clear nwb
    obtain ⟨p0, p1, p2, p3⟩ := P3.out.step ((Below.refl w3.heap.size w3).alloc (Nat.le_refl _) (Obj.cells #[] 4)) (Nat.lt_of_lt_of_le ltb sX)
    go_wp2_with (at_builtin; refine wpList_append_lies _ rfl _ _ 26 rfl w3.heap.size 4 k0 (Value.bool false) 1 1 Try.underlying26 hk0 hy0 hy1 hy2 rfl (by decide) (.slice (some ⟨w3.heap.size, 0, none⟩) 0 0) 0 [] rfl (own_empty _ _ _) ⟨bb, ob, none⟩ m d (bools bs) rfl (by simp [bools, HF.out.b]) (NWB.out _ ((Below.refl _ _).alloc (Nat.le_refl _) _)) (bools_one _) hm1 (by unfold maxLen; omega) (by omega) (by simp) _ rfl ?_; intro g2 cap2 w5 hown hgrow hat hlt; rw [Nat.zero_add] at hown; have bel5 : Below w3.heap.size w3 w5 := ((Below.refl w3.heap.size w3).alloc (Nat.le_refl _) _).trans ((Kept.of_grown hgrow).below (by simp) fun r hr g' hg' => by simp [Value.ownBlock] at hr; subst hr; simp at hg'; omega); obtain ⟨q0, q1, q2, q3⟩ := PO.out.step bel5 hbo2; have ff := (fun o => ((old_cell bel5).2 bo o hbo2).trans (FO.out o)); have ff3 := ff 3; obtain ⟨z0, z1, z2, z3⟩ := RZ3.out.step bel5 (Nat.lt_of_lt_of_le hrc sX); have rf := (fun o => ((old_cell bel5).2 w.heap.size o (Nat.lt_of_lt_of_le hrc sX)).trans (RF3.out o)); have r0 := rf 0; have r1 := rf 1; have r2 := rf 2; have r3 := rf 3; have hg2 := own_ge hown; obtain ⟨obx, orx⟩ := ownB_of hown; have OB5 := hid obx; have OA5 := hid (OAL.out.step bel5); have BL5 := hid bel5; have HLT := hid hlt; clear hown hgrow hat hlt bel5 ff rf obx orx)
    have BF := hid (BB.out.trans (BL5.out.mono (Nat.le_of_lt (Nat.lt_of_lt_of_le hrc sX))))
    exact bodyPost_ret (v := .agg #[.int .i64 S, .int .i64 L, .slice (some ⟨g, 0, none⟩) n cap, .slice (some ⟨g2, 0, none⟩) m cap2]) (by simp [results, Try.results57, go_sem, z0, z1, z2, z3]) rfl
      ⟨some ⟨g, 0, none⟩, cap, some ⟨g2, 0, none⟩, cap2, rfl, ⟨(OwnL.setc (OwnL.setc (OwnL.setc (OwnL.setc (OwnL.setc OA5.out (fun x hx => by rw [rowN_is hx]; simp; omega) _) (fun x hx => by rw [rowN_is hx]; simp; omega) _) (fun x hx => by rw [rowN_is hx]; simp; omega) _) (fun x hx => by rw [rowN_is hx]; simp; omega) _) (fun x hx => by rw [rowN_is hx]; simp; omega) _), (OwnB.setc (OwnB.setc (OwnB.setc (OwnB.setc (OwnB.setc OB5.out (fun x hx => by rw [rowN_is hx]; simp; omega) _) (fun x hx => by rw [rowN_is hx]; simp; omega) _) (fun x hx => by rw [rowN_is hx]; simp; omega) _) (fun x hx => by rw [rowN_is hx]; simp; omega) _) (fun x hx => by rw [rowN_is hx]; simp; omega) _), fun x h e => by have a := rowN_is h; have b := rowN_is e; omega⟩,
        fun r hr x hx => by
          have := HLT.out
          have := BL5.out.size
          simp only [rowsP, List.mem_cons, List.not_mem_nil, or_false] at hr
          rcases hr with rfl | rfl
          · have a := rowN_is hx; simp; omega
          · have a := rowN_is hx; simp; omega,
        (((((BF.out.setCell (by simp; omega) _).setCell (by simp) _).setCell (by simp) _).setCell (by simp) _).setCell (by simp) _)⟩
end Go.Proofs.Ytlfmcdobiojdlaa.fnExactOtherPlain
