/-
  The classes of a plain machine's states, by the reference.
-/
import Derived.Test.YtlfmcdobiojdlaaOutP
import Derived.Test.YtlfmcdobiojdlaaClasses
import Derived.Test.YtlfmcdobiojdlaaEqList
import Derived.Deep.RegionHeld3
import Derived.Deep.AppendLies
import Derived.Deep.CutRange
namespace Go.Proofs.Ytlfmcdobiojdlaa.fnExactLeastPlain
open Go.RowKit Go.Proofs.Fl Go.Proofs.Ytlfmcdobiojdlaa.Num Go.Proofs.Cls
open Go.Proofs.Ytlfmcdobiojdlaa.fnExactApartWord (Pl toN idx_lt mul_cast_small own_empty own_one own_mono lists_info ints_snoc grew_lies bel_al app_belV own_row_ge ownL_kept1)
set_option linter.unusedVariables false
set_option linter.unusedSimpArgs false
def kAt (ks : List Key) (j : Nat) : Key := ks.getD j []
theorem kAt_app {ks t : List Key} {j : Nat} (h : j < ks.length) : kAt (ks ++ t) j = kAt ks j := by unfold kAt; simp [List.getD_eq_getElem?_getD, List.getElem?_append_left h]
theorem kAt_last (ks : List Key) (k : Key) : kAt (ks ++ [k]) ks.length = k := by unfold kAt; simp [List.getD_eq_getElem?_getD]
/-- what is held while a round goes on: the keys found, each in a block of its own, and the numbers told -/
structure Rnd (w2 wr : World) (base gk ck gx cx : Nat) (ks : List Key) (nxt : List Nat) (hs : List Value) : Prop where
  krow : wr.ownsRow base 22 1 (.slice (some ⟨gk, 0, none⟩) ks.length ck) ks.length hs
  each : ∀ j, j < ks.length → ∃ g c, hs[j]? = some (.slice (some ⟨g, 0, none⟩) (kAt ks j).length c) ∧ OwnL wr 2 1 (some ⟨g, 0, none⟩) (kAt ks j).length c (nats (kAt ks j)) ∧ base ≤ g ∧ g ≠ gk ∧ g ≠ gx ∧ g < wr.heap.size
  nrow : wr.ownsRow base 2 1 (.slice (some ⟨gx, 0, none⟩) nxt.length cx) nxt.length (i64s (nats nxt))
  ne : gk ≠ gx
  bel : Below base w2 wr
section
variable {w2 wr w' : World} {base gk ck gx cx : Nat} {ks : List Key} {nxt : List Nat} {hs : List Value}
theorem Rnd.bw (h : Rnd w2 wr base gk ck gx cx ks nxt hs) : base ≤ wr.heap.size := Nat.le_trans (Go.Proofs.Ytlfmcdobiojdlaa.fnExactOtherPlain.own_ge h.nrow) (Nat.le_of_lt (own_lt h.nrow))
theorem Rnd.step (h : Rnd w2 wr base gk ck gx cx ks nxt hs) (hb : Below wr.heap.size wr w') : Rnd w2 w' base gk ck gx cx ks nxt hs :=
  ⟨own_keep h.krow (hb.block _ (own_lt h.krow)), fun j hj => by
    obtain ⟨g, c, h1, h2, h3, h4, h5, h6⟩ := h.each j hj
    exact ⟨g, c, h1, h2.step hb, h3, h4, h5, Nat.lt_of_lt_of_le h6 hb.size⟩, own_keep h.nrow (hb.block _ (own_lt h.nrow)), h.ne, h.bel.trans (hb.mono h.bw)⟩
theorem Rnd.word (h : Rnd w2 wr base gk ck gx cx ks nxt hs) {j : Nat} (hj : j < ks.length) : ∃ g c, wr.cell? ⟨gk, j, none⟩ = some (.slice (some ⟨g, 0, none⟩) (kAt ks j).length c) ∧ OwnL wr 2 1 (some ⟨g, 0, none⟩) (kAt ks j).length c (nats (kAt ks j)) := by
  obtain ⟨g, c, h1, h2, _⟩ := h.each j hj
  exact ⟨g, c, by rw [World.ownsRow.cellAt h.krow j (by omega)]; exact h1, h2⟩
theorem Rnd.addKey (h : Rnd w2 wr base gk ck gx cx ks nxt hs) {gk' ck' g2 c2 n2 : Nat} {k : Key} (h2 : OwnL wr 2 1 (some ⟨g2, 0, none⟩) n2 c2 (nats k)) (hn : n2 = k.length) (hb2 : base ≤ g2) (hp2 : g2 ≠ gk) (hx2 : g2 ≠ gx) (hl2 : g2 < wr.heap.size)
    (ho : w'.ownsRow base 22 1 (.slice (some ⟨gk', 0, none⟩) (ks.length + 1) ck') (ks.length + 1) (hs ++ [.slice (some ⟨g2, 0, none⟩) n2 c2])) (hg : Grew wr w' gk gk') : Rnd w2 w' base gk' ck' gx cx (ks ++ [k]) nxt (hs ++ [.slice (some ⟨g2, 0, none⟩) n2 c2]) := by
  subst hn
  have hk := own_lt h.krow
  have hx := own_lt h.nrow
  have hsz := hg.kept.size
  have hhl : hs.length = ks.length := by have := h.krow.1; omega
  have hne : gk' ≠ gx := by
    rcases hg.at_ with e | e
    · rw [e]; exact h.ne
    · omega
  have hxk := own_keep h.nrow (hg.kept.block gx hx fun r hr e => by rw [List.mem_singleton.1 hr] at e; exact h.ne (Option.some.inj e).symm)
  refine ⟨by simpa using ho, fun j hj => ?_, hxk, hne, h.bel.trans (hg.kept.below h.bw fun r hr g e => by rw [List.mem_singleton.1 hr] at e; rw [← Option.some.inj e]; exact Go.Proofs.Ytlfmcdobiojdlaa.fnExactOtherPlain.own_ge h.krow)⟩
  by_cases hj2 : j < ks.length
  · obtain ⟨g, c, e1, e2, e3, e4, e5, e6⟩ := h.each j hj2
    rw [kAt_app hj2]
    refine ⟨g, c, by rw [List.getElem?_append_left (by omega)]; exact e1, ownL_kept1 e2 hg.kept e4, e3, ?_, e5, by omega⟩
    rcases hg.at_ with e | e
    · rw [e]; exact e4
    · omega
  · have hje : j = ks.length := by simp at hj; omega
    subst hje
    rw [kAt_last]
    refine ⟨g2, c2, by rw [← hhl]; simp, ownL_kept1 h2 hg.kept hp2, hb2, ?_, hx2, by omega⟩
    rcases hg.at_ with e | e
    · rw [e]; exact hp2
    · omega
theorem Rnd.addNext (h : Rnd w2 wr base gk ck gx cx ks nxt hs) {gx' cx' a : Nat} (ho : w'.ownsRow base 2 1 (.slice (some ⟨gx', 0, none⟩) (nxt.length + 1) cx') (nxt.length + 1) (i64s (nats (nxt ++ [a])))) (hg : Grew wr w' gx gx') : Rnd w2 w' base gk ck gx' cx' ks (nxt ++ [a]) hs := by
  have hk := own_lt h.krow
  have hx := own_lt h.nrow
  have hsz := hg.kept.size
  have hne : gk ≠ gx' := by
    rcases hg.at_ with e | e
    · rw [e]; exact h.ne
    · omega
  refine ⟨own_keep h.krow (hg.kept.block gk hk fun r hr e => by rw [List.mem_singleton.1 hr] at e; exact h.ne (Option.some.inj e)), fun j hj => ?_, by simpa using ho, hne, h.bel.trans (hg.kept.below h.bw fun r hr g e => by rw [List.mem_singleton.1 hr] at e; rw [← Option.some.inj e]; exact Go.Proofs.Ytlfmcdobiojdlaa.fnExactOtherPlain.own_ge h.nrow)⟩
  obtain ⟨g, c, e1, e2, e3, e4, e5, e6⟩ := h.each j hj
  refine ⟨g, c, e1, ownL_kept1 e2 hg.kept e5, e3, e4, ?_, by omega⟩
  rcases hg.at_ with e | e
  · rw [e]; exact e5
  · omega
end
theorem rnd_start (w : World) : Rnd w ((w.alloc (.cells #[] 22)).alloc (.cells #[] 2)) w.heap.size w.heap.size 0 (w.heap.size + 1) 0 [] [] [] := by
  have h1 : (w.alloc (.cells #[] 22)).heap.size = w.heap.size + 1 := by simp
  refine ⟨(own_empty w _ _).alloc _, fun j hj => absurd hj (by simp), ?_, by omega, ((Below.refl w.heap.size w).alloc (Nat.le_refl _) _).alloc (by simp) _⟩
  have := own_empty (w.alloc (.cells #[] 22)) 2 1
  rw [h1] at this
  exact own_mono this (by omega)
theorem nats_inj {a b : List Nat} (h : nats a = nats b) : a = b := by
  unfold nats at h
  exact List.map_inj_right (fun x y e => by omega) |>.1 h
theorem range_snoc (f : Nat → Nat) (i : Nat) : (List.range (i + 1)).map f = (List.range i).map f ++ [f i] := by rw [List.range_succ, List.map_append]; rfl
/-- a round's key is found where it stands first -/
theorem find_cases (ks : List Key) (k : Key) {a : Nat} (ha : a ≤ idxK ks k) (hl : a < ks.length) : (a = idxK ks k ∧ kAt ks a = k ∧ ks.contains k = true) ∨ (a < idxK ks k ∧ kAt ks a ≠ k) := by
  have e : kAt ks a = ks[a] := by unfold kAt; simp [List.getD_eq_getElem?_getD, hl]
  rw [e]
  by_cases h : ks[a] = k
  · have h2 : ¬ a < idxK ks k := fun hlt => by
      have := List.not_of_lt_findIdx (xs := ks) (p := (· == k)) (i := a) hlt
      simp [h] at this
    exact .inl ⟨by omega, h, by rw [List.contains_iff_mem]; exact h ▸ List.getElem_mem hl⟩
  · refine .inr ⟨?_, h⟩
    rcases Nat.lt_or_ge a (idxK ks k) with g | g
    · exact g
    · have e2 : a = idxK ks k := by omega
      have hm : k ∈ ks := by
        apply Classical.byContradiction
        intro hn
        have := idxK_not hn
        omega
      have := idxK_get hm
      exact absurd (by rw [← this]; simp [e2]) h
theorem find_end (ks : List Key) (k : Key) {a : Nat} (ha : a ≤ idxK ks k) (hl : a = ks.length) : a = idxK ks k ∧ ks.contains k = false := by
  have h1 : idxK ks k ≤ ks.length := List.findIdx_le_length
  refine ⟨by omega, ?_⟩
  cases h : ks.contains k
  · rfl
  · have := idxK_mem (List.contains_iff_mem.1 h)
    omega
theorem key_len (tz : Nat → Nat → Nat) (L : Nat) (c : Nat → Nat) (i : Nat) : (key tz L c i).length = L + 1 := by simp [key]
theorem ksOf_klen (tz : Nat → Nat → Nat) (L : Nat) (c : Nat → Nat) (i a : Nat) (h : a < (ksOf tz L c i).length) : (kAt (ksOf tz L c i) a).length = L + 1 := by
  have hm : ∀ i, ∀ x ∈ ksOf tz L c i, x.length = L + 1 := by
    intro i
    induction i with
    | zero => intro x hx; cases hx
    | succ i ih =>
      intro x hx
      unfold ksOf addK at hx
      split at hx
      · exact ih x hx
      · rcases List.mem_append.1 hx with h1 | h1
        · exact ih x h1
        · rw [List.mem_singleton.1 h1, key_len]
  refine hm i _ ?_
  unfold kAt
  rw [List.getD_eq_getElem?_getD, List.getElem?_eq_getElem h]
  exact List.getElem_mem _
theorem own_lt_of {w : World} {g n c : Nat} {zs : List Int} (h : OwnL w 2 1 (some ⟨g, 0, none⟩) (n + 1) c zs) : g < w.heap.size := h.row_lt (rowN_some (by omega))
/-- the ends as a function -/
def enL (bs : List Bool) (i : Nat) : Bool := bs.getD i false
/-- the classes as a list, behind r rounds -/
def clsL (xs : List Int) (bs : List Bool) (s l r : Nat) : List Nat := (List.range s).map (cls (enL bs) (toN xs l) l r)
theorem clsL_len (xs : List Int) (bs : List Bool) (s l r : Nat) : (clsL xs bs s l r).length = s := by simp [clsL]
theorem clsL_get (xs : List Int) (bs : List Bool) (s l r : Nat) {i : Nat} (h : i < s) : (clsL xs bs s l r)[i]? = some (cls (enL bs) (toN xs l) l r i) := by simp [clsL, h]
theorem own_nats' {w : World} {base n c : Nat} {A : Option Addr} {q : List Nat} (ho : w.ownsRow base 2 1 (.slice A n c) n (i64s (nats q))) {k : Nat} {x : Nat} (hk : k < n) (hx : q[k]? = some x) : ∃ g, A = some ⟨g, 0, none⟩ ∧ w.cell? ⟨g, k, none⟩ = some (.int .i64 (x : Int)) := by
  rcases ho.2 with ⟨hv, h0⟩ | ⟨g, cap, cur, hv, _⟩
  · omega
  · injection hv with h1 _ h3
    subst h1
    obtain ⟨y, hy, hc⟩ := own_nats ho hk
    rw [hx] at hy
    cases hy
    exact ⟨g, rfl, hc⟩
/-- returned the classes, in a block of its own -/
def RetCls (xs : List Int) (bs : List Bool) (s l : Nat) (w : World) (e : Ending) (w' : World) : Prop :=
  ∃ g c, e = .returned (.slice (some ⟨g, 0, none⟩) s c) ∧ w'.ownsRow w.heap.size 2 1 (.slice (some ⟨g, 0, none⟩) s c) s (i64s (nats (clsL xs bs s l s))) ∧ Below w.heap.size w w'
set_option maxRecDepth 100000 in
set_option maxHeartbeats 12800000 in
theorem l02Classes_calls (b s l : Nat) (A : Option Addr) (n c : Nat) (B : Option Addr) (m d : Nat) (xs : List Int) (bs : List Bool) (hP : Pl s l n xs m bs) (w : World) (hp : PlainAt w b s l A n c B m d) (hb : b < w.heap.size) (hl : ListsP w A B xs bs) :
    Calls Try.prog 77 #[.pointer (some ⟨b, 0, none⟩)] w (RetCls xs bs s l w) := by
  obtain ⟨j0, hj0, hw0, hw1, hw2⟩ := info_parts toInt64S_info
  obtain ⟨i1, hi1, hz1, hz2, hz3⟩ := info_parts lists_info
  have HP := hid hP
  have PA := hid hp
  have HL := hid hl
  have hs1 := hP.s1
  have hs2 := hP.s2
  have hl1 := hP.l1
  have hl2 := hP.l2
  clear hp hl
  go_enter Try.func77, Try.ntmps77
  go_wp2_with fail
  have O0 := hid (own_empty w 2 1)
  have BE0 := hid ((Below.refl w.heap.size w).alloc (Nat.le_refl _) (.cells #[] 2))
  go_loopw [3, 4] (fun v3 i wr => ∃ (j : Nat) (A3 : Option Addr) (c3 : Nat), j ≤ s ∧ i = .int .i64 j ∧ v3 = .slice A3 j c3 ∧ Hid (wr.ownsRow w.heap.size 2 1 (.slice A3 j c3) j (i64s (nats ((List.range j).map (cls (enL bs) (toN xs l) l 0))))) ∧ Hid (Below w.heap.size w wr)) (fun _ i _ => s - (intOf i).toNat)
  case atStart => exact ⟨0, some ⟨w.heap.size, 0, none⟩, 0, Nat.zero_le _, rfl, rfl, O0, BE0⟩
  case round =>
    clear O0 BE0
    obtain ⟨j, A3, c3, hj, rfl, rfl, OW, BE⟩ := hrel
    have PA1 := hid (PA.out.step BE.out hb)
    have a0 := PA1.out.c0
    have hbw := BE.out.size
    by_cases hjs : j < s
    · have hjb : j < bs.length := by have h1 := HP.out.bl; have h2 := HP.out.ms; omega
      have hjm : (j : Int) < (m : Int) := by have h2 := HP.out.ms; omega
      obtain ⟨b1, o1, rfl, hb1, e1⟩ := bools_at (rd_step HL.out.b BE.out) hjb
      have HC := hid (show cls (enL bs) (toN xs l) l 0 j = if bs[j] then 1 else 0 by unfold cls enL; simp [List.getD_eq_getElem?_getD, hjb])
      have HS := hid (range_snoc (cls (enL bs) (toN xs l) l 0) j)
      have a3 := PA1.out.c3
      generalize bs[j] = p at *
      generalize (List.range j).map (cls (enL bs) (toN xs l) l 0) = L0 at *
      have hL0 : i64s (nats L0) = i64s (nats L0) := rfl
      cases p
      · go_wp2_with (at_builtin; refine wpList_append_lies _ rfl _ _ 22 rfl w.heap.size 2 j0 (Value.int .i64 0) 1 8 Try.underlying22 hj0 hw0 hw1 hw2 rfl (by decide) (.slice A3 j c3) j (i64s (nats L0)) rfl (OW.out.alloc _) ⟨wr.heap.size, 0, none⟩ 1 1 [.int .i64 0] rfl rfl (cell_one_new _ _ _) (ints_oneCell .i64 [0]) (by decide) (by unfold maxLen; omega) (by omega) (by simp; omega) (wr.heap.size + 1) (by simp) ?_; intro g5 c5 w5 hown hgrow hat hlt5; have OW5 := hid (show w5.ownsRow w.heap.size 2 1 (.slice (some ⟨g5, 0, none⟩) (j + 1) c5) (j + 1) (i64s (nats (L0 ++ [0]))) by rw [show i64s (nats L0) ++ [Value.int .i64 0] = i64s (nats (L0 ++ [0])) by simp [i64s, nats]] at hown; exact hown); have BE5 := hid (BE.out.trans ((bel_al (Below.refl _ _) hbw _).trans (app_belV (OW.out.alloc _) (by simp; omega) hgrow))); clear hown hgrow hat)
        go_roundw
        case rel => exact ⟨j + 1, some ⟨g5, 0, none⟩, c5, hjs, by go_num, rfl, by rw [HS.out, HC.out]; exact OW5, BE5⟩
        case measure =>
          show s - ((j : Int) + 1).toNat < s - ((j : Int)).toNat
          omega
      · go_wp2_with (at_builtin; refine wpList_append_lies _ rfl _ _ 22 rfl w.heap.size 2 j0 (Value.int .i64 0) 1 8 Try.underlying22 hj0 hw0 hw1 hw2 rfl (by decide) (.slice A3 j c3) j (i64s (nats L0)) rfl (OW.out.alloc _) ⟨wr.heap.size, 0, none⟩ 1 1 [.int .i64 1] rfl rfl (cell_one_new _ _ _) (ints_oneCell .i64 [1]) (by decide) (by unfold maxLen; omega) (by omega) (by simp; omega) (wr.heap.size + 1) (by simp) ?_; intro g5 c5 w5 hown hgrow hat hlt5; have OW5 := hid (show w5.ownsRow w.heap.size 2 1 (.slice (some ⟨g5, 0, none⟩) (j + 1) c5) (j + 1) (i64s (nats (L0 ++ [1]))) by rw [show i64s (nats L0) ++ [Value.int .i64 1] = i64s (nats (L0 ++ [1])) by simp [i64s, nats]] at hown; exact hown); have BE5 := hid (BE.out.trans ((bel_al (Below.refl _ _) hbw _).trans (app_belV (OW.out.alloc _) (by simp; omega) hgrow))); clear hown hgrow hat)
        go_roundw
        case rel => exact ⟨j + 1, some ⟨g5, 0, none⟩, c5, hjs, by go_num, rfl, by rw [HS.out, HC.out]; exact OW5, BE5⟩
        case measure =>
          show s - ((j : Int) + 1).toNat < s - ((j : Int)).toNat
          omega
    · obtain rfl : j = s := by omega
      have OS := hid (show wr.ownsRow w.heap.size 2 1 (.slice A3 j c3) j (i64s (nats (clsL xs bs j l 0))) from OW.out)
      clear OW
      go_wp2_with fail
      go_loopw [3, 6] (fun v3 i wr => ∃ (r : Nat) (g3 c3 : Nat), r ≤ j ∧ i = .int .i64 r ∧ v3 = .slice (some ⟨g3, 0, none⟩) j c3 ∧ Hid (wr.ownsRow w.heap.size 2 1 (.slice (some ⟨g3, 0, none⟩) j c3) j (i64s (nats (clsL xs bs j l r)))) ∧ Hid (Below w.heap.size w wr)) (fun _ i _ => j - (intOf i).toNat)
      case atStart =>
        obtain ⟨g3, c3', e3⟩ := Go.Proofs.Ytlfmcdobiojdlaa.fnExactOtherPlain.own_some OS.out hs1
        injection e3 with e3 _ e4
        subst e3 e4
        exact ⟨0, g3, c3, Nat.zero_le _, rfl, rfl, OS, BE⟩
      case round =>
        clear OS BE PA1 a0
        obtain ⟨r, g3, c3, hr, rfl, rfl, OS, BE⟩ := hrel
        have PA1 := hid (PA.out.step BE.out hb)
        have a0 := PA1.out.c0
        by_cases hrs : r < j
        · go_wp2_with fail
          have R0 := hid (rnd_start wr)
          generalize wr = w2 at *
          generalize hb2 : w2.heap.size = b2 at *
          have hw2b : w.heap.size ≤ b2 := by have := BE.out.size; omega
          go_loopw [7, 8, 9] (fun v7 v8 i wx => ∃ (k gk ck gx cx : Nat) (hs : List Value), k ≤ j ∧ i = .int .i64 k ∧ v7 = .slice (some ⟨gk, 0, none⟩) (ksOf (toN xs l) l (cls (enL bs) (toN xs l) l r) k).length ck ∧ v8 = .slice (some ⟨gx, 0, none⟩) k cx ∧ Hid (Rnd w2 wx b2 gk ck gx cx (ksOf (toN xs l) l (cls (enL bs) (toN xs l) l r) k) ((List.range k).map (cls (enL bs) (toN xs l) l (r + 1))) hs)) (fun _ _ i _ => j - (intOf i).toNat)
          case atStart => exact ⟨0, b2, 0, b2 + 1, 0, [], Nat.zero_le _, rfl, rfl, rfl, R0⟩
          case round =>
            clear R0
            obtain ⟨k, gk, ck, gx, cx, hs, hk, rfl, rfl, rfl, RN⟩ := hrel
            have hlen : ((List.range k).map (cls (enL bs) (toN xs l) l (r + 1))).length = k := by simp
            have hkl := @ksOf_len (toN xs l) l (cls (enL bs) (toN xs l) l r) k
            have OSK := hid (own_keep OS.out (RN.out.bel.block g3 (by rw [← hb2]; exact own_lt OS.out)))
            have BEK := hid (BE.out.trans (RN.out.bel.mono hw2b))
            have PA2 := hid (PA.out.step BEK.out hb)
            have a02 := PA2.out.c0
            have hbw := RN.out.bw
            by_cases hkj : k < j
            · obtain ⟨gz, hgz, ck0⟩ := own_nats' OSK.out hkj (clsL_get xs bs j l r hkj)
              cases hgz
              have HKEY := hid (show key (toN xs l) l (cls (enL bs) (toN xs l) l r) k = (cls (enL bs) (toN xs l) l r) k :: (List.range l).map (fun q => (cls (enL bs) (toN xs l) l r) (toN xs l k q)) from rfl)
              have HKS := hid (show (ksOf (toN xs l) l (cls (enL bs) (toN xs l) l r) (k + 1)) = addK (ksOf (toN xs l) l (cls (enL bs) (toN xs l) l r) k) (key (toN xs l) l (cls (enL bs) (toN xs l) l r) k) from rfl)
              have HRN := hid (show cls (enL bs) (toN xs l) l (r + 1) k = idxK (ksOf (toN xs l) l (cls (enL bs) (toN xs l) l r) k) (key (toN xs l) l (cls (enL bs) (toN xs l) l r) k) from rfl)
              have HSN := hid (range_snoc (cls (enL bs) (toN xs l) l (r + 1)) k)
              have hkjI : (k : Int) < (j : Int) := by omega
              generalize hc0 : (cls (enL bs) (toN xs l) l r) k = c0 at *
              go_wp2_with fail
              have K0 := hid (own_one wr 2 (.int .i64 (c0 : Int)))
              have D0 := hid (bel_al (Below.refl wr.heap.size wr) (Nat.le_refl _) (.cells #[.int .i64 (c0 : Int)] 2))
              have HKLEN := hid (fun a (ha : a < (ksOf (toN xs l) l (cls (enL bs) (toN xs l) l r) k).length) => show (kAt (ksOf (toN xs l) l (cls (enL bs) (toN xs l) l r) k) a).length = l + 1 from ksOf_klen _ _ _ _ _ ha)
              generalize hNX : (List.range k).map (cls (enL bs) (toN xs l) l (r + 1)) = NX at *
              generalize hKS : (ksOf (toN xs l) l (cls (enL bs) (toN xs l) l r) k) = ks at *
              clear hNX hKS ck0
              generalize wr = w3 at *
              generalize hb3 : w3.heap.size = b3 at *
              have K1 := hid (show (w3.alloc (.cells #[.int .i64 (c0 : Int)] 2)).ownsRow b3 2 1 (.slice (some ⟨b3, 0, none⟩) (0 + 1) 1) (0 + 1) (i64s (nats (c0 :: (List.range 0).map (fun t => (cls (enL bs) (toN xs l) l r) (toN xs l k t))))) from K0.out)
              clear K0
              generalize w3.alloc (.cells #[.int .i64 (c0 : Int)] 2) = v3 at *
              go_loopw [10, 11] (fun v10 i wy => ∃ (q gy cy : Nat), q ≤ l ∧ i = .int .i64 q ∧ v10 = .slice (some ⟨gy, 0, none⟩) (q + 1) cy ∧ Hid (wy.ownsRow b3 2 1 (.slice (some ⟨gy, 0, none⟩) (q + 1) cy) (q + 1) (i64s (nats (c0 :: (List.range q).map (fun t => (cls (enL bs) (toN xs l) l r) (toN xs l k t)))))) ∧ Hid (Below b3 w3 wy)) (fun _ i _ => l - (intOf i).toNat)
              case atStart => exact ⟨0, b3, 1, Nat.zero_le _, rfl, rfl, K1, D0⟩
              case round =>
                clear K1 D0
                obtain ⟨q, gy, cy, hq, rfl, rfl, KO, DB⟩ := hrel
                have PA3 := hid (PA2.out.keep fun o => DB.out.cell (p := ⟨b, o, none⟩) (show b < b3 by have := BEK.out.size; omega))
                have a13 := PA3.out.c1
                have hbw3 : b3 ≤ wr.heap.size := by have := DB.out.size; omega
                by_cases hql : q < l
                · obtain ⟨v, hv, he, ht⟩ := HP.out.to hkj hql
                  have hp1 : k * l + q < n := by rw [HP.out.ns]; exact idx_lt hkj hql
                  obtain ⟨i1, hi1⟩ : ∃ i1, i1 = k * l + q := ⟨_, rfl⟩
                  rw [← hi1] at he hp1
                  have hp2 : (i1 : Int) < (n : Int) := by omega
                  have hpl : i1 < xs.length := (List.getElem?_eq_some_iff.1 he).1
                  obtain ⟨b5, o5, rfl, hb5, e5⟩ := i64s_at (rd_step HL.out.a (BEK.out.trans (DB.out.mono (by have := BEK.out.size; omega)))) hpl
                  rw [(List.getElem?_eq_some_iff.1 he).2] at e5
                  have hg3 : g3 < b3 := by have := own_lt OSK.out; omega
                  have hvj : (v : Int) < (j : Int) := by omega
                  obtain ⟨gz, hgz, cv0⟩ := own_nats' (own_keep OSK.out (DB.out.block g3 hg3)) hv (clsL_get xs bs j l r hv)
                  cases hgz
                  have mc := mul_cast_small (a := k) (b := l) (k := q) (c := i1) (by omega) (by omega) (by omega) hi1
                  clear hi1
                  obtain ⟨W1, U1⟩ := mc.1
                  obtain ⟨W2, U2⟩ := mc.2.1
                  have HK2 := hid (show nats (c0 :: (List.range q).map (fun t => (cls (enL bs) (toN xs l) l r) (toN xs l k t))) ++ [(((cls (enL bs) (toN xs l) l r) v : Nat) : Int)] = nats (c0 :: (List.range (q + 1)).map (fun t => (cls (enL bs) (toN xs l) l r) (toN xs l k t))) by rw [List.range_succ, List.map_append, List.map_cons, List.map_nil, ht, ← List.cons_append]; simp [nats])
                  generalize hcv : (cls (enL bs) (toN xs l) l r) v = cv at *
                  have hbb3 : b5 < b3 := by
                    rcases HL.out.a with h0 | ⟨b6, o6, hA, hb6, _⟩
                    · have := congrArg List.length h0; simp at this; subst this; simp at hpl
                    · cases hA; have := BEK.out.size; omega
                  have HSF := hid (show ∀ w', Below b3 wr w' → (w'.cell? ⟨b, 1, none⟩ = some (.int .i64 (l : Int)) ∧ w'.cell? ⟨b, 2, none⟩ = some (.slice (some ⟨b5, o5, none⟩) n c) ∧ w'.cell? ⟨b5, o5 + i1, none⟩ = some (.int .i64 (v : Int)) ∧ w'.cell? ⟨g3, v, none⟩ = some (.int .i64 (cv : Int))) from fun w' hb4 => by
                    obtain ⟨x0, x1, x2, x3⟩ := PA3.out.keep fun o => hb4.cell (p := ⟨b, o, none⟩) (show b < b3 by have := BEK.out.size; omega)
                    exact ⟨x1, x2, (hb4.cell (p := ⟨b5, o5 + i1, none⟩) hbb3).trans e5, (hb4.cell (p := ⟨g3, v, none⟩) hg3).trans cv0⟩)
                  have B0 := hid (show Below b3 wr wr.drew from (Below.refl _ _).drew)
                  have B1 := hid (show Below b3 wr (wr.alloc (.cells #[.int .i64 (cv : Int)] 2)).drew from ((Below.refl _ _).alloc hbw3 _).drew)
                  clear cv0 e5 mc
                  go_wp2_with fail
                  generalize hKQ1 : (c0 :: (List.range (q + 1)).map (fun t => (cls (enL bs) (toN xs l) l r) (toN xs l k t))) = KQ1 at *
                  have HKQ1 := hid hKQ1
                  clear hKQ1
                  generalize (c0 :: (List.range q).map (fun t => (cls (enL bs) (toN xs l) l r) (toN xs l k t))) = KQ at *
                  have hv0 : (0 : Int) ≤ (v : Int) := by omega
                  go_region_held3 (fun w' => w'.cell? ⟨b, 1, none⟩ = some (.int .i64 (l : Int)) ∧ w'.cell? ⟨b, 2, none⟩ = some (.slice (some ⟨b5, o5, none⟩) n c) ∧ w'.cell? ⟨b5, o5 + i1, none⟩ = some (.int .i64 (v : Int)) ∧ w'.cell? ⟨g3, v, none⟩ = some (.int .i64 (cv : Int)))
                    (first | with_reducible exact HSF.out _ B0.out | with_reducible exact HSF.out _ B1.out | with_reducible exact HSF.out _ (bel_al B0.out hbw3 _) | with_reducible exact HSF.out _ B7.out | fail)
                    (first | (refine step_append_lies _ (by rfl) _ _ 22 (by rfl) b3 2 j0 (Value.int .i64 0) 1 8 Try.underlying22 hj0 hw0 hw1 hw2 rfl (by decide) (.slice (some ⟨gy, 0, none⟩) (q + 1) cy) (q + 1) (i64s (nats KQ)) (by rfl) (show ((wr.alloc (.cells #[.int .i64 (cv : Int)] 2)).drew).ownsRow _ _ _ _ _ _ from KO.out.alloc _) ⟨wr.heap.size, 0, none⟩ 1 1 [.int .i64 (cv : Int)] (by rfl) rfl (World.news_of_block (w := (wr.alloc (.cells #[.int .i64 (cv : Int)] 2)).drew) (heap_alloc_new wr (.cells #[.int .i64 (cv : Int)] 2))) (ints_oneCell .i64 [(cv : Int)]) (by decide) (by unfold maxLen; omega) (by omega) (Nat.le_trans hbw3 ((Below.refl wr.heap.size wr).alloc (Nat.le_refl _) _).size) (wr.heap.size + 1) (by show (wr.alloc (.cells #[.int .i64 (cv : Int)] 2)).heap.size = _; simp) ?_; intro g7 c7 w7 hown hgrow hat hlt7; have B7 := hid (B1.out.trans (app_belV (show ((wr.alloc (.cells #[.int .i64 (cv : Int)] 2)).drew).ownsRow _ _ _ _ _ _ from KO.out.alloc _) (Nat.le_trans hbw3 ((Below.refl wr.heap.size wr).alloc (Nat.le_refl _) _).size) hgrow)); have OW7 := hid (show w7.ownsRow b3 2 1 (.slice (some ⟨g7, 0, none⟩) (q + 1 + 1) c7) (q + 1 + 1) (i64s (nats KQ1)) by rw [show i64s (nats KQ) ++ [Value.int .i64 (cv : Int)] = i64s (nats KQ ++ [(cv : Int)]) by simp [i64s], HK2.out] at hown; exact hown); clear hown hgrow hat) | fail)
                  all_goals
                    go_wp2_with fail
                    go_roundw
                    case rel => exact ⟨q + 1, g7, c7, hql, by go_num, rfl, by rw [HKQ1.out]; exact OW7, DB.out.trans B7.out⟩
                    case measure =>
                      show l - ((q : Int) + 1).toNat < l - ((q : Int)).toNat
                      omega
                · obtain rfl : q = l := by omega
                  have HK3 := hid (show nats (c0 :: (List.range q).map (fun t => (cls (enL bs) (toN xs q) q r) (toN xs q k t))) = nats (key (toN xs q) q (cls (enL bs) (toN xs q) q r) k) by rw [HKEY.out])
                  rw [HK3.out] at KO
                  have HKL := hid (fun a (ha : a < ks.length) => HKLEN.out a ha)
                  have RN4 := hid (RN.out.step (hb3 ▸ DB.out))
                  have hgyb3 := Go.Proofs.Ytlfmcdobiojdlaa.fnExactOtherPlain.own_ge KO.out
                  have hgk3 := own_lt RN.out.krow
                  have hgx3 := own_lt RN.out.nrow
                  have hgyb : b2 ≤ gy := by omega
                  have hgyk : gy ≠ gk := by omega
                  have hgyx : gy ≠ gx := by omega
                  have KL4 := hid (show OwnL wr 2 1 (some ⟨gy, 0, none⟩) (q + 1) cy (nats (key (toN xs q) q (cls (enL bs) (toN xs q) q r) k)) from ⟨by have := KO.out.1; rw [i64s_length] at this; exact this, .inr ⟨gy, rfl, own_rebase KO.out⟩⟩)
                  clear KO DB RN PA3 hgyb3 hgk3 hgx3
                  go_wp2_with fail
                  go_loopw [12] (fun i wz => ∃ a : Nat, a ≤ idxK ks (key (toN xs q) q (cls (enL bs) (toN xs q) q r) k) ∧ i = .int .i64 a ∧ Hid (Rnd w2 wz b2 gk ck gx cx ks NX hs) ∧ Hid (OwnL wz 2 1 (some ⟨gy, 0, none⟩) (q + 1) cy (nats (key (toN xs q) q (cls (enL bs) (toN xs q) q r) k)))) (fun i _ => ks.length - (intOf i).toNat)
                  case atStart => exact ⟨0, Nat.zero_le _, rfl, RN4, KL4⟩
                  case round =>
                    clear RN4 KL4
                    obtain ⟨a, ha, rfl, RN5, KL5⟩ := hrel
                    have hkk : k ≤ 64 := by omega
                    by_cases hal : a < ks.length
                    · obtain ⟨g, cc, pc, ok⟩ := RN5.out.word hal
                      have EQX := hid (l02Equal_calls (some ⟨g, 0, none⟩) (some ⟨gy, 0, none⟩) (kAt ks a).length cc (q + 1) cy (nats (kAt ks a)) (nats (key (toN xs q) q (cls (enL bs) (toN xs q) q r) k)) (by simp [nats]) (by simp [nats, key_len]) (by have := HKL.out a hal; omega) (by omega) wr ok.rd KL5.out.rd)
                      have hali : (a : Int) < (ks.length : Int) := by omega
                      clear ok
                      go_wp2_with fail
                      refine EQX.out.mono ?_
                      rintro e w5 ⟨rfl, k1, h5⟩
                      have B5 := hid (show Below wr.heap.size wr w5 by rw [h5]; exact below_drewN (Below.refl _ _) _)
                      have RN6 := hid (RN5.out.step B5.out)
                      have KL6 := hid (KL5.out.step B5.out)
                      clear h5 pc EQX
                      rcases find_cases ks (key (toN xs q) q (cls (enL bs) (toN xs q) q r) k) ha hal with ⟨h1, h2, h3⟩ | ⟨h1, h2⟩
                      · have hd : decide (nats (kAt ks a) = nats (key (toN xs q) q (cls (enL bs) (toN xs q) q r) k)) = true := decide_eq_true (by rw [h2])
                        rw [hd]
                        have E2 := hid (show addK ks (key (toN xs q) q (cls (enL bs) (toN xs q) q r) k) = ks by unfold addK; rw [if_pos h3])
                        have hne : ((a : Int) == (ks.length : Int)) = false := by simp; omega
                        have H1 := hid h1
                        clear h1 h2 h3 hd ha
                        go_wp2_with (at_builtin; refine wpList_append_lies _ rfl _ _ 22 rfl b2 2 j0 (Value.int .i64 0) 1 8 Try.underlying22 hj0 hw0 hw1 hw2 rfl (by decide) (.slice (some ⟨gx, 0, none⟩) k cx) k (i64s (nats NX)) rfl ((hlen ▸ RN6.out.nrow).alloc _) ⟨w5.heap.size, 0, none⟩ 1 1 [.int .i64 (a : Int)] rfl rfl (cell_one_new _ _ _) (ints_oneCell .i64 [(a : Int)]) (by decide) (by unfold maxLen; omega) (by omega) (Nat.le_trans RN6.out.bw ((Below.refl w5.heap.size w5).alloc (Nat.le_refl _) _).size) (w5.heap.size + 1) (by simp) ?_; intro gx' cx' w9 hown hgrow hat hlt9; have R10 := hid (RN6.out.addNext (a := a) (by rw [hlen]; rw [show i64s (nats NX) ++ [Value.int .i64 (a : Int)] = i64s (nats (NX ++ [a])) by simp [i64s, nats]] at hown; exact hown) (grew_lies hgrow hat)); clear hown hgrow hat)
                        go_roundw
                        case rel => exact ⟨k + 1, gk, ck, gx', cx', hs, hkj, by go_num, by rw [HKS.out, E2.out], rfl, by rw [HKS.out, E2.out, HSN.out, HRN.out, ← H1.out]; exact R10⟩
                        case measure =>
                          show j - ((k : Int) + 1).toNat < j - ((k : Int)).toNat
                          omega
                      · have hd : decide (nats (kAt ks a) = nats (key (toN xs q) q (cls (enL bs) (toN xs q) q r) k)) = false := decide_eq_false (fun e => h2 (nats_inj e))
                        rw [hd]
                        clear h2 hd
                        go_wp2_with fail
                        go_roundw
                        case rel => exact ⟨a + 1, h1, by go_num, RN6, KL6⟩
                        case measure =>
                          show ks.length - ((a : Int) + 1).toNat < ks.length - ((a : Int)).toNat
                          omega
                    · have hae : a = ks.length := by
                        have : idxK ks (key (toN xs q) q (cls (enL bs) (toN xs q) q r) k) ≤ ks.length := List.findIdx_le_length
                        omega
                      obtain ⟨h1, h3⟩ := find_end ks (key (toN xs q) q (cls (enL bs) (toN xs q) q r) k) ha hae
                      have E2 := hid (show addK ks (key (toN xs q) q (cls (enL bs) (toN xs q) q r) k) = ks ++ [(key (toN xs q) q (cls (enL bs) (toN xs q) q r) k)] by unfold addK; rw [h3]; rfl)
                      have H1 := hid h1
                      have hali : ¬ (a : Int) < (ks.length : Int) := by omega
                      have hne : ((a : Int) == (ks.length : Int)) = true := by simp; omega
                      have HAE := hid hae
                      clear h1 h3 ha hae
                      go_wp2_with (first | (at_builtin; refine wpList_append_lies _ rfl _ _ 75 rfl b2 22 i1 (Value.slice none 0 0) 1 24 Try.underlying75 hi1 hz1 hz2 hz3 rfl (by decide) (.slice (some ⟨gk, 0, none⟩) ks.length ck) ks.length hs rfl (RN5.out.krow.alloc _) ⟨wr.heap.size, 0, none⟩ 1 1 [.slice (some ⟨gy, 0, none⟩) (q + 1) cy] rfl rfl (cell_one_new _ _ _) (by intro u hu; rw [List.mem_singleton.1 hu]; rfl) (by decide) (by unfold maxLen; omega) (by omega) (Nat.le_trans RN5.out.bw ((Below.refl wr.heap.size wr).alloc (Nat.le_refl _) _).size) (wr.heap.size + 1) (by simp) ?_; intro gk' ck' w8 hown hgrow hat hlt8; have R9 := hid (RN5.out.addKey KL5.out (by rw [key_len]) hgyb hgyk hgyx (own_lt_of KL5.out) hown (grew_lies hgrow hat)); clear hown hgrow hat) | (at_builtin; refine wpList_append_lies _ rfl _ _ 22 rfl b2 2 j0 (Value.int .i64 0) 1 8 Try.underlying22 hj0 hw0 hw1 hw2 rfl (by decide) (.slice (some ⟨gx, 0, none⟩) k cx) k (i64s (nats NX)) rfl ((hlen ▸ R9.out.nrow).alloc _) ⟨w8.heap.size, 0, none⟩ 1 1 [.int .i64 (a : Int)] rfl rfl (cell_one_new _ _ _) (ints_oneCell .i64 [(a : Int)]) (by decide) (by unfold maxLen; omega) (by omega) (Nat.le_trans R9.out.bw ((Below.refl w8.heap.size w8).alloc (Nat.le_refl _) _).size) (w8.heap.size + 1) (by simp) ?_; intro gx' cx' w9 hown hgrow hat hlt9; have R10 := hid (R9.out.addNext (a := a) (by rw [hlen]; rw [show i64s (nats NX) ++ [Value.int .i64 (a : Int)] = i64s (nats (NX ++ [a])) by simp [i64s, nats]] at hown; exact hown) (grew_lies hgrow hat)); clear hown hgrow hat))
                      go_roundw
                      case rel => exact ⟨k + 1, gk', ck', gx', cx', _, hkj, by go_num, by rw [HKS.out, E2.out]; simp, rfl, by rw [HKS.out, E2.out, HSN.out, HRN.out, ← H1.out]; exact R10⟩
                      case measure =>
                        show j - ((k : Int) + 1).toNat < j - ((k : Int)).toNat
                        omega
            · obtain rfl : k = j := by omega
              have ON := hid (show wr.ownsRow w.heap.size 2 1 (.slice (some ⟨gx, 0, none⟩) k cx) k (i64s (nats (clsL xs bs k l (r + 1)))) from by
                have h := RN.out.nrow
                rw [hlen] at h
                exact own_mono h hw2b)
              go_wp2_with fail
              go_roundw
              case rel => exact ⟨r + 1, gx, cx, hrs, by go_num, rfl, ON, BEK⟩
              case measure =>
                show k - ((r : Int) + 1).toNat < k - ((r : Int)).toNat
                omega
        · obtain rfl : r = j := by omega
          go_wp2_with fail
          go_ret
          exact ⟨g3, c3, rfl, OS.out, BE.out⟩
end Go.Proofs.Ytlfmcdobiojdlaa.fnExactLeastPlain
