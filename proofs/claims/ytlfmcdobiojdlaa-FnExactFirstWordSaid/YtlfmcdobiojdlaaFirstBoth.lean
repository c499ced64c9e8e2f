/-
  FirstWord, by both texts: a second plain machine is made in place, then the search of ApartWord.
-/
import Derived.Test.YtlfmcdobiojdlaaApImpl2
import Derived.Laws.MakeOwn
import Derived.Laws.OwnMore
import Derived.Deep.RegionHeld3
import Derived.Deep.CutRange
namespace Go.Proofs.Ytlfmcdobiojdlaa.fnExactFirstWord
open Go.RowKit Go.Proofs.Fl Go.Proofs.Ytlfmcdobiojdlaa.Num Go.Proofs.Bfs
open Go.Proofs.Ytlfmcdobiojdlaa.fnExactApartWord
set_option linter.unusedVariables false
set_option linter.unusedSimpArgs false
theorem i64s_zeros (l : Nat) : i64s (List.replicate l 0) = List.replicate l (Value.int .i64 0) := by unfold i64s; simp
/-- the machine with one state that reads nothing -/
theorem pl_one (l : Nat) (h1 : 1 ≤ l) (h2 : l ≤ 4) : Pl 1 l l (List.replicate l 0) 1 [false] :=
  ⟨by omega, by omega, h1, h2, by omega, rfl, by simp, rfl, fun j hj => ⟨0, by omega, by simp [hj]⟩⟩
theorem make_zeros (l : Nat) (hl : l ≤ 4) (Z : Array Value) (hZ : Z = madeCells #[.int .i64 0] l) : ∀ w : World, (Instr.makeSlice 22 (.int .i64 (l : Int)) (.int .i64 (l : Int))).run Try.prog w = .ok (.slice (some ⟨w.heap.size, 0, none⟩) l l) (w.alloc (.cells Z 2)) := by
  intro w
  obtain ⟨i0, hi0, hz0, hz1, hz2⟩ := info_parts toInt64S_info
  have h := run_make (P := Try.prog) w 22 2 i0 (.int .i64 0) Try.underlying22 hi0 hz0 .i64 .i64 (l : Int) (l : Int) (by omega) (by omega) (by rw [hz2]; omega) (by omega)
  rw [hz1, Int.toNat_natCast, Nat.mul_one] at h
  rw [hZ]
  exact h
theorem z_get {l : Nat} {Z : Array Value} (hZ : Z = madeCells #[.int .i64 0] l) {j : Nat} {u : Value} (h : (i64s (List.replicate l 0))[j]? = some u) : Z[j]? = some u := by
  rw [i64s_zeros, ← toList_madeCells_one, ← hZ] at h
  simpa using h
theorem bel_al2 {w w' : World} (h : Below w.heap.size w w') (o : Obj) : Below w.heap.size w (w'.alloc o) := h.alloc h.size o
theorem one_get {j : Nat} {u : Value} (h : (bools [false])[j]? = some u) : j = 0 ∧ u = .bool false := by
  cases j with
  | zero => exact ⟨rfl, (Option.some.inj h).symm⟩
  | succ j => cases h
theorem retF_none {w w' : World} (hb : Below w.heap.size w w') : RetAp2 none w (.returned (.tuple #[.slice none 0 0, .bool false])) w' := retAp_none hb
set_option maxHeartbeats 1600000 in
theorem spec_no (S L : Int) (A : Option Addr) (n c : Nat) (B : Option Addr) (m d : Nat) (xs : List Int) (hx : xs.length = n) (hn : n ≤ 1048576) (hm : m ≤ 1048576) (w : World) (hl : Rd w w.heap.size A (i64s xs)) (h : validP S L n xs m = false) :
    Calls Try.prog 36 #[.agg #[.int .i64 S, .int .i64 L, .slice A n c, .slice B m d]] w (RetAp2 none w) := by
  have HV := hid (h ▸ fun (b : Nat) (w : World) hp ha => l02Plain_calls b S L A n c B m d xs hx hn hm w hp ha)
  have HL := hid hl
  clear hl h hx
  go_enter Try.func36, Try.ntmps36
  go_wp2_with fail
  refine (HV.out w.heap.size _ ⟨by go_simp, by go_simp, by go_simp, by go_simp⟩ (rd_alloc HL.out _)).mono ?_
  rintro e w1 ⟨rfl, k1, rfl⟩
  go_wp2_with fail
  go_ret2
  exact retF_none (below_drewN ((Below.refl w.heap.size w).alloc (Nat.le_refl _) _) _)
set_option maxHeartbeats 6400000 in
theorem spec_yes (s l : Nat) (A : Option Addr) (n c : Nat) (B : Option Addr) (m d : Nat) (xs : List Int) (bs : List Bool) (hP : Pl s l n xs m bs) (hn : n ≤ 1048576) (hm : m ≤ 1048576)
    (r : Option (List Int)) (hr : AnsS (nxA xs (List.replicate l 0) l 1) l (apA bs [false] 1) r) (w : World) (hl : ListsP w A B xs bs) (h : validP s l n xs m = true) :
    Calls Try.prog 36 #[.agg #[.int .i64 (s : Int), .int .i64 (l : Int), .slice A n c, .slice B m d]] w (RetAp2 r w) := by
  have HV := hid (h ▸ fun (b : Nat) (w : World) hp ha => l02Plain_calls b s l A n c B m d xs hP.xl hn hm w hp ha)
  have HAP := hid (fun (b b' : Nat) (A' : Option Addr) (c' : Nat) (B' : Option Addr) (d' : Nat) (w : World) hp hp' hb hb' hl hl' => l02Apart_calls b b' s l A n c B m d xs bs hP 1 A' l c' B' 1 d' (List.replicate l 0) [false] (pl_one l hP.l1 hP.l2) r hr w hp hp' hb hb' hl hl')
  have HL := hid hl
  have hl1 := hP.l1
  have hl2 := hP.l2
  obtain ⟨Z, hZ⟩ : ∃ Z, Z = madeCells #[.int .i64 0] l := ⟨_, rfl⟩
  have hmk := make_zeros l hl2 Z hZ
  have HZ := hid hZ
  clear hl h hr hP hZ
  go_enter Try.func36, Try.ntmps36
  go_wp2_with fail
  refine (HV.out w.heap.size _ ⟨by go_simp, by go_simp, by go_simp, by go_simp⟩ (rd_alloc HL.out.a _)).mono ?_
  rintro e w1 ⟨rfl, k1, h1⟩
  have BEL := hid (show Below w.heap.size w w1 by rw [h1]; exact below_drewN ((Below.refl w.heap.size w).alloc (Nat.le_refl _) (.cells #[.int .i64 (s : Int), .int .i64 (l : Int), .slice A n c, .slice B m d] 31)) _)
  have PA := hid (show PlainAt w1 w.heap.size s l A n c B m d by rw [h1]; exact PlainAt.drewN ⟨by go_simp, by go_simp, by go_simp, by go_simp⟩ _)
  have s1 : w.heap.size + 1 = w1.heap.size := by rw [h1]; simp [World.drewN]
  clear h1 HV
  obtain ⟨a0, a1, a2, a3⟩ := PA.out
  have hneg : ¬ (l : Int) < 0 := by omega
  go_wp2_with fail
  go_cut [4] from 9 to 15 (fun v wx => ∃ bq bz bb : Nat, v = .pointer (some ⟨bq, 0, none⟩) ∧ w1.heap.size ≤ bq ∧ bq < wx.heap.size ∧ Hid (PlainAt wx bq 1 l (some ⟨bz, 0, none⟩) l l (some ⟨bb, 0, none⟩) 1 1) ∧ Hid (ListsP wx (some ⟨bz, 0, none⟩) (some ⟨bb, 0, none⟩) (List.replicate l 0) [false]) ∧ Hid (Below w1.heap.size w1 wx))
  case first =>
    have HSF := hid (show ∀ w', Below w1.heap.size w1 w' → w'.cell? ⟨w.heap.size, 1, none⟩ = some (.int .i64 (l : Int)) from fun w' hb => (hb.cell (p := ⟨w.heap.size, 1, none⟩) (by show w.heap.size < w1.heap.size; omega)).trans a1)
    have D0 := hid (Below.refl w1.heap.size w1)
    go_region_held3 (fun w' => w'.cell? ⟨w.heap.size, 1, none⟩ = some (.int .i64 (l : Int))) ((with_reducible refine HSF.out _ ?_; repeat (first | with_reducible exact D0.out | with_reducible refine Below.drew ?_ | with_reducible refine bel_al2 ?_ _ | (refine Below.setCell ?_ (by simp; try omega) _)))) (fail)
    · go_wp2_with fail
      go_meet
      case rel =>
        exact ⟨w1.heap.size + 1 + 1, w1.heap.size, w1.heap.size + 1, rfl, by omega, by simp, ⟨by go_simp, by go_simp, by go_simp, by go_simp⟩, ⟨.inr ⟨w1.heap.size, 0, rfl, by simp; omega, fun j u hu => by have hz := z_get HZ.out hu; rw [Nat.zero_add]; go_simp⟩, .inr ⟨w1.heap.size + 1, 0, rfl, by simp, fun j u hu => by obtain ⟨rfl, rfl⟩ := one_get hu; rw [Nat.zero_add]; go_simp⟩⟩, (bel_al2 (bel_al2 (bel_al2 (Below.refl _ _) _) _) _).drew⟩
    · go_wp2_with fail
      go_meet
      case rel =>
        exact ⟨w1.heap.size + 1, w1.heap.size, w1.heap.size + 1 + 1, rfl, by omega, by simp, ⟨by go_simp, by go_simp, by go_simp, by go_simp⟩, ⟨.inr ⟨w1.heap.size, 0, rfl, by simp; omega, fun j u hu => by have hz := z_get HZ.out hu; rw [Nat.zero_add]; go_simp⟩, .inr ⟨w1.heap.size + 1 + 1, 0, rfl, by simp, fun j u hu => by obtain ⟨rfl, rfl⟩ := one_get hu; rw [Nat.zero_add]; go_simp⟩⟩, (bel_al2 (bel_al2 (bel_al2 (Below.refl _ _) _) _) _).drew⟩
    · go_wp2_with fail
      go_meet
      case rel =>
        exact ⟨w1.heap.size + 1 + 1, w1.heap.size + 1, w1.heap.size, rfl, by omega, by simp, ⟨by go_simp, by go_simp, by go_simp, by go_simp⟩, ⟨.inr ⟨w1.heap.size + 1, 0, rfl, by simp, fun j u hu => by have hz := z_get HZ.out hu; rw [Nat.zero_add]; go_simp⟩, .inr ⟨w1.heap.size, 0, rfl, by simp; omega, fun j u hu => by obtain ⟨rfl, rfl⟩ := one_get hu; rw [Nat.zero_add]; go_simp⟩⟩, (bel_al2 (bel_al2 (bel_al2 (Below.refl _ _) _) _) _).drew⟩
    · go_wp2_with fail
      go_meet
      case rel =>
        exact ⟨w1.heap.size + 1, w1.heap.size + 1 + 1, w1.heap.size, rfl, by omega, by simp, ⟨by go_simp, by go_simp, by go_simp, by go_simp⟩, ⟨.inr ⟨w1.heap.size + 1 + 1, 0, rfl, by simp, fun j u hu => by have hz := z_get HZ.out hu; rw [Nat.zero_add]; go_simp⟩, .inr ⟨w1.heap.size, 0, rfl, by simp; omega, fun j u hu => by obtain ⟨rfl, rfl⟩ := one_get hu; rw [Nat.zero_add]; go_simp⟩⟩, (bel_al2 (bel_al2 (bel_al2 (Below.refl _ _) _) _) _).drew⟩
    · go_wp2_with fail
      go_meet
      case rel =>
        exact ⟨w1.heap.size, w1.heap.size + 1, w1.heap.size + 1 + 1, rfl, by omega, by simp; omega, ⟨by go_simp, by go_simp, by go_simp, by go_simp⟩, ⟨.inr ⟨w1.heap.size + 1, 0, rfl, by simp, fun j u hu => by have hz := z_get HZ.out hu; rw [Nat.zero_add]; go_simp⟩, .inr ⟨w1.heap.size + 1 + 1, 0, rfl, by simp, fun j u hu => by obtain ⟨rfl, rfl⟩ := one_get hu; rw [Nat.zero_add]; go_simp⟩⟩, (bel_al2 (bel_al2 (bel_al2 (Below.refl _ _) _) _) _).drew⟩
    · go_wp2_with fail
      go_meet
      case rel =>
        exact ⟨w1.heap.size, w1.heap.size + 1 + 1, w1.heap.size + 1, rfl, by omega, by simp; omega, ⟨by go_simp, by go_simp, by go_simp, by go_simp⟩, ⟨.inr ⟨w1.heap.size + 1 + 1, 0, rfl, by simp, fun j u hu => by have hz := z_get HZ.out hu; rw [Nat.zero_add]; go_simp⟩, .inr ⟨w1.heap.size + 1, 0, rfl, by simp, fun j u hu => by obtain ⟨rfl, rfl⟩ := one_get hu; rw [Nat.zero_add]; go_simp⟩⟩, (bel_al2 (bel_al2 (bel_al2 (Below.refl _ _) _) _) _).drew⟩
  case rest =>
    obtain ⟨bq, bz, bb, rfl, hq1, hq2, PQ, LQ, BX⟩ := hcut
    generalize wc = w2 at *
    have PA2 := hid (PA.out.step BX.out (by omega))
    have s2 := BX.out.size
    have BEL2 := hid (BEL.out.trans (BX.out.mono (by omega)))
    clear a0 a1 a2 a3 hmk
    obtain ⟨a0, a1, a2, a3⟩ := PA2.out
    obtain ⟨q0, q1, q2, q3⟩ := PQ.out
    go_wp2_with fail
    refine (HAP.out w.heap.size bq _ _ _ _ w2 PA2.out PQ.out (by omega) hq2 (HL.out.step BEL2.out) LQ.out).mono ?_
    rintro e w3 ⟨A9, n9, c9, rfl, bel, hw⟩
    have BEL3 := hid (BEL2.out.trans (bel.mono (by omega)))
    have HW := hid hw
    clear bel hw
    cases r with
    | none =>
      go_wp2_with fail
      go_ret2
      exact retF_none BEL3.out
    | some word =>
      go_wp2_with fail
      go_ret2
      exact ⟨A9, n9, c9, rfl, BEL3.out, (fun word' h => ⟨(HW.out word' h).1, (HW.out word' h).2.1, ((HW.out word' h).2.2).mono (by omega) (Nat.le_refl _)⟩), fun h => nomatch h⟩
set_option maxHeartbeats 1600000 in
theorem impl_no (S L : Int) (A : Option Addr) (n c : Nat) (B : Option Addr) (m d : Nat) (xs : List Int) (hx : xs.length = n) (hn : n ≤ 1048576) (hm : m ≤ 1048576) (w : World) (hl : Rd w w.heap.size A (i64s xs)) (h : validP S L n xs m = false) :
    Calls Try.prog 37 #[.agg #[.int .i64 S, .int .i64 L, .slice A n c, .slice B m d]] w (RetAp2 none w) := by
  have HV := hid (h ▸ fun (w : World) ha => implValid_calls S L A n c B m d xs hx hn hm w ha)
  have HL := hid hl
  clear hl h hx
  go_enter Try.func37, Try.ntmps37
  go_wp2_with fail
  refine (HV.out _ (rd_alloc HL.out _)).mono ?_
  rintro e w1 ⟨rfl, bel1⟩
  have BEL := hid (((Below.refl w.heap.size w).alloc (Nat.le_refl _) (.cells #[.int .i64 S, .int .i64 L, .slice A n c, .slice B m d] 31)).trans (bel1.mono (by simp)))
  clear bel1
  go_wp2_with fail
  go_ret2
  exact retF_none BEL.out
set_option maxHeartbeats 6400000 in
theorem impl_yes (s l : Nat) (A : Option Addr) (n c : Nat) (B : Option Addr) (m d : Nat) (xs : List Int) (bs : List Bool) (hP : Pl s l n xs m bs) (hn : n ≤ 1048576) (hm : m ≤ 1048576)
    (r : Option (List Int)) (hr : AnsI (nxA xs (List.replicate l 0) l 1) l (apA bs [false] 1) r) (w : World) (hl : ListsP w A B xs bs) (h : validP s l n xs m = true) :
    Calls Try.prog 37 #[.agg #[.int .i64 (s : Int), .int .i64 (l : Int), .slice A n c, .slice B m d]] w (RetAp2 r w) := by
  have HV := hid (h ▸ fun (w : World) ha => implValid_calls s l A n c B m d xs hP.xl hn hm w ha)
  have HAP := hid (fun (A' : Option Addr) (c' : Nat) (B' : Option Addr) (d' : Nat) (w : World) hl hl' => firstApart_calls s l A n c B m d xs bs hP 1 A' l c' B' 1 d' (List.replicate l 0) [false] (pl_one l hP.l1 hP.l2) r hr w hl hl')
  have HL := hid hl
  have hl1 := hP.l1
  have hl2 := hP.l2
  obtain ⟨Z, hZ⟩ : ∃ Z, Z = madeCells #[.int .i64 0] l := ⟨_, rfl⟩
  have hmk := make_zeros l hl2 Z hZ
  have HZ := hid hZ
  clear hl h hr hP hZ
  go_enter Try.func37, Try.ntmps37
  go_wp2_with fail
  refine (HV.out _ (rd_alloc HL.out.a _)).mono ?_
  rintro e w1 ⟨rfl, bel1⟩
  have hc := (old_cell bel1).1
  have s1 : w.heap.size + 1 ≤ w1.heap.size := by have := bel1.size; simp at this; omega
  have BEL := hid (((Below.refl w.heap.size w).alloc (Nat.le_refl _) (.cells #[.int .i64 (s : Int), .int .i64 (l : Int), .slice A n c, .slice B m d] 31)).trans (bel1.mono (by simp)))
  have PA := hid (show PlainAt w1 w.heap.size s l A n c B m d from ⟨by rw [hc _ _ (by simp)]; go_simp, by rw [hc _ _ (by simp)]; go_simp, by rw [hc _ _ (by simp)]; go_simp, by rw [hc _ _ (by simp)]; go_simp⟩)
  clear hc bel1 HV
  obtain ⟨a0, a1, a2, a3⟩ := PA.out
  have hneg : ¬ (l : Int) < 0 := by omega
  go_wp2_with fail
  go_cut [4] from 8 to 14 (fun v wx => ∃ bq bz bb : Nat, v = .pointer (some ⟨bq, 0, none⟩) ∧ w1.heap.size ≤ bq ∧ bq < wx.heap.size ∧ Hid (PlainAt wx bq 1 l (some ⟨bz, 0, none⟩) l l (some ⟨bb, 0, none⟩) 1 1) ∧ Hid (ListsP wx (some ⟨bz, 0, none⟩) (some ⟨bb, 0, none⟩) (List.replicate l 0) [false]) ∧ Hid (Below w1.heap.size w1 wx))
  case first =>
    have HSF := hid (show ∀ w', Below w1.heap.size w1 w' → w'.cell? ⟨w.heap.size, 1, none⟩ = some (.int .i64 (l : Int)) from fun w' hb => (hb.cell (p := ⟨w.heap.size, 1, none⟩) (by show w.heap.size < w1.heap.size; omega)).trans a1)
    have D0 := hid (Below.refl w1.heap.size w1)
    go_region_held3 (fun w' => w'.cell? ⟨w.heap.size, 1, none⟩ = some (.int .i64 (l : Int))) ((with_reducible refine HSF.out _ ?_; repeat (first | with_reducible exact D0.out | with_reducible refine Below.drew ?_ | with_reducible refine bel_al2 ?_ _ | (refine Below.setCell ?_ (by simp; try omega) _)))) (fail)
    · go_wp2_with fail
      go_meet
      case rel =>
        exact ⟨w1.heap.size + 1 + 1, w1.heap.size, w1.heap.size + 1, rfl, by omega, by simp, ⟨by go_simp, by go_simp, by go_simp, by go_simp⟩, ⟨.inr ⟨w1.heap.size, 0, rfl, by simp; omega, fun j u hu => by have hz := z_get HZ.out hu; rw [Nat.zero_add]; go_simp⟩, .inr ⟨w1.heap.size + 1, 0, rfl, by simp, fun j u hu => by obtain ⟨rfl, rfl⟩ := one_get hu; rw [Nat.zero_add]; go_simp⟩⟩, (bel_al2 (bel_al2 (bel_al2 (Below.refl _ _) _) _) _).drew⟩
    · go_wp2_with fail
      go_meet
      case rel =>
        exact ⟨w1.heap.size + 1, w1.heap.size, w1.heap.size + 1 + 1, rfl, by omega, by simp, ⟨by go_simp, by go_simp, by go_simp, by go_simp⟩, ⟨.inr ⟨w1.heap.size, 0, rfl, by simp; omega, fun j u hu => by have hz := z_get HZ.out hu; rw [Nat.zero_add]; go_simp⟩, .inr ⟨w1.heap.size + 1 + 1, 0, rfl, by simp, fun j u hu => by obtain ⟨rfl, rfl⟩ := one_get hu; rw [Nat.zero_add]; go_simp⟩⟩, (bel_al2 (bel_al2 (bel_al2 (Below.refl _ _) _) _) _).drew⟩
    · go_wp2_with fail
      go_meet
      case rel =>
        exact ⟨w1.heap.size + 1 + 1, w1.heap.size + 1, w1.heap.size, rfl, by omega, by simp, ⟨by go_simp, by go_simp, by go_simp, by go_simp⟩, ⟨.inr ⟨w1.heap.size + 1, 0, rfl, by simp, fun j u hu => by have hz := z_get HZ.out hu; rw [Nat.zero_add]; go_simp⟩, .inr ⟨w1.heap.size, 0, rfl, by simp; omega, fun j u hu => by obtain ⟨rfl, rfl⟩ := one_get hu; rw [Nat.zero_add]; go_simp⟩⟩, (bel_al2 (bel_al2 (bel_al2 (Below.refl _ _) _) _) _).drew⟩
    · go_wp2_with fail
      go_meet
      case rel =>
        exact ⟨w1.heap.size + 1, w1.heap.size + 1 + 1, w1.heap.size, rfl, by omega, by simp, ⟨by go_simp, by go_simp, by go_simp, by go_simp⟩, ⟨.inr ⟨w1.heap.size + 1 + 1, 0, rfl, by simp, fun j u hu => by have hz := z_get HZ.out hu; rw [Nat.zero_add]; go_simp⟩, .inr ⟨w1.heap.size, 0, rfl, by simp; omega, fun j u hu => by obtain ⟨rfl, rfl⟩ := one_get hu; rw [Nat.zero_add]; go_simp⟩⟩, (bel_al2 (bel_al2 (bel_al2 (Below.refl _ _) _) _) _).drew⟩
    · go_wp2_with fail
      go_meet
      case rel =>
        exact ⟨w1.heap.size, w1.heap.size + 1, w1.heap.size + 1 + 1, rfl, by omega, by simp; omega, ⟨by go_simp, by go_simp, by go_simp, by go_simp⟩, ⟨.inr ⟨w1.heap.size + 1, 0, rfl, by simp, fun j u hu => by have hz := z_get HZ.out hu; rw [Nat.zero_add]; go_simp⟩, .inr ⟨w1.heap.size + 1 + 1, 0, rfl, by simp, fun j u hu => by obtain ⟨rfl, rfl⟩ := one_get hu; rw [Nat.zero_add]; go_simp⟩⟩, (bel_al2 (bel_al2 (bel_al2 (Below.refl _ _) _) _) _).drew⟩
    · go_wp2_with fail
      go_meet
      case rel =>
        exact ⟨w1.heap.size, w1.heap.size + 1 + 1, w1.heap.size + 1, rfl, by omega, by simp; omega, ⟨by go_simp, by go_simp, by go_simp, by go_simp⟩, ⟨.inr ⟨w1.heap.size + 1 + 1, 0, rfl, by simp, fun j u hu => by have hz := z_get HZ.out hu; rw [Nat.zero_add]; go_simp⟩, .inr ⟨w1.heap.size + 1, 0, rfl, by simp, fun j u hu => by obtain ⟨rfl, rfl⟩ := one_get hu; rw [Nat.zero_add]; go_simp⟩⟩, (bel_al2 (bel_al2 (bel_al2 (Below.refl _ _) _) _) _).drew⟩
  case rest =>
    obtain ⟨bq, bz, bb, rfl, hq1, hq2, PQ, LQ, BX⟩ := hcut
    generalize wc = w2 at *
    have PA2 := hid (PA.out.step BX.out (by omega))
    have s2 := BX.out.size
    have BEL2 := hid (BEL.out.trans (BX.out.mono (by omega)))
    clear a0 a1 a2 a3 hmk
    obtain ⟨a0, a1, a2, a3⟩ := PA2.out
    obtain ⟨q0, q1, q2, q3⟩ := PQ.out
    go_wp2_with fail
    refine (HAP.out _ _ _ _ w2 (HL.out.step BEL2.out) LQ.out).mono ?_
    rintro e w3 ⟨A9, n9, c9, rfl, bel, hw, hw0⟩
    have BEL3 := hid (BEL2.out.trans (bel.mono (by omega)))
    have HW := hid hw
    clear bel hw
    go_wp2_with fail
    go_ret2
    exact ⟨A9, n9, c9, rfl, BEL3.out, (fun word' h => ⟨(HW.out word' h).1, (HW.out word' h).2.1, ((HW.out word' h).2.2).mono (by omega) (Nat.le_refl _)⟩), hw0⟩
end Go.Proofs.Ytlfmcdobiojdlaa.fnExactFirstWord
