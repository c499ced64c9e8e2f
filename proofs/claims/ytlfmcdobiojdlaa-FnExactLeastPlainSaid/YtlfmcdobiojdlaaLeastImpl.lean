/-
  LeastPlain, by the program, over explore.
-/
import Derived.Test.YtlfmcdobiojdlaaClsWalk
import Derived.Test.YtlfmcdobiojdlaaLeastSpec
import Derived.BigQuiet
import Derived.Deep.QuietTactic
import Derived.Deep.RegionHeld3
namespace Go.Proofs.Ytlfmcdobiojdlaa.fnExactLeastPlain
open Go.RowKit Go.Proofs.Fl Go.Proofs.Ytlfmcdobiojdlaa.Num Go.Proofs.Exp
open Go.Proofs.Ytlfmcdobiojdlaa.fnExactApartWord (Pl toN step_of bel_al)
open Go.Proofs.Ytlfmcdobiojdlaa.fnExactOtherPlain (RetBP ownP_nil within_nil)
set_option linter.unusedVariables false
set_option linter.unusedSimpArgs false
section
variable {s l : Nat} {A : Option Addr} {n c : Nat} {B : Option Addr} {m d : Nat} {xs : List Int} {bs : List Bool}
theorem mem_first (h : Pl s l n xs m bs) {cc : Nat} (hc : cc < nCl xs bs s l) : (clsL xs bs s l s)[memF xs bs s l cc]? = some cc ∧ ∀ j y, j < memF xs bs s l cc → (clsL xs bs s l s)[j]? = some y → y ≠ cc := by
  obtain ⟨m1, m2⟩ := mem_spec h hc
  refine ⟨by rw [clsL_get xs bs s l s m1]; exact congrArg some m2, fun j y hj hy e => ?_⟩
  have hjs : j < (clsL xs bs s l s).length := (List.getElem?_eq_some_iff.1 hy).1
  have := List.not_of_lt_findIdx (xs := clsL xs bs s l s) (p := (· == cc)) (i := j) hj
  rw [(List.getElem?_eq_some_iff.1 hy).2] at this
  simp [e] at this
set_option maxHeartbeats 1600000 in
theorem member_calls (h : Pl s l n xs m bs) (g gc : Nat) (w : World) (hg : OwnI w g s (nats (clsL xs bs s l s))) (hgc : w.cell? ⟨gc, 0, none⟩ = some (.slice (some ⟨g, 0, none⟩) s s)) (cc : Nat) (hc : cc < nCl xs bs s l) :
    Calls Try.prog 70 #[.int .i64 (cc : Int), .pointer (some ⟨gc, 0, none⟩)] w (Ret (.int .i64 ((memF xs bs s l cc : Nat) : Int)) w) := by
  have hs2 := h.s2
  obtain ⟨f1, f2⟩ := mem_first h hc
  have HI := hid (index_calls (some ⟨g, 0, none⟩) s s (clsL xs bs s l s) (clsL_len _ _ _ _ _) (by omega) cc (memF xs bs s l cc) (mem_spec h hc).1 f1 f2 w hg.rd)
  clear f1 f2 h hg
  go_enter Try.func70, Try.ntmps70
  go_wp2_with fail
  refine HI.out.mono ?_
  rintro e w1 ⟨rfl, k, hk⟩
  go_wp2_with fail
  go_ret
  exact ⟨rfl, k, rfl⟩
set_option maxHeartbeats 1600000 in
theorem least3_calls (h : Pl s l n xs m bs) (g gc pa gm : Nat) (w : World) (hg : OwnI w g s (nats (clsL xs bs s l s))) (hgc : w.cell? ⟨gc, 0, none⟩ = some (.slice (some ⟨g, 0, none⟩) s s)) (hpa : PlainAt w pa s l A n c B m d) (hgm : w.cell? ⟨gm, 0, none⟩ = some (.func (.func 70) #[] #[.pointer (some ⟨gc, 0, none⟩)])) (hb : Rd w w.heap.size B (bools bs)) (cc : Nat) (hc : cc < nCl xs bs s l) :
    Calls Try.prog 74 #[.int .i64 (cc : Int), .pointer (some ⟨pa, 0, none⟩), .pointer (some ⟨gm, 0, none⟩)] w (fun e w' => e = .returned (.bool (enC xs bs s l cc)) ∧ Below w.heap.size w w') := by
  obtain ⟨m1, m2⟩ := mem_spec h hc
  have hmb : memF xs bs s l cc < bs.length := by have h1 := h.bl; have h2 := h.ms; omega
  have hmm : ((memF xs bs s l cc : Nat) : Int) < (m : Int) := by have h2 := h.ms; omega
  have HEN := hid (show enC xs bs s l cc = bs[memF xs bs s l cc] by unfold enC enL; simp [List.getD_eq_getElem?_getD, hmb])
  obtain ⟨b1, o1, rfl, hb1, e1⟩ := bools_at hb hmb
  have HM := hid (fun nq => member_calls h g gc (w.drewN nq) (hg.drewN nq) hgc cc hc)
  obtain ⟨a0, a1, a2, a3⟩ := hpa
  rw [HEN.out]
  generalize bs[memF xs bs s l cc] = p at *
  generalize memF xs bs s l cc = mm at *
  clear h hg hb m2 HEN
  go_enter Try.func74, Try.ntmps74
  go_wp2_with fail
  go_quiet ((go_at_call 70; exact Calls.quiet_of (HM.out _)))
  go_wp2_with fail
  go_ret
  exact ⟨rfl, below_drewN (Below.refl _ _) _⟩
set_option maxHeartbeats 3200000 in
theorem least2_calls (h : Pl s l n xs m bs) (g gc pa gm : Nat) (w : World) (hg : OwnI w g s (nats (clsL xs bs s l s))) (hgc : w.cell? ⟨gc, 0, none⟩ = some (.slice (some ⟨g, 0, none⟩) s s)) (hgl : gc < w.heap.size) (hpa : PlainAt w pa s l A n c B m d) (hpl : pa < w.heap.size) (hgm : w.cell? ⟨gm, 0, none⟩ = some (.func (.func 70) #[] #[.pointer (some ⟨gc, 0, none⟩)])) (hml : gm < w.heap.size) (ha : Rd w w.heap.size A (i64s xs)) (cc j : Nat) (hc : cc < nCl xs bs s l) (hj : j < l) :
    Calls Try.prog 72 #[.int .i64 (cc : Int), .int .i64 (j : Int), .pointer (some ⟨gc, 0, none⟩), .pointer (some ⟨pa, 0, none⟩), .pointer (some ⟨gm, 0, none⟩)] w (fun e w' => e = .returned (.int .i64 ((nxL xs bs s l cc j : Nat) : Int)) ∧ Below w.heap.size w w') := by
  obtain ⟨m1, m2⟩ := mem_spec h hc
  obtain ⟨so, hvs⟩ := step_of h m1 hj
  have hn1 : n ≤ 1048576 := by have := h.ns; have := Nat.mul_le_mul h.s2 h.l2; omega
  have HNX := hid (show nxL xs bs s l cc j = clF xs bs s l (toN xs l (memF xs bs s l cc) j) from rfl)
  have HM := hid (fun w hg hgc => member_calls h g gc w hg hgc cc hc)
  have cv := hg.cell hvs
  rw [nats_getD _ _ _ (clsL_get xs bs s l s hvs), show Cls.cls (enL bs) (toN xs l) l s (toN xs l (memF xs bs s l cc) j) = nxL xs bs s l cc j from HNX.out.symm] at cv
  have HT := hid (fun w' ha => to_calls s l A n c B m d xs h.xl hn1 (memF xs bs s l cc) j _ _ so w' ha)
  have OG := hid hg
  have HA := hid ha
  have PA := hid hpa
  have hgs := hg.lt
  clear m2 so h hg ha HNX hpa
  generalize nxL xs bs s l cc j = nxt at *
  generalize toN xs l (memF xs bs s l cc) j = v at *
  generalize memF xs bs s l cc = mm at *
  have hvI : (v : Int) < (s : Int) := Int.ofNat_lt.2 hvs
  have HSF := hid (show ∀ w', Below w.heap.size w w' → (w'.cell? ⟨gc, 0, none⟩ = some (.slice (some ⟨g, 0, none⟩) s s) ∧ w'.cell? ⟨pa, 0, none⟩ = some (.int .i64 (s : Int)) ∧ w'.cell? ⟨pa, 1, none⟩ = some (.int .i64 (l : Int)) ∧ w'.cell? ⟨pa, 2, none⟩ = some (.slice A n c) ∧ w'.cell? ⟨pa, 3, none⟩ = some (.slice B m d) ∧ w'.cell? ⟨gm, 0, none⟩ = some (.func (.func 70) #[] #[.pointer (some ⟨gc, 0, none⟩)]) ∧ w'.cell? ⟨g, v, none⟩ = some (.int .i64 (nxt : Int))) from fun w' hb => by
    obtain ⟨x0, x1, x2, x3⟩ := PA.out.step hb hpl
    exact ⟨(hb.cell (p := ⟨gc, 0, none⟩) hgl).trans hgc, x0, x1, x2, x3, (hb.cell (p := ⟨gm, 0, none⟩) hml).trans hgm, (hb.cell (p := ⟨g, v, none⟩) hgs).trans cv⟩)
  have D0 := hid (show Below w.heap.size w w.drew from (Below.refl _ _).drew)
  obtain ⟨x0, x1, x2, x3⟩ := PA.out
  go_enter Try.func72, Try.ntmps72
  go_wp2_with fail
  go_region_held3 (fun w' => w'.cell? ⟨gc, 0, none⟩ = some (.slice (some ⟨g, 0, none⟩) s s) ∧ w'.cell? ⟨pa, 0, none⟩ = some (.int .i64 (s : Int)) ∧ w'.cell? ⟨pa, 1, none⟩ = some (.int .i64 (l : Int)) ∧ w'.cell? ⟨pa, 2, none⟩ = some (.slice A n c) ∧ w'.cell? ⟨pa, 3, none⟩ = some (.slice B m d) ∧ w'.cell? ⟨gm, 0, none⟩ = some (.func (.func 70) #[] #[.pointer (some ⟨gc, 0, none⟩)]) ∧ w'.cell? ⟨g, v, none⟩ = some (.int .i64 (nxt : Int)))
    (first | with_reducible exact HSF.out _ D0.out | with_reducible exact HSF.out _ DA.out | with_reducible exact HSF.out _ DB.out | fail)
    (first | (go_at_call 70; refine (HM.out _ (OG.out.step D0.out) (HSF.out _ D0.out).1).mono ?_; rintro e wa ⟨rfl, k1, hk1⟩; have DA := hid (show Below w.heap.size w wa by rw [hk1]; exact below_drewN D0.out _); clear hk1) | (go_at_call 56; refine (HT.out _ (rd_step HA.out DA.out)).mono ?_; rintro e wb ⟨rfl, bb⟩; have DB := hid (DA.out.trans (bb.mono DA.out.size)); clear bb) | fail)
  all_goals
    go_wp2_with fail
    go_ret
    exact ⟨rfl, DB.out⟩
end
end Go.Proofs.Ytlfmcdobiojdlaa.fnExactLeastPlain
