/-
  The law on DotNumbers: both texts add the products from left to right, up to 256 numbers of two lists of one length; the arguments' copies are left as they were.
-/
import Derived.Test.YtpdenbflibplfaaDot
import Derived.Test.YtpdenbflibplfaaFew
import Derived.Test.YtpdenbflibplfaaToF32
import Derived.Test.YtpdenbflibplfaaEqF32
namespace Go.Proofs.Ytpdenbflibplfaa.fnExactDotNumbers
open Go.RowKit Go.Proofs.Fl Go.Proofs.Ytpdenbflibplfaa.Num
set_option linter.unusedVariables false

def okD (n m : Nat) : Bool := decide (n ≤ 256) && decide (n = m)
def dotR (n m : Nat) (xs ys : List Nat) : Nat := if okD n m = true then dotF xs ys 0 else 0
theorem spec_calls (A B : Option Addr) (n m c d : Nat) (xs ys : List Nat) (hx : xs.length = n) (hy : ys.length = m) (w : World) (ha : Rd w w.heap.size A (f32s xs)) (hb : Rd w w.heap.size B (f32s ys)) :
    Calls Try.prog 21 #[.slice A n c, .slice B m d] w (RetFB .f32 (dotR n m xs ys) (okD n m) w) := by
  have HX := hid hx
  have HY := hid hy
  clear hx hy
  by_cases h : n ≤ 256
  · have HD := hid (show decide (n ≤ 256) = true by simp [h])
    by_cases hm : n = m
    · subst hm
      have HB := hid (show okD n n = true by simp [okD, h])
      have HR := hid (show dotR n n xs ys = dotF xs ys 0 by simp [dotR, HB.out])
      go_enter Try.func21, Try.ntmps21
      go_wp2_with (first | (go_at_call 57; refine (l01Few_is _ _ _ true HD.out _).mono ?_; rintro e w' ⟨rfl, q, rfl⟩) | (go_at_call 58; refine (l01Dot_calls A B n c d xs ys HX.out HY.out (by omega) _ (ha.drewN _) (hb.drewN _)).mono ?_; rintro e w' ⟨v, q2, rfl, hv, rfl⟩))
      go_ret2
      exact ⟨v, _, by rw [HB.out]; rfl, by rw [HR.out]; exact hv, rfl⟩
    · have HB := hid (show okD n m = false by simp [okD, hm])
      have HR := hid (show dotR n m xs ys = 0 by simp [dotR, HB.out])
      have h2 : ((n : Int) != (m : Int)) = true := by rw [bne_iff_ne]; omega
      clear hm
      go_enter Try.func21, Try.ntmps21
      go_wp2_with (first | (go_at_call 57; refine (l01Few_is _ _ _ true HD.out _).mono ?_; rintro e w' ⟨rfl, q, rfl⟩))
      go_ret2
      exact ⟨0, _, by rw [HB.out]; rfl, by rw [HR.out]; exact FEq.refl _ _, rfl⟩
  · have HD := hid (show decide (n ≤ 256) = false by simp [h])
    have HB := hid (show okD n m = false by simp [okD, h])
    have HR := hid (show dotR n m xs ys = 0 by simp [dotR, HB.out])
    go_enter Try.func21, Try.ntmps21
    go_wp2_with (first | (go_at_call 57; refine (l01Few_is _ _ _ false HD.out _).mono ?_; rintro e w' ⟨rfl, q, rfl⟩))
    go_ret2
    exact ⟨0, _, by rw [HB.out]; rfl, by rw [HR.out]; exact FEq.refl _ _, rfl⟩
theorem impl_calls (A B : Option Addr) (n m c d : Nat) (xs ys : List Nat) (hx : xs.length = n) (hy : ys.length = m) (w : World) (ha : Rd w w.heap.size A (f32s xs)) (hb : Rd w w.heap.size B (f32s ys)) :
    Calls Try.prog 23 #[.slice A n c, .slice B m d] w (RetFB .f32 (dotR n m xs ys) (okD n m) w) := by
  by_cases h : n ≤ 256 ∧ n = m
  · obtain ⟨h1, rfl⟩ := h
    have HB := show okD n n = true by simp [okD, h1]
    have HR := show dotR n n xs ys = dotF xs ys 0 by simp [dotR, HB]
    rw [HR, HB]
    exact DotNumbers_yes A B n c d xs ys hx hy h1 w ha hb
  · have HB := show okD n m = false by simp [okD]; omega
    have HR := show dotR n m xs ys = 0 by simp [dotR, HB]
    rw [HR, HB]
    exact DotNumbers_no A B n m c d (by omega) w
set_option maxHeartbeats 1600000 in
theorem walk (A : Option Addr) (n c : Nat) (xs : List Nat) (hx : xs.length = n) (hnc : n ≤ c) (hc : c ≤ maxLen) {w : World} (ha : Rd w w.heap.size A (f32s xs)) (hwf : ∀ z ∈ xs, (Lit.float .f32 z).wf = true)
    (B : Option Addr) (m d : Nat) (ys : List Nat) (hy : ys.length = m) (hmd : m ≤ d) (hd : d ≤ maxLen) (hb : Rd w w.heap.size B (f32s ys)) (hwf' : ∀ z ∈ ys, (Lit.float .f32 z).wf = true) :
    Calls Try.prog 5 #[.slice A n c, .slice B m d] w fun e w' => e = .returned (.bool true) ∧ Below w.heap.size w w' := by
  have HX := hid hx
  have HY := hid hy
  unfold maxLen at hc hd
  clear hx hy hwf hwf'
  by_cases hn : n ≤ 1048576
  · by_cases hm : m ≤ 1048576
    · go_enter Try.func5, Try.ntmps5
      go_wp2_with fail
      refine (toFloat32S_calls A n c xs HX.out hn _ ha).mono ?_
      rintro e w1 ⟨g1, rfl, own1, bel1⟩
      have BEL1 := hid bel1
      have ha1 := hid (show Rd w1 w1.heap.size A (f32s xs) from (ha.below bel1).more bel1.size)
      have hb1 := hid (show Rd w1 w1.heap.size B (f32s ys) from (hb.below bel1).more bel1.size)
      have hx1 := hid (show Rd w1 w1.heap.size (some ⟨g1, 0, none⟩) (f32s xs) from Rd.of_own own1)
      clear own1 bel1
      go_wp2_with fail
      refine (toFloat32S_calls B m d ys HY.out hm _ hb1.out).mono ?_
      rintro e w2 ⟨g2, rfl, own2, bel2⟩
      have BEL2 := hid (show Below w.heap.size w w2 from BEL1.out.trans (bel2.mono BEL1.out.size))
      have ha2 := hid (show Rd w2 w2.heap.size A (f32s xs) from (ha1.out.below bel2).more bel2.size)
      have hb2 := hid (show Rd w2 w2.heap.size B (f32s ys) from (hb1.out.below bel2).more bel2.size)
      have hx2 := hid (show Rd w2 w2.heap.size (some ⟨g1, 0, none⟩) (f32s xs) from (hx1.out.below bel2).more bel2.size)
      have hy2 := hid (show Rd w2 w2.heap.size (some ⟨g2, 0, none⟩) (f32s ys) from Rd.of_own own2)
      clear own2 bel2 BEL1 ha1 hb1 hx1
      go_wp2_with fail
      refine (spec_calls _ _ n m _ _ xs ys HX.out HY.out _ hx2.out hy2.out).mono ?_
      rintro e w' ⟨v3, n3, rfl, hf3, rfl⟩
      have HF3 := hid hf3
      clear hf3 hx2 hy2
      go_wp2_with fail
      refine (toFloat32S_calls A n c xs HX.out hn _ (ha2.out.drewN _)).mono ?_
      rintro e w4 ⟨g4, rfl, own4, bel4⟩
      have BEL4 := hid (show Below w.heap.size w w4 from (below_drewN BEL2.out n3).trans (bel4.mono BEL2.out.size))
      have ha4 := hid (show Rd w4 w4.heap.size A (f32s xs) from ((ha2.out.drewN n3).below bel4).more bel4.size)
      have hb4 := hid (show Rd w4 w4.heap.size B (f32s ys) from ((hb2.out.drewN n3).below bel4).more bel4.size)
      have hx4 := hid (show Rd w4 w4.heap.size (some ⟨g4, 0, none⟩) (f32s xs) from Rd.of_own own4)
      clear own4 bel4 BEL2 ha2 hb2
      go_wp2_with fail
      refine (toFloat32S_calls B m d ys HY.out hm _ hb4.out).mono ?_
      rintro e w5 ⟨g5, rfl, own5, bel5⟩
      have BEL5 := hid (show Below w.heap.size w w5 from BEL4.out.trans (bel5.mono BEL4.out.size))
      have ha5 := hid (show Rd w5 w5.heap.size A (f32s xs) from (ha4.out.below bel5).more bel5.size)
      have hb5 := hid (show Rd w5 w5.heap.size B (f32s ys) from (hb4.out.below bel5).more bel5.size)
      have hx5 := hid (show Rd w5 w5.heap.size (some ⟨g4, 0, none⟩) (f32s xs) from (hx4.out.below bel5).more bel5.size)
      have hy5 := hid (show Rd w5 w5.heap.size (some ⟨g5, 0, none⟩) (f32s ys) from Rd.of_own own5)
      clear own5 bel5 BEL4 ha4 hb4 hx4
      go_wp2_with fail
      refine (impl_calls _ _ n m _ _ xs ys HX.out HY.out _ hx5.out hy5.out).mono ?_
      rintro e w' ⟨v6, n6, rfl, hf6, rfl⟩
      have HF6 := hid (hf6.trans HF3.out.symm)
      clear hf6 HF3
      go_wp2_with (first | (refine wpList_wide rfl rfl (by kernel_rfl) Try.underlying26 ?_; intro v q hv) | (go_at_call 18; refine (sameFloat_calls _ _ (wide_same HF6.out (by assumption) (by assumption)) _).mono ?_; rintro e w' ⟨rfl, n7, rfl⟩))
      refine (toFloat32S_calls A n c xs HX.out hn _ (ha5.out.drewN _)).mono ?_
      rintro e w8 ⟨g8, rfl, own8, bel8⟩
      have BEL8 := hid (show Below w.heap.size w w8 from (below_drewN BEL5.out _).trans (bel8.mono BEL5.out.size))
      have hb8 := hid (show Rd w8 w8.heap.size B (f32s ys) from ((hb5.out.drewN _).below bel8).more bel8.size)
      have hx8 := hid (show Rd w8 w8.heap.size (some ⟨g4, 0, none⟩) (f32s xs) from ((hx5.out.drewN _).below bel8).more bel8.size)
      have hy8 := hid (show Rd w8 w8.heap.size (some ⟨g5, 0, none⟩) (f32s ys) from ((hy5.out.drewN _).below bel8).more bel8.size)
      have hz8 := hid (show Rd w8 w8.heap.size (some ⟨g8, 0, none⟩) (f32s xs) from Rd.of_own own8)
      clear own8 bel8 BEL5 ha5 hb5 hx5 hy5
      go_wp2_with (go_at_call 24; refine (eqFloat32S_yes _ _ n _ _ xs xs HX.out HX.out hn _ hx8.out hz8.out (fun i h1 h2 => FEq.refl _ _)).mono ?_; rintro e w' ⟨rfl, n9, rfl⟩)
      refine (toFloat32S_calls B m d ys HY.out hm _ (hb8.out.drewN _)).mono ?_
      rintro e w10 ⟨g10, rfl, own10, bel10⟩
      have BEL10 := hid (show Below w.heap.size w w10 from (below_drewN BEL8.out _).trans (bel10.mono BEL8.out.size))
      have hy10 := hid (show Rd w10 w10.heap.size (some ⟨g5, 0, none⟩) (f32s ys) from ((hy8.out.drewN _).below bel10).more bel10.size)
      have hz10 := hid (show Rd w10 w10.heap.size (some ⟨g10, 0, none⟩) (f32s ys) from Rd.of_own own10)
      clear own10 bel10 BEL8 hb8 hx8 hy8 hz8
      go_wp2_with (go_at_call 24; refine (eqFloat32S_yes _ _ m _ _ ys ys HY.out HY.out hm _ hy10.out hz10.out (fun i h1 h2 => FEq.refl _ _)).mono ?_; rintro e w' ⟨rfl, n11, rfl⟩)
      go_ret
      exact ⟨rfl, below_drewN BEL10.out _⟩
    · go_enter Try.func5, Try.ntmps5
      go_wp2
      go_ret
      exact ⟨rfl, Below.refl _ _⟩
  · go_enter Try.func5, Try.ntmps5
    go_wp2
    go_ret
    exact ⟨rfl, Below.refl _ _⟩
end Go.Proofs.Ytpdenbflibplfaa.fnExactDotNumbers
