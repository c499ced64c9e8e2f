/-
  The law on ReadComplex: both texts read the list; the program's list is its own.
-/
import Derived.Test.YtkbfhooiloaokaaDoorRdCS
import Derived.Test.YtkbfhooiloaokaaDoorRdCW
import Derived.Test.YtkbfhooiloaokaaDoorEqC
import Derived.Test.YtkbfhooiloaokaaDoorMarkC
namespace Go.Proofs.YtkbfhooiloaokaaDoor.fnExactReadComplex
open Go.RowKit Go.Proofs.Fl Go.Proofs.YtkbfhooiloaokaaDoor.Num Go.Proofs.Hx Go.Proofs.Tx
set_option linter.unusedVariables false
set_option maxRecDepth 100000 in
set_option maxHeartbeats 1600000 in
theorem walk (s : ByteArray) (hs : s.size ≤ maxLen) (w : World) (hL : Lib4 w.heap.size w) : Calls Tryd.prog 9 #[.string s] w fun e w' => e = .returned (.bool true) ∧ Below w.heap.size w w' := by
  by_cases hlen : s.size ≤ 1048576
  · have HC := hid (sReadComplex_calls s hlen w)
    have HD := hid (fun w' (h : Below w.heap.size w w') => ReadComplex_calls s hlen w' h.size (hL.on h))
    have hrl := readC_len s.data.toList
    have hsl : s.data.toList.length = s.size := by simp
    clear hL
    unfold maxLen at hs
    generalize readC s.data.toList = r at *
    obtain ⟨zs, hzs⟩ : ∃ zs, r.getD [] = zs := ⟨_, rfl⟩
    obtain ⟨n, hn⟩ : ∃ n, zs.length = n := ⟨_, rfl⟩
    obtain ⟨b, hb⟩ : ∃ b, r.isSome = b := ⟨_, rfl⟩
    unfold RetV at HC HD
    rw [hzs, c64s_length, hn, hb] at HC
    simp only [hzs, c64s_length, hn, hb] at HD
    rw [hzs, hn] at hrl
    have HN := hid hn
    clear hzs hn hb
    go_enter Tryd.func9, Tryd.ntmps9
    go_wp2_with (go_at_call 30; refine HC.out.mono ?_; rintro e w1 ⟨A0, c0, rfl, o0, l0, b0⟩; have O0 := hid o0; have B1 := hid b0; clear o0 l0 b0; refine Hid.out ?_)
    refine hid ?_
    go_wp2_with (go_at_call 31; refine (HD.out _ B1.out).mono ?_; rintro e w2 ⟨A1, c1, rfl, o1, l1, b1⟩; have O1 := hid o1; have L1 := hid l1; have B2 := hid b1; clear o1 l1 b1; refine Hid.out ?_)
    refine hid ?_
    have O02 := hid (O0.out.step B2.out)
    have B2w := hid (B1.out.trans (B2.out.mono B1.out.size))
    go_wp2_with (go_at_call 32; refine (eqComplex64S_yes _ _ n _ _ zs HN.out (by omega) _ O1.out.rd O02.out.rd).mono ?_; rintro e w3 ⟨rfl, n3, rfl⟩; refine Hid.out ?_)
    refine hid ?_
    go_wp2_with (go_at_call 33; refine (markComplex64S_calls _ n _ zs 1 (by omega) (by omega) (w2.drewN n3) O1.out).mono ?_; rintro e w4 ⟨rfl, m4, k4, z4⟩; have M4 := hid m4; have K4 := hid k4; have Z4 := hid z4; clear m4 k4 z4; refine Hid.out ?_)
    refine hid ?_
    have hb4 : Below w1.heap.size (w2.drewN n3) w4 := K4.out.below B2.out.size (fun r hr g hg => by
      simp only [List.mem_cons, List.not_mem_nil, or_false] at hr
      subst hr
      exact L1.out g hg)
    have B14 := hid (show Below w1.heap.size w1 w4 from (below_drewN B2.out n3).trans hb4)
    have O04 := hid (O0.out.step B14.out)
    have B4w := hid (B1.out.trans (B14.out.mono B1.out.size))
    clear hb4 B14 O0 O02 O1 L1 B2 B2w K4 Z4
    go_wp2_with (go_at_call 34; refine (heldComplex64S_calls _ n _ 1 (by omega) (by omega) w4 M4.out.rd).mono ?_; rintro e w5 ⟨rfl, n5, rfl⟩; refine Hid.out ?_)
    refine hid ?_
    go_wp2_with (go_at_call 31; refine (HD.out _ (below_drewN B4w.out n5)).mono ?_; rintro e w6 ⟨A2, c2, rfl, o6, l6, b6⟩; have O6 := hid o6; have B6 := hid (show Below w4.heap.size w4 w6 from below_drewN' b6); clear o6 l6 b6; refine Hid.out ?_)
    refine hid ?_
    have O06 := hid (O04.out.step B6.out)
    have M6 := hid (M4.out.step B6.out)
    have B6w := hid (B4w.out.trans (B6.out.mono B4w.out.size))
    clear O04 M4 B6 B4w B1
    go_wp2_with (first | (go_at_call 32; refine (eqComplex64S_yes _ _ n _ _ zs HN.out (by omega) _ O6.out.rd O06.out.rd).mono ?_; rintro e w7 ⟨rfl, n7, rfl⟩) | (go_at_call 34; refine (heldComplex64S_calls _ n _ 1 (by omega) (by omega) _ (M6.out.rd.drewN _)).mono ?_; rintro e w8 ⟨rfl, n8, rfl⟩))
    go_ret
    exact ⟨rfl, below_drewN B6w.out _⟩
  · unfold maxLen at hs
    go_enter Tryd.func9, Tryd.ntmps9
    go_wp2
    go_ret
    exact ⟨rfl, Below.refl _ _⟩
end Go.Proofs.YtkbfhooiloaokaaDoor.fnExactReadComplex
