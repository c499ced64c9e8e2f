/-
  Whether two machines can be met; a machine handed back if it is valid.
-/
import Derived.Test.YtenfleceeeimlaaMeetA
import Derived.Deep.RegionHeld3
namespace Go.Proofs.Ytenfleceeeimlaa.fnExactMeetOf
open Go.RowKit Go.Proofs.Fl Go.Proofs.Ytenfleceeeimlaa.Num
open Go.Proofs.Ytenfleceeeimlaa.fnExactBackOf (RetBM ownM_nil within_nil)
set_option linter.unusedVariables false
set_option linter.unusedSimpArgs false
section
variable (S L : Int) (A : Option Addr) (n c : Nat) (B : Option Addr) (m d : Nat) (C : Option Addr) (q f : Nat) (zs xs ys : List Int) (hF : Fits n m q zs xs ys)
  (S' L' : Int) (A' : Option Addr) (n' c' : Nat) (B' : Option Addr) (m' d' : Nat) (C' : Option Addr) (q' f' : Nat) (zs' xs' ys' : List Int) (hF' : Fits n' m' q' zs' xs' ys')
include hF hF'
set_option maxHeartbeats 3200000 in
theorem l02Two_calls (b b' : Nat) (w : World) (hp : MachAt w b S L A n c B m d C q f) (hp' : MachAt w b' S' L' A' n' c' B' m' d' C' q' f') (hb : b < w.heap.size) (hb' : b' < w.heap.size) (hl : Lists w A B C zs xs ys) (hl' : Lists w A' B' C' zs' xs' ys') :
    Calls Try.prog 44 #[.pointer (some ⟨b, 0, none⟩), .pointer (some ⟨b', 0, none⟩)] w (RetG (.bool (twoOk S L n zs m xs q ys S' L' n' zs' m' xs' q' ys')) w) := by
  have HP := hid hp
  have HP' := hid hp'
  have HLL := hid hl
  have HLL' := hid hl'
  have V1 := fun (v : Bool) (h : validM S L n zs m xs q ys = v) (w : World) (hp : MachAt w b S L A n c B m d C q f) (hb : b < w.heap.size) (hl : Lists w A B C zs xs ys) => h ▸ l02Is_calls b S L A n c B m d C q f zs xs ys hF w hp hb hl
  have V2 := fun (v : Bool) (h : validM S' L' n' zs' m' xs' q' ys' = v) (w : World) (hp : MachAt w b' S' L' A' n' c' B' m' d' C' q' f') (hb : b' < w.heap.size) (hl : Lists w A' B' C' zs' xs' ys') => h ▸ l02Is_calls b' S' L' A' n' c' B' m' d' C' q' f' zs' xs' ys' hF' w hp hb hl
  have a1 := show w.drew.cell? _ = _ from hp.c1
  have a1' := show w.drew.cell? _ = _ from hp'.c1
  have PD := hid hp.drew
  have PD' := hid hp'.drew
  have LD := hid hl.drew
  have LD' := hid hl'.drew
  have hbd : b < w.drew.heap.size := hb
  have hbd' : b' < w.drew.heap.size := hb'
  clear hp hp' hl hl' hF hF'
  cases h1 : validM S L n zs m xs q ys
  · have V1 := hid (V1 _ h1 w.drew PD.out hbd LD.out)
    rw [show twoOk S L n zs m xs q ys S' L' n' zs' m' xs' q' ys' = false by simp [twoOk, h1]]
    clear V2 h1
    go_enter Try.func44, Try.ntmps44
    go_wp2_with fail
    first | (go_region_with (first | (go_at_call_of 34 b; refine V1.out.mono ?_; rintro e w1 ⟨rfl, bel1⟩; have q1 := ((old_cell bel1).1 _ 1 hbd).trans a1; have q1' := ((old_cell bel1).1 _ 1 hbd').trans a1'; have BEL1 := hid bel1; clear bel1))) | fail
    all_goals
      go_wp2_with fail
      go_ret
      exact ⟨rfl, (Below.refl w.heap.size w).drew.trans BEL1.out⟩
  have V1 := hid (V1 _ h1 w.drew PD.out hbd LD.out)
  cases h2 : validM S' L' n' zs' m' xs' q' ys'
  · have V2 := hid (V2 _ h2)
    rw [show twoOk S L n zs m xs q ys S' L' n' zs' m' xs' q' ys' = false by simp [twoOk, h2]]
    clear h1 h2
    go_enter Try.func44, Try.ntmps44
    go_wp2_with fail
    first | (go_region_with (first | (go_at_call_of 34 b; refine V1.out.mono ?_; rintro e w1 ⟨rfl, bel1⟩; have q1 := ((old_cell bel1).1 _ 1 hbd).trans a1; have q1' := ((old_cell bel1).1 _ 1 hbd').trans a1'; have ltb : b < w1.heap.size := Nat.lt_of_lt_of_le hbd bel1.size; have ltb' : b' < w1.heap.size := Nat.lt_of_lt_of_le hbd' bel1.size; have BEL1 := hid bel1; clear bel1) | (go_at_call_of 34 b'; refine (V2.out _ (PD'.out.step BEL1.out hbd') ltb' (LD'.out.step BEL1.out)).mono ?_; rintro e w2 ⟨rfl, bel2⟩; have r1 := ((old_cell bel2).1 _ 1 ltb).trans q1; have r1' := ((old_cell bel2).1 _ 1 ltb').trans q1'; have BEL2 := hid bel2; clear bel2))) | fail
    all_goals
      go_wp2_with fail
      go_ret
      exact ⟨rfl, (Below.refl w.heap.size w).drew.trans (BEL1.out.trans (BEL2.out.mono BEL1.out.size))⟩
  have V2 := hid (V2 _ h2)
  rw [show twoOk S L n zs m xs q ys S' L' n' zs' m' xs' q' ys' = (L == L') by unfold twoOk; rw [h1, h2]; rfl]
  clear h1 h2
  go_enter Try.func44, Try.ntmps44
  go_wp2_with fail
  first | (go_region_held3 (fun w' => w'.cell? ⟨b, 1, none⟩ = some (.int .i64 L) ∧ w'.cell? ⟨b', 1, none⟩ = some (.int .i64 L')) (first | with_reducible exact ⟨a1, a1'⟩ | with_reducible exact ⟨q1, q1'⟩ | with_reducible exact ⟨r1, r1'⟩) (first | (go_at_call_of 34 b; refine V1.out.mono ?_; rintro e w1 ⟨rfl, bel1⟩; have q1 := ((old_cell bel1).1 _ 1 hbd).trans a1; have q1' := ((old_cell bel1).1 _ 1 hbd').trans a1'; have ltb : b < w1.heap.size := Nat.lt_of_lt_of_le hbd bel1.size; have ltb' : b' < w1.heap.size := Nat.lt_of_lt_of_le hbd' bel1.size; have BEL1 := hid bel1; clear bel1) | (go_at_call_of 34 b'; refine (V2.out _ (PD'.out.step BEL1.out hbd') ltb' (LD'.out.step BEL1.out)).mono ?_; rintro e w2 ⟨rfl, bel2⟩; have r1 := ((old_cell bel2).1 _ 1 ltb).trans q1; have r1' := ((old_cell bel2).1 _ 1 ltb').trans q1'; have BEL2 := hid bel2; clear bel2))) | fail
  all_goals
    go_wp2_with fail
    go_ret
    exact ⟨rfl, (Below.refl w.heap.size w).drew.trans (BEL1.out.trans (BEL2.out.mono BEL1.out.size))⟩
end
end Go.Proofs.Ytenfleceeeimlaa.fnExactMeetOf
