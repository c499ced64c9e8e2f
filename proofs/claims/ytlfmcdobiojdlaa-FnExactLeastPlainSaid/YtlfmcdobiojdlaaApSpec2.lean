/-
  ApartWord, by the reference, over the search.
-/
import Derived.Test.YtlfmcdobiojdlaaApSpec
namespace Go.Proofs.Ytlfmcdobiojdlaa.fnExactApartWord
open Go.RowKit Go.Proofs.Fl Go.Proofs.Ytlfmcdobiojdlaa.Num Go.Proofs.Bfs
set_option linter.unusedVariables false
set_option linter.unusedSimpArgs false
/-- the word, if there is one, in a block of its own; nothing at all, if not -/
def RetAp2 (r : Option (List Int)) (w : World) (e : Ending) (w' : World) : Prop :=
  ∃ A n c, e = .returned (.tuple #[.slice A n c, .bool r.isSome]) ∧ Below w.heap.size w w' ∧ (∀ word, r = some word → n = word.length ∧ OwnL w' 2 1 A n c word ∧ Within w.heap.size w'.heap.size [rowN n A]) ∧ (r = none → n = 0)
theorem retAp_none {w w' : World} (hb : Below w.heap.size w w') : RetAp2 none w (.returned (.tuple #[.slice none 0 0, .bool false])) w' := ⟨none, 0, 0, rfl, hb, (fun word h => nomatch h), fun _ => rfl⟩
set_option maxHeartbeats 1600000 in
theorem spec_no (S L : Int) (A : Option Addr) (n c : Nat) (B : Option Addr) (m d : Nat) (xs : List Int) (hx : xs.length = n) (hn : n ≤ 1048576) (hm : m ≤ 1048576) (S' L' : Int) (A' : Option Addr) (n' c' : Nat) (B' : Option Addr) (m' d' : Nat) (xs' : List Int) (hx' : xs'.length = n') (hn' : n' ≤ 1048576) (hm' : m' ≤ 1048576) (w : World)
    (hl : Rd w w.heap.size A (i64s xs)) (hl' : Rd w w.heap.size A' (i64s xs')) (h : alikeP S L n xs m S' L' n' xs' m' = false) :
    Calls Try.prog 32 #[.agg #[.int .i64 S, .int .i64 L, .slice A n c, .slice B m d], .agg #[.int .i64 S', .int .i64 L', .slice A' n' c', .slice B' m' d']] w (RetAp2 none w) := by
  have HAL := hid (h ▸ fun b b' w hp ha hp' ha' => l02Alike_calls b b' S L A n c B m d xs hx hn hm S' L' A' n' c' B' m' d' xs' hx' hn' hm' w hp ha hp' ha')
  have HL := hid hl
  have HL' := hid hl'
  clear hl hl' h
  go_enter Try.func32, Try.ntmps32
  go_wp2_with fail
  refine (HAL.out w.heap.size (w.heap.size + 1) _ ⟨by go_simp, by go_simp, by go_simp, by go_simp⟩ (rd_alloc (rd_alloc HL.out _) _) ⟨by go_simp, by go_simp, by go_simp, by go_simp⟩ (rd_alloc (rd_alloc HL'.out _) _)).mono ?_
  rintro e w1 ⟨rfl, k1, rfl⟩
  go_wp2_with fail
  go_ret2
  exact retAp_none (below_drewN (((Below.refl w.heap.size w).alloc (Nat.le_refl _) _).alloc (by simp) _) _)
set_option maxHeartbeats 1600000 in
theorem spec_yes (s l : Nat) (A : Option Addr) (n c : Nat) (B : Option Addr) (m d : Nat) (xs : List Int) (bs : List Bool) (hP : Pl s l n xs m bs) (hn : n ≤ 1048576) (hm : m ≤ 1048576) (s' : Nat) (A' : Option Addr) (n' c' : Nat) (B' : Option Addr) (m' d' : Nat) (xs' : List Int) (bs' : List Bool) (hP' : Pl s' l n' xs' m' bs') (hn' : n' ≤ 1048576) (hm' : m' ≤ 1048576)
    (r : Option (List Int)) (hr : AnsS (nxA xs xs' l s') l (apA bs bs' s') r) (w : World) (hl : ListsP w A B xs bs) (hl' : ListsP w A' B' xs' bs') (h : alikeP s l n xs m s' l n' xs' m' = true) :
    Calls Try.prog 32 #[.agg #[.int .i64 s, .int .i64 l, .slice A n c, .slice B m d], .agg #[.int .i64 s', .int .i64 l, .slice A' n' c', .slice B' m' d']] w (RetAp2 r w) := by
  have HAL := hid (h ▸ fun b b' w hp ha hp' ha' => l02Alike_calls b b' s l A n c B m d xs hP.xl hn hm s' l A' n' c' B' m' d' xs' hP'.xl hn' hm' w hp ha hp' ha')
  have HAP := hid fun b b' w hp hp' hb hb' hl hl' => l02Apart_calls b b' s l A n c B m d xs bs hP s' A' n' c' B' m' d' xs' bs' hP' r hr w hp hp' hb hb' hl hl'
  have HL := hid hl
  have HL' := hid hl'
  clear hl hl' h hr hP hP'
  go_enter Try.func32, Try.ntmps32
  have BE := hid ((((Below.refl w.heap.size w).alloc (Nat.le_refl _) (.cells #[.int .i64 (s : Int), .int .i64 (l : Int), .slice A n c, .slice B m d] 31)).alloc (by simp) (.cells #[.int .i64 (s' : Int), .int .i64 (l : Int), .slice A' n' c', .slice B' m' d'] 31)))
  go_wp2_with fail
  refine (HAL.out w.heap.size (w.heap.size + 1) _ ⟨by go_simp, by go_simp, by go_simp, by go_simp⟩ (rd_alloc (rd_alloc HL.out.a _) _) ⟨by go_simp, by go_simp, by go_simp, by go_simp⟩ (rd_alloc (rd_alloc HL'.out.a _) _)).mono ?_
  rintro e w1 ⟨rfl, k1, rfl⟩
  go_wp2_with fail
  refine (HAP.out w.heap.size (w.heap.size + 1) _ ⟨by go_simp, by go_simp, by go_simp, by go_simp⟩ ⟨by go_simp, by go_simp, by go_simp, by go_simp⟩ (by simp; omega) (by simp) (((HL.out.alloc _).alloc _).drewN _) (((HL'.out.alloc _).alloc _).drewN _)).mono ?_
  rintro e w2 ⟨A9, n9, c9, rfl, bel, hw⟩
  have BEL := hid ((below_drewN BE.out k1).trans (bel.mono (by simp; omega)))
  have HW := hid hw
  clear bel hw
  cases r with
  | none =>
    go_wp2_with fail
    go_ret2
    exact retAp_none BEL.out
  | some word =>
    go_wp2_with fail
    go_ret2
    exact ⟨A9, n9, c9, rfl, BEL.out, (fun word' h => ⟨(HW.out word' h).1, (HW.out word' h).2.1, ((HW.out word' h).2.2).mono (by simp; omega) (Nat.le_refl _)⟩), fun h => nomatch h⟩
end Go.Proofs.Ytlfmcdobiojdlaa.fnExactApartWord
