/-
  Whether two plain machines are valid and have equal letters, by the reference; a place in a list of numbers.
-/
import Derived.Test.YtlfmcdobiojdlaaNewP
import Derived.BigQuiet
import Derived.Deep.QuietTactic
import Derived.Deep.RegionWith
namespace Go.Proofs.Ytlfmcdobiojdlaa.Num
open Go.RowKit Go.Proofs.Fl
set_option linter.unusedVariables false
set_option linter.unusedSimpArgs false
def alikeP (S L : Int) (n : Nat) (xs : List Int) (m : Nat) (S' L' : Int) (n' : Nat) (xs' : List Int) (m' : Nat) : Bool := validP S L n xs m && validP S' L' n' xs' m' && decide (L = L')
set_option maxHeartbeats 3200000 in
theorem l02Alike_calls (b b' : Nat) (S L : Int) (A : Option Addr) (n c : Nat) (B : Option Addr) (m d : Nat) (xs : List Int) (hx : xs.length = n) (hn : n ≤ 1048576) (hm : m ≤ 1048576) (S' L' : Int) (A' : Option Addr) (n' c' : Nat) (B' : Option Addr) (m' d' : Nat) (xs' : List Int) (hx' : xs'.length = n') (hn' : n' ≤ 1048576) (hm' : m' ≤ 1048576) (w : World)
    (hp : PlainAt w b S L A n c B m d) (ha : Rd w w.heap.size A (i64s xs)) (hp' : PlainAt w b' S' L' A' n' c' B' m' d') (ha' : Rd w w.heap.size A' (i64s xs')) :
    Calls Try.prog 61 #[.pointer (some ⟨b, 0, none⟩), .pointer (some ⟨b', 0, none⟩)] w (Ret (.bool (alikeP S L n xs m S' L' n' xs' m')) w) := by
  have V1 := fun (v : Bool) (h : validP S L n xs m = v) (k : Nat) => h ▸ l02Plain_calls b S L A n c B m d xs hx hn hm (w.drewN k) (hp.drewN k) (ha.drewN k)
  have V2 := fun (v : Bool) (h : validP S' L' n' xs' m' = v) (k : Nat) => h ▸ l02Plain_calls b' S' L' A' n' c' B' m' d' xs' hx' hn' hm' (w.drewN k) (hp'.drewN k) (ha'.drewN k)
  have c1 := hp.c1
  have c1' := hp'.c1
  unfold alikeP
  clear hp hp' ha ha'
  cases h1 : validP S L n xs m
  · have V1 := hid (V1 _ h1)
    clear V2 h1
    go_enter Try.func61, Try.ntmps61
    go_wp2_with fail
    go_quiet ((go_at_call_of 48 b; exact Calls.quiet_of (V1.out _)))
    go_wp2
    go_ret
    exact ⟨rfl, _, rfl⟩
  have V1 := hid (V1 _ h1)
  cases h2 : validP S' L' n' xs' m'
  · have V2 := hid (V2 _ h2)
    clear h1 h2
    go_enter Try.func61, Try.ntmps61
    go_wp2_with fail
    go_quiet ((first | (go_at_call_of 48 b; exact Calls.quiet_of (V1.out _)) | (go_at_call_of 48 b'; exact Calls.quiet_of (V2.out _))))
    go_wp2
    go_ret
    exact ⟨rfl, _, rfl⟩
  have V2 := hid (V2 _ h2)
  clear h1 h2
  rw [show (true && true && decide (L = L')) = (L == L') by simp [BEq.beq]]
  go_enter Try.func61, Try.ntmps61
  go_wp2_with fail
  go_quiet ((first | (go_at_call_of 48 b; exact Calls.quiet_of (V1.out _)) | (go_at_call_of 48 b'; exact Calls.quiet_of (V2.out _))))
  go_wp2
  go_ret
  exact ⟨rfl, _, rfl⟩
end Go.Proofs.Ytlfmcdobiojdlaa.Num
