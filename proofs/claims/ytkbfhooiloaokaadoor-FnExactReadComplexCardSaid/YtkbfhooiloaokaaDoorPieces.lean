/-
  The pieces of a text between commas (the program's pieces), by the library's contract.
-/
import Derived.Test.YtkbfhooiloaokaaDoorCut
import Derived.Test.YtkbfhooiloaokaaDoorShelfSplit
namespace Go.Proofs.YtkbfhooiloaokaaDoor.Num
open Go.RowKit Go.Proofs.Fl Go.Proofs.Tx
set_option linter.unusedVariables false
set_option linter.unusedSimpArgs false
/-- the library's variable that the search reads holds some number, whatever is done from block B on -/
def MaxL (B : Nat) (w : World) : Prop := ∃ m, ∀ w', Below B w w' → w'.cell? ⟨6, 0, none⟩ = some (.int .i64 m)
theorem MaxL.on {B : Nat} {w w1 : World} (h : MaxL B w) (hb : Below B w w1) : MaxL B w1 := h.imp fun m h w' h' => h w' (hb.trans h')
theorem MaxL.of {w : World} (h : ∃ m, w.cell? ⟨6, 0, none⟩ = some (.int .i64 m)) : MaxL w.heap.size w := h.imp fun m h w' hb => by
  have hlt : 6 < w.heap.size := World.block_lt_of_cell? w _ h
  exact (hb.cell (p := ⟨6, 0, none⟩) hlt).trans h
theorem own_many {w : World} {e : Nat} (xs : List Value) (n : Nat) (hn : xs.length = n) (hm : n ≤ maxLen) : (w.alloc (.cells xs.toArray e)).ownsRow w.heap.size e 1 (.slice (some ⟨w.heap.size, 0, none⟩) n n) n xs := by
  subst hn
  exact ⟨by simp, .inr ⟨w.heap.size, xs.length, xs.toArray, rfl, Nat.le_refl _, heap_alloc_new w _, Nat.le_refl _, hm, by simp, by simp⟩⟩
def ps (l : List UInt8) : List (List UInt8) := if l = none4 then [] else cut l
theorem ps_len (l : List UInt8) : (ps l).length ≤ l.length + 1 := by
  unfold ps
  split
  · simp
  · exact cut_len l
theorem strs_data (xs : List ByteArray) : xs.map Value.string = strs (xs.map (·.data.toList)) := by
  unfold strs
  rw [List.map_map]
  refine List.map_congr_left fun x _ => ?_
  simp
theorem split_told (s : ByteArray) : (Lib.splitB ⟨#[44]⟩ 0 (Lib.countB s ⟨#[44]⟩) s).map (·.data.toList) = cut s.data.toList := by
  rw [Lib.splitB_data]
  exact split_cut s.data.toList
theorem split_len (s : ByteArray) : Lib.countB s ⟨#[44]⟩ + 1 = (cut s.data.toList).length := by
  rw [← split_told s, List.length_map, Lib.splitB_all ⟨#[44]⟩ (by decide) 0 _ s rfl]
theorem none_eq (s : ByteArray) (h : s.data.toList = none4) : s = ⟨#[110, 111, 110, 101]⟩ := by
  rw [← Lib.mk_data s, h]
  rfl
theorem none_ne (s : ByteArray) (h : s.data.toList ≠ none4) : s ≠ ⟨#[110, 111, 110, 101]⟩ := by
  rintro rfl
  exact h rfl
theorem pieces_calls (s : ByteArray) (hs : s.size ≤ 1048576) (w : World) {B : Nat} (hM : MaxL B w) :
    Calls Tryd.prog 52 #[.string s] w (RetT (ps s.data.toList) w) := by
  by_cases hn : s.data.toList = none4
  · have HP := hid (show ps s.data.toList = [] by unfold ps; rw [if_pos hn])
    obtain rfl := none_eq s hn
    clear hn hM
    go_enter Tryd.func52, Tryd.ntmps52
    go_wp2
    go_ret
    exact ⟨none, 0, by rw [HP.out]; rfl, by rw [HP.out]; exact World.ownsRow_nil _ _ _ _, Below.refl _ _⟩
  · have HP := hid (show ps s.data.toList = cut s.data.toList by unfold ps; rw [if_neg hn])
    have hne : (s.toList == [110, 111, 110, 101]) = false := by rw [ByteArray.toList_eq]; simpa [none4] using hn
    obtain ⟨m, hm⟩ := hM
    have HS := hid (Tryd.strings_Split s ⟨#[44]⟩ m w (by omega) (hm w (Below.refl _ _)) (by decide))
    clear hm hn
    go_enter Tryd.func52, Tryd.ntmps52
    go_wp2_with (go_at_call 69; refine HS.out.mono ?_; rintro e w1 ⟨rfl, rfl⟩)
    go_ret
    refine ⟨some ⟨w.heap.size, 0, none⟩, Lib.countB s ⟨#[44]⟩ + 1, by rw [HP.out, ← split_len]; rfl, ?_, (Below.refl _ _).alloc (Nat.le_refl _) _⟩
    rw [HP.out, ← split_len]
    have hl := split_len s
    have hcl := cut_len s.data.toList
    have hsz : s.data.toList.length = s.size := by simp
    unfold OwnT
    rw [← split_told, ← strs_data]
    exact own_many _ _ (by rw [List.length_map, Lib.splitB_all ⟨#[44]⟩ (by decide) 0 _ s rfl]) (by unfold maxLen; omega)
end Go.Proofs.YtkbfhooiloaokaaDoor.Num
