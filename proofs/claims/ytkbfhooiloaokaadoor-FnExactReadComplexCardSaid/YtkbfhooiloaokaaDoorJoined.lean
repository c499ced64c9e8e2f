/-
  Lists of texts that a call owns; texts joined by commas (joined), by the library's contract.
-/
import Derived.Test.YtkbfhooiloaokaaDoorDecW
import Derived.Test.YtkbfhooiloaokaaDoorTextsLaw
import Derived.Test.YtkbfhooiloaokaaDoorShelfJoin
namespace Go.Proofs.YtkbfhooiloaokaaDoor.Num
open Go.RowKit Go.Proofs.Fl Go.Proofs.Tx
open Go.Lib (join)
set_option linter.unusedVariables false
set_option linter.unusedSimpArgs false
theorem str_info : (Tryd.prog.info? 9).map (fun i => (i.zero, i.size, i.bytes)) = some (some (Value.string ByteArray.empty), 1, 16) := by kernel_rfl
theorem strs_oneCell (ts : List (List UInt8)) : ∀ u ∈ strs ts, u.oneCell' = true := by
  intro u hu
  obtain ⟨b, _, rfl⟩ := List.mem_map.1 hu
  rfl
theorem strs_snoc (ts : List (List UInt8)) (t : List UInt8) : strs ts ++ [.string ⟨t.toArray⟩] = strs (ts ++ [t]) := by simp [strs]
/-- a list of texts that a call owns -/
def OwnT (w : World) (B : Nat) (v : Value) (k : Nat) (ts : List (List UInt8)) : Prop := w.ownsRow B 9 1 v k (strs ts)
theorem OwnT.len {w : World} {B k : Nat} {v : Value} {ts : List (List UInt8)} (h : OwnT w B v k ts) : ts.length = k := by
  have := h.1
  rw [strs_length] at this
  omega
theorem map_data (ts : List (List UInt8)) : (ts.map fun t => (⟨t.toArray⟩ : ByteArray)).map (·.data.toList) = ts := by
  rw [List.map_map]
  conv => rhs; rw [← List.map_id ts]
  refine List.map_congr_left fun t _ => ?_
  simp
theorem Join_calls (g c : Nat) (ts : List (List UInt8)) (k B : Nat) (w : World) (h : OwnT w B (.slice (some ⟨g, 0, none⟩) k c) k ts) (hlen : (join ts [44]).length ≤ 140737488355328) (hk : k ≤ 1048576) :
    Calls Tryd.prog 66 #[.slice (some ⟨g, 0, none⟩) k c, .string ⟨#[44]⟩] w (RetStr (join ts [44]) w) := by
  obtain rfl := h.len
  have hcells : ∀ (j : Nat) x, (ts.map fun t => (⟨t.toArray⟩ : ByteArray))[j]? = some x → w.cell? ⟨g, 0 + j, none⟩ = some (.string x) := by
    intro j x hx
    have hj : j < ts.length := by have := (List.getElem?_eq_some_iff.1 hx).1; simpa using this
    rw [Nat.zero_add, World.ownsRow.cellAt h j (by omega)]
    rw [List.getElem?_map] at hx
    unfold strs
    rw [List.getElem?_map]
    cases ht : ts[j]? with
    | none => rw [ht] at hx; cases hx
    | some t => rw [ht] at hx; simp only [Option.map_some, Option.some.injEq] at hx ⊢; rw [hx]
  have hlt : g < w.heap.size := (World.ownsRow.lt h g rfl).2
  have hcap : ts.length ≤ c := own_cap h
  have hm : (ts.map fun t => (⟨t.toArray⟩ : ByteArray)).length = ts.length := by simp
  have := Tryd.strings_Join g 0 c (ts.map fun t => (⟨t.toArray⟩ : ByteArray)) ⟨#[44]⟩ w hcells hlt (by rw [hm]; omega) (by rw [hm]; exact hcap) (by rw [map_data]; exact hlen)
  rw [map_data, hm] at this
  exact this
theorem joined_calls (A : Option Addr) (c : Nat) (ts : List (List UInt8)) (k B : Nat) (w : World) (h : OwnT w B (.slice A k c) k ts) (hlen : (join ts [44]).length ≤ 140737488355328) (hk : k ≤ 1048576) :
    Calls Tryd.prog 49 #[.slice A k c] w (RetStr (textJ ts) w) := by
  by_cases h0 : k = 0
  · subst h0
    have HT := hid (show textJ ts = none4 by rw [List.length_eq_zero_iff.1 h.len]; rfl)
    clear h hlen
    go_enter Tryd.func49, Tryd.ntmps49
    go_wp2
    go_ret
    exact ⟨by rw [HT.out]; rfl, Below.refl _ _⟩
  · obtain ⟨g, c', he, _⟩ : ∃ g cap, (Value.slice A k c) = .slice (some ⟨g, 0, none⟩) k cap ∧ k ≤ cap := by
      obtain ⟨k', rfl⟩ : ∃ k', k = k' + 1 := ⟨k - 1, by omega⟩
      exact own_succ1 h
    simp only [Value.slice.injEq, true_and] at he
    obtain ⟨rfl, rfl⟩ := he
    have HJ := hid (Join_calls g c ts k B w h hlen hk)
    have HT := hid (show textJ ts = join ts [44] by unfold textJ; rw [if_neg (by intro e; have := h.len; subst e; simp at this; omega)])
    have hk0 : ((k : Int) == 0) = false := by simp; omega
    clear h hlen
    go_enter Tryd.func49, Tryd.ntmps49
    go_wp2_with (go_at_call 66; refine HJ.out.mono ?_; rintro e w1 ⟨rfl, hb⟩; have HB := hid hb; clear hb)
    go_ret
    exact ⟨by rw [HT.out]; rfl, HB.out⟩
end Go.Proofs.YtkbfhooiloaokaaDoor.Num
