/-
  A map block told by its entries, in the order in which they were put: looking up, putting a new key. Over no program.
-/
import Derived.Maps.Own
import Derived.Maps.OwnSet
import Derived.WalkKit
namespace Go.Proofs.Fl
open Go Go.RowKit Go.Maps Go.ChangeMaps Go.MapKept
open Go.Maps (Keyed)
set_option linter.unusedVariables false
/-- block b is a map with these entries -/
def MapIs (w : World) (b : Nat) (kvs : List (Value × Value)) : Prop := ∃ (es : Array MapEntry) (clock : Nat), w.heap[b]? = some (.map es clock) ∧ es.toList.map (fun e => (e.key, e.val)) = kvs
/-- all keys are keys of type k -/
def KeysOk (P : Program) (k : TypeId) (kvs : List (Value × Value)) : Prop := ∀ p ∈ kvs, ∃ l, keyOf P k p.1 = some l
section
variable {P : Program} {k e t : TypeId} {w : World} {b : Nat} {kvs : List (Value × Value)}
theorem MapIs.lt (h : MapIs w b kvs) : b < w.heap.size := by
  obtain ⟨es, clock, hb, _⟩ := h
  exact (Array.getElem?_eq_some_iff.1 hb).1
theorem MapIs.keep {w' : World} (h : MapIs w b kvs) (hk : w'.heap[b]? = w.heap[b]?) : MapIs w' b kvs := by
  obtain ⟨es, clock, hb, he⟩ := h
  exact ⟨es, clock, hk.trans hb, he⟩
theorem MapIs.made (w : World) : MapIs (w.alloc (.map #[] 0)) w.heap.size [] := ⟨#[], 0, heap_alloc_new _ _, rfl⟩
theorem keys_es {es : Array MapEntry} (he : es.toList.map (fun e => (e.key, e.val)) = kvs) (hk : KeysOk P k kvs) : ∀ e ∈ es.toList, ∃ l, keyOf P k e.key = some l := fun x hx => hk (x.key, x.val) (by rw [← he]; exact List.mem_map.2 ⟨x, hx, rfl⟩)
theorem MapIs.look_no (h : MapIs w b kvs) (K : Keyed P k) (ht : P.underlying t = some (.map k e)) (hk : KeysOk P k kvs) {z : Value} (hz : (zeroValue e).run P w = .ok z w) {key : Value} {kl : Lit} (hkey : keyOf P k key = some kl) (hno : ∀ p ∈ kvs, p.1 ≠ key) (c : Bool) :
    (Instr.lookup t (.map (some b)) key c).run P w = .ok (if c then .tuple #[z, .bool false] else z) w := by
  obtain ⟨es, clock, hb, he⟩ := h
  rcases K.find w hkey es.toList (keys_es he hk) with ⟨h1, h2⟩ | ⟨j, e0, h1, h2, h3⟩
  · simp [Instr.lookup, run_underlying ht, MapKept.run_getObj_map hb, K.check w _ hkey, h1, hz, Result.andThen]
  · exact absurd h3 (hno (e0.key, e0.val) (by rw [← he]; exact List.mem_map.2 ⟨e0, List.mem_of_getElem? h2, rfl⟩))
theorem MapIs.look_yes (h : MapIs w b kvs) (K : Keyed P k) (ht : P.underlying t = some (.map k e)) (hk : KeysOk P k kvs) {key val : Value} {kl : Lit} (hkey : keyOf P k key = some kl) (hin : (key, val) ∈ kvs) (huni : ∀ p ∈ kvs, p.1 = key → p.2 = val) (c : Bool) :
    (Instr.lookup t (.map (some b)) key c).run P w = .ok (if c then .tuple #[val, .bool true] else val) w := by
  obtain ⟨es, clock, hb, he⟩ := h
  rcases K.find w hkey es.toList (keys_es he hk) with ⟨h1, h2⟩ | ⟨j, e0, h1, h2, h3⟩
  · rw [← he] at hin
    obtain ⟨x, hx, hxe⟩ := List.mem_map.1 hin
    exact absurd (congrArg Prod.fst hxe) (h2 x hx)
  · have hv : e0.val = val := huni (e0.key, e0.val) (by rw [← he]; exact List.mem_map.2 ⟨e0, List.mem_of_getElem? h2, rfl⟩) h3
    simp [Instr.lookup, run_underlying ht, MapKept.run_getObj_map hb, K.check w _ hkey, h1, hv, Result.andThen]
theorem MapIs.put (h : MapIs w b kvs) (K : Keyed P k) (ht : P.underlying t = some (.map k e)) (hk : KeysOk P k kvs) {key val : Value} {kl : Lit} (hkey : keyOf P k key = some kl) (hno : ∀ p ∈ kvs, p.1 ≠ key) :
    ∃ w', (Instr.mapUpdate t (.map (some b)) key val).run P w = .ok () w' ∧ MapIs w' b (kvs ++ [(key, val)]) ∧ w.grownBy w' (some b) := by
  obtain ⟨es, clock, hb, he⟩ := h
  rcases K.find w hkey es.toList (keys_es he hk) with ⟨h1, h2⟩ | ⟨j, e0, h1, h2, h3⟩
  · refine ⟨setBlock w b (.map (es.push ⟨key, val, clock⟩) (clock + 1)), ?_, ⟨_, _, heap_setBlock_same hb _, by simp [he]⟩, ⟨rfl, rfl, rfl, by simp [setBlock], fun i _ hi => heap_setBlock_other hb _ (fun e => hi (by rw [e]))⟩⟩
    simp [Instr.mapUpdate, run_underlying ht, MapKept.run_getObj_map hb, K.check w false hkey, h1, MapKept.run_setObj_map _ hb, Result.andThen, setBlock]
  · exact absurd h3 (hno (e0.key, e0.val) (by rw [← he]; exact List.mem_map.2 ⟨e0, List.mem_of_getElem? h2, rfl⟩))
end
end Go.Proofs.Fl
