/-
  The reference's decimal numeral (l01Dec): digits put in front one by one.
-/
import Derived.Test.YtkbfhooiloaokaaDoorExt
import Derived.Test.YtkbfhooiloaokaaDoorMem
import Derived.Test.YtkbfhooiloaokaaDoorDecLaw
import Derived.Deep.AppendLies
import Derived.Deep.RegionLaw
import Derived.Laws.IdiomStrings
import Derived.Lib.UnsafeStr
import Derived.LoopTactic
import Derived.OwnWalk
namespace Go.Proofs.YtkbfhooiloaokaaDoor.Num
open Go.RowKit Go.Proofs.Fl Go.Proofs.Dc Go.Lib
set_option linter.unusedVariables false
set_option linter.unusedSimpArgs false

theorem run_append_zero {P : Program} (w : World) (t ty e : TypeId) (i : TypeInfo) (ht : P.underlying t = some (.slice e)) (hi : P.info? e = some i) (b x : Option Addr) (n c c' : Nat) (h : n ≤ c) :
    (Builtin.append_ #[t, t] ty #[.slice b n c, .slice x 0 c']).run P w = .ok (.slice b n c) w := by
  have h0 (a : Addr) : (loadCells a 0).run P w = .ok #[] w := by unfold loadCells loadCellsFrom; rfl
  have h1 (a : Addr) : (storeCells a []).run P w = .ok () w := by unfold storeCells; rfl
  cases b <;> cases x <;> simp [Builtin.append_, run_underlying ht, sizeOf, typeInfo, hi, Builtin.lenOf, Builtin.firstCells, h, h0, h1]
theorem wpList_append_zero {P : Program} {w : World} {ops : Array Oper} {rest : List Oper} {o : Oper} {a : Act} {Q : Exit → Act → World → Prop} (hgd : o.guard = none) (s x : Operand) (t : TypeId)
    (ho : o.op = .call { callee := .builtin .append, args := #[s, x], argTypes := #[t, t] })
    (e : TypeId) (i : TypeInfo) (ht : P.underlying t = some (.slice e)) (hi : P.info? e = some i)
    (b y : Option Addr) (n c c' : Nat) (hs : a.eval s = .slice b n c) (hx : a.eval x = .slice y 0 c') (hn : n ≤ c)
    (h : wpList P ops Q rest (a.put o.dst (.slice b n c)) w) : wpList P ops Q (o :: rest) a w := by
  refine wpList_plain hgd fun K hK => ?_
  have hrun := run_append_zero (P := P) w t o.type e i ht hi b y n c c' hn
  unfold Oper.wp
  simp [execOp, ho, resolve, invoke, builtin, hs, hx, hrun, Result.andThen]
  exact hK _ _ h
theorem u8_info : (Tryd.prog.info? 5).map (fun i => (i.zero, i.size, i.bytes)) = some (some (Value.int .u8 0), 1, 1) := by kernel_rfl
theorem info_parts1 {P : Program} {e : TypeId} {z : Value} {s b : Nat} (h : (P.info? e).map (fun i => (i.zero, i.size, i.bytes)) = some (some z, s, b)) : ∃ i, P.info? e = some i ∧ i.zero = some z ∧ i.size = s ∧ i.bytes = b := by
  cases hi : P.info? e with
  | none => rw [hi] at h; simp at h
  | some i =>
    rw [hi] at h
    simp only [Option.map_some, Option.some.injEq, Prod.mk.injEq] at h
    exact ⟨i, rfl, h.1, h.2.1, h.2.2⟩
/-- a new block of one cell is a list of one's own -/
theorem own_one {w : World} {base e : Nat} (x : Value) (hb : base ≤ w.heap.size) : (w.alloc (.cells #[x] e)).ownsRow base e 1 (.slice (some ⟨w.heap.size, 0, none⟩) 1 1) 1 [x] :=
  ⟨by simp, .inr ⟨w.heap.size, 1, #[x], rfl, hb, heap_alloc_new w _, Nat.le_refl _, by simp [maxLen], by simp, by simp⟩⟩
theorem own_none {w : World} {base e : Nat} (hb : base ≤ w.heap.size) : (w.alloc (.cells #[] e)).ownsRow base e 1 (.slice (some ⟨w.heap.size, 0, none⟩) 0 0) 0 [] :=
  ⟨by simp, .inr ⟨w.heap.size, 0, #[], rfl, hb, heap_alloc_new w _, Nat.le_refl _, by simp [maxLen], by simp, by simp⟩⟩
theorem own_succ1 {w : World} {base e size : Nat} {v : Value} {k : Nat} {xs : List Value} (h : w.ownsRow base e size v (k + 1) xs) : ∃ g cap, v = .slice (some ⟨g, 0, none⟩) (k + 1) cap ∧ k + 1 ≤ cap := by
  rcases h.2 with ⟨hv, hn⟩ | ⟨g, cap, cur, hv, hb, hg, hcap, _⟩
  · cases hn
  · exact ⟨g, cap, hv, hcap⟩
theorem bytes_oneCell (l : List UInt8) : ∀ u ∈ byteCells l, u.oneCell' = true := by
  intro u hu
  obtain ⟨b, _, rfl⟩ := List.mem_map.1 hu
  rfl
/-- what is written so far (l), what is left (r) -/
def DecInv (n r : Int) (l : List UInt8) : Prop := (if l = [] then r.natAbs = n.natAbs else decDigits n.natAbs = decRest r.natAbs ++ l) ∧ (l = [] → r = n) ∧ l.length ≤ 20 ∧ -9223372036854775808 ≤ r ∧ r ≤ 9223372036854775807
theorem digits_le (n : Int) (h0 : -9223372036854775808 ≤ n) (h1 : n ≤ 9223372036854775807) : (decDigits n.natAbs).length ≤ 19 := dec_len n.natAbs 18 (by omega)
theorem DecInv.start {n : Int} (h0 : -9223372036854775808 ≤ n) (h1 : n ≤ 9223372036854775807) : DecInv n n [] := ⟨by simp, fun _ => rfl, by simp, h0, h1⟩
theorem DecInv.round {n r : Int} {l : List UInt8} (h0 : -9223372036854775808 ≤ n) (h1 : n ≤ 9223372036854775807) (h : DecInv n r l) (hgo : l = [] ∨ r ≠ 0) :
    DecInv n (r.tdiv 10) (UInt8.ofNat (48 + r.natAbs % 10) :: l) := by
  have hr := dec_round h.1 (hgo.imp_right (by omega))
  have hd := digits_le n h0 h1
  refine ⟨by rw [if_neg (by simp), natAbs_tdiv10]; exact hr, by simp, ?_, ?_, ?_⟩
  · rw [hr] at hd
    simp only [List.length_append, List.length_cons] at hd ⊢
    omega
  · have := h.2.2.2.1; have := h.2.2.2.2; have := natAbs_tdiv10 r; omega
  · have := h.2.2.2.1; have := h.2.2.2.2; have := natAbs_tdiv10 r; omega
theorem DecInv.done {n : Int} {l : List UInt8} (h : DecInv n 0 l) (hl : l ≠ []) : decDigits n.natAbs = l := by
  have := h.1
  rw [if_neg hl] at this
  simpa [decRest] using this
theorem neg_itoa {n : Int} {l : List UInt8} (h : decDigits n.natAbs = l) (hn : n < 0) : itoa n = 45 :: l := by rw [itoa, if_pos hn, h]
theorem pos_itoa {n : Int} {l : List UInt8} (h : decDigits n.natAbs = l) (hn : ¬ n < 0) : itoa n = l := by rw [itoa, if_neg hn, ← h, show n.toNat = n.natAbs by omega]
theorem digit_u8 (r : Int) : IntKind.u8.wrap (48 + ((r.natAbs % 10 : Nat) : Int)) = ((UInt8.ofNat (48 + r.natAbs % 10)).toNat : Int) := by
  rw [dig_toNat _ (by omega), IntKind.wrap_u8]
  omega
def RetStr (l : List UInt8) (w : World) (e : Ending) (w' : World) : Prop := e = .returned (.string ⟨l.toArray⟩) ∧ Below w.heap.size w w'
end Go.Proofs.YtkbfhooiloaokaaDoor.Num
