/-
  The reference's decimal numeral, walked (l01Dec).
-/
import Derived.Test.YtkbfhooiloaokaaDoorDec
namespace Go.Proofs.YtkbfhooiloaokaaDoor.Num
open Go.RowKit Go.Proofs.Fl Go.Proofs.Dc
open Go.Lib (itoa decDigits byteCells byteCells_length byteCells_append)
set_option linter.unusedVariables false
set_option linter.unusedSimpArgs false
theorem dec_abs {r : Int} (h : r.tmod 10 < 0) : -(r.tmod 10) = ((r.natAbs % 10 : Nat) : Int) := by have := natAbs_tmod10 r; omega
theorem dec_abs' {r : Int} (h : ¬ r.tmod 10 < 0) : r.tmod 10 = ((r.natAbs % 10 : Nat) : Int) := by have := natAbs_tmod10 r; omega
def lz : Value → Nat
  | .slice _ 0 _ => 1
  | _ => 0
theorem cons_own {w : World} {base e : Nat} {v : Value} {k : Nat} {x : UInt8} {l : List UInt8} (h : w.ownsRow base e 1 v (1 + k) ([Value.int .u8 (x.toNat : Int)] ++ byteCells l)) : w.ownsRow base e 1 v (1 + k) (byteCells (x :: l)) := h
theorem byte_at {w : World} {base e g k c : Nat} {l : List UInt8} (h : w.ownsRow base e 1 (.slice (some ⟨g, 0, none⟩) k c) k (byteCells l)) (o : Obj) : ∀ j u, (byteCells l)[j]? = some u → (w.alloc o).cell? ((⟨g, 0, none⟩ : Addr).add j) = some u := fun j u hu => by
  have hlt : g < w.heap.size := by
    have := World.ownsRow.lt h g rfl
    exact this.2
  have := World.ownsRow.cells h (g := g) rfl j u hu
  exact ((Below.refl _ _).alloc (Nat.le_refl _) o).cell (by rw [show ((⟨g, 0, none⟩ : Addr).add j).block = g by unfold Addr.add; split <;> rfl]; exact hlt) |>.trans this
theorem own_cap {w : World} {base e size g n c : Nat} {xs : List Value} (h : w.ownsRow base e size (.slice (some ⟨g, 0, none⟩) n c) n xs) : n ≤ c := by
  rcases h.2 with ⟨hv, hn⟩ | ⟨g', cap, cur, hv, hb, hg, hcap, _⟩
  · cases hv
  · simp only [Value.slice.injEq] at hv
    omega
theorem cons_below {w wr w' : World} {o : Obj} {k c : Nat} (h : Below w.heap.size w wr) (hg : (wr.alloc o).grownBy w' (Value.slice (some ⟨wr.heap.size, 0, none⟩) k c).ownBlock) : Below w.heap.size w w' :=
  (h.alloc h.size o).grown hg (by simp; have := h.size; omega) fun k hk => by
    simp [Value.ownBlock] at hk
    have := h.size
    omega
theorem lz0 {A : Option Addr} {k c : Nat} (h : k ≠ 0) : lz (.slice A k c) = 0 := by
  cases k with
  | zero => exact absurd rfl h
  | succ => rfl
theorem conv_own {w : World} {base g k c : Nat} {l : List UInt8} (h : w.ownsRow base 5 1 (.slice (some ⟨g, 0, none⟩) k c) k (byteCells l)) (hl : l.length = k) : (convert 68 9 (.slice (some ⟨g, 0, none⟩) k c)).run Tryd.prog w = .ok (.string ⟨l.toArray⟩) w := by
  subst hl
  refine run_convert_bytes_back w _ _ 5 _ c l Tryd.underlying68 Tryd.underlying5 Tryd.underlying9 fun j hj => ?_
  refine World.ownsRow.cells h (g := g) rfl j _ ?_
  simp [byteCells, List.getElem?_map, List.getElem?_eq_getElem hj]
set_option maxRecDepth 100000 in
set_option maxHeartbeats 1600000 in
theorem l01Dec_calls (n : Int) (h0 : -9223372036854775808 ≤ n) (h1 : n ≤ 9223372036854775807) (w : World) :
    Calls Tryd.prog 35 #[.int .i64 n] w (RetStr (itoa n) w) := by
  obtain ⟨i0, hi0, hz0, hz1, hz2⟩ := info_parts1 u8_info
  have HS := hid (DecInv.start h0 h1)
  have HB := hid (And.intro h0 h1)
  clear h0 h1
  go_enter Tryd.func35, Tryd.ntmps35
  go_wp2_with fail
  go_loopw [3, 4, 5] (fun o r d wr => ∃ (A : Option Addr) (k c : Nat) (ri : Int) (l : List UInt8), l.length = k ∧ k ≤ 20 ∧ k ≤ c ∧ o = .slice A k c ∧ r = .int .i64 ri ∧ Hid (DecInv n ri l) ∧ Hid (wr.ownsRow w.heap.size 5 1 (.slice A k c) k (byteCells l)) ∧ Hid (Below w.heap.size w wr)) (fun o r _ _ => (intOf r).natAbs + lz o)
  case atStart => exact ⟨_, 0, 0, n, [], rfl, by omega, Nat.le_refl _, rfl, rfl, HS, own_none (Nat.le_refl _), (Below.refl _ _).alloc (Nat.le_refl _) _⟩
  case round =>
    obtain ⟨A, k, c, r, l, hl, hk20, hkc, rfl, rfl, hinv, hown, hbel⟩ := hrel
    by_cases hgo : l = [] ∨ r ≠ 0
    · obtain ⟨x0, hx0⟩ : ∃ x0 : UInt8, x0 = UInt8.ofNat (48 + r.natAbs % 10) := ⟨_, rfl⟩
      have HN := hid (hinv.out.round HB.out.1 HB.out.2 hgo)
      rw [← hx0] at HN
      have HX := hid (show IntKind.u8.wrap (48 + ((r.natAbs % 10 : Nat) : Int)) = (x0.toNat : Int) from hx0 ▸ digit_u8 r)
      have hr0 := hinv.out.2.2.2.1
      have hr1 := hinv.out.2.2.2.2
      have hsz := hbel.out.size
      have HW := hid (own_one (w := wr) (base := w.heap.size) (e := 5) (Value.int .u8 (x0.toNat : Int)) hsz)
      clear hx0
      have hq0 : -922337203685477581 ≤ r.tdiv 10 ∧ r.tdiv 10 ≤ 922337203685477581 := by have := natAbs_tdiv10 r; omega
      have hd0 : -10 < r.tmod 10 ∧ r.tmod 10 < 10 := by have := natAbs_tmod10 r; omega
      have hda : ((r.natAbs % 10 : Nat) : Int) = if r.tmod 10 < 0 then -(r.tmod 10) else r.tmod 10 := by have := natAbs_tmod10 r; split <;> omega
      have hms := hid (show (r.tdiv 10).natAbs + 0 < r.natAbs + lz (.slice A k c) from by
        have := natAbs_tdiv10 r
        rcases hgo with rfl | h
        · simp only [List.length_nil] at hl; subst hl; simp only [lz]; omega
        · omega)
      rw [hda] at HX
      clear hda
      obtain ⟨q, hq⟩ : ∃ q, r.tdiv 10 = q := ⟨_, rfl⟩
      obtain ⟨t, ht⟩ : ∃ t, r.tmod 10 = t := ⟨_, rfl⟩
      rw [hq] at HN hq0 hms
      rw [ht] at HX hd0
      obtain ⟨q0, q1⟩ := hq0
      obtain ⟨t0, t1⟩ := hd0
      by_cases hneg : t < 0
      · rw [if_pos hneg] at HX
        have hx := HX.out
        have hwt : wrap64 (48 + -t) = 48 + -t := by unfold wrap64; omega
        clear HX
        rcases Nat.eq_zero_or_pos k with hk0 | hk0
        · obtain rfl : l = [] := List.length_eq_zero_iff.1 (by omega)
          subst hk0
          clear hgo
          go_wp2_with (at_builtin; refine wpList_append_zero rfl _ _ 68 rfl 5 i0 Tryd.underlying68 hi0 (some ⟨wr.heap.size, 0, none⟩) A 1 1 c rfl rfl (by omega) ?_)
          go_roundw
          case rel => exact ⟨_, 1, 1, q, [x0], rfl, by omega, by omega, rfl, rfl, HN, HW, hbel.out.alloc hsz _⟩
          case measure => simpa [intOf, lz] using hms.out
        · have hl0 : l ≠ [] := by rintro rfl; simp at hl; omega
          have hr : r ≠ 0 := hgo.resolve_left hl0
          have hkb : ((k : Int) == 0) = false := by simp; omega
          have hrb : (r != 0) = true := by simpa using hr
          obtain ⟨gA, cA, hAeq, hcA⟩ : ∃ g cap, (Value.slice A k c) = .slice (some ⟨g, 0, none⟩) k cap ∧ k ≤ cap := by
            obtain ⟨k', rfl⟩ : ∃ k', k = k' + 1 := ⟨k - 1, by omega⟩
            exact own_succ1 hown.out
          simp only [Value.slice.injEq, true_and] at hAeq
          obtain ⟨rfl, rfl⟩ := hAeq
          have HA := hid (byte_at hown.out (.cells #[.int .u8 (x0.toNat : Int)] 5))
          have HL := hid (show (byteCells l).length = k * 1 by rw [byteCells_length]; omega)
          have hk21 := HN.out.2.2.1
          simp only [List.length_cons] at hk21
          have Hl := hid (show (x0 :: l).length = 1 + k by simp [hl]; omega)
          have hk1 : 1 + k ≤ 20 := by omega
          clear hl0 hgo hl
          go_wp2_with (at_builtin; refine wpList_append_lies _ rfl _ _ 68 rfl w.heap.size 5 i0 (Value.int .u8 0) 1 1 Tryd.underlying68 hi0 hz0 hz1 hz2 rfl (by decide) (.slice (some ⟨wr.heap.size, 0, none⟩) 1 1) 1 [Value.int .u8 (x0.toNat : Int)] rfl HW.out ⟨gA, 0, none⟩ k c (byteCells l) rfl HL.out HA.out (bytes_oneCell l) hk0 (by unfold maxLen; omega) (by omega) (by simp; omega) _ rfl ?_; intro g2 c2 w5 hown2 hgrow hat hlt; have OW2 := hid (cons_own hown2); obtain hc2 := own_cap hown2; have BL2 := hid (cons_below hbel.out hgrow); clear hown2 hgrow hat hlt)
          go_roundw
          case rel => exact ⟨_, 1 + k, c2, q, x0 :: l, Hl.out, hk1, hc2, rfl, rfl, HN, OW2, BL2⟩
          case measure => simpa [intOf, lz0 (show 1 + k ≠ 0 by omega)] using hms.out
      · rw [if_neg hneg] at HX
        have hx := HX.out
        have hwt : wrap64 (48 + t) = 48 + t := by unfold wrap64; omega
        clear HX
        rcases Nat.eq_zero_or_pos k with hk0 | hk0
        · obtain rfl : l = [] := List.length_eq_zero_iff.1 (by omega)
          subst hk0
          clear hgo
          go_wp2_with (at_builtin; refine wpList_append_zero rfl _ _ 68 rfl 5 i0 Tryd.underlying68 hi0 (some ⟨wr.heap.size, 0, none⟩) A 1 1 c rfl rfl (by omega) ?_)
          go_roundw
          case rel => exact ⟨_, 1, 1, q, [x0], rfl, by omega, by omega, rfl, rfl, HN, HW, hbel.out.alloc hsz _⟩
          case measure => simpa [intOf, lz] using hms.out
        · have hl0 : l ≠ [] := by rintro rfl; simp at hl; omega
          have hr : r ≠ 0 := hgo.resolve_left hl0
          have hkb : ((k : Int) == 0) = false := by simp; omega
          have hrb : (r != 0) = true := by simpa using hr
          obtain ⟨gA, cA, hAeq, hcA⟩ : ∃ g cap, (Value.slice A k c) = .slice (some ⟨g, 0, none⟩) k cap ∧ k ≤ cap := by
            obtain ⟨k', rfl⟩ : ∃ k', k = k' + 1 := ⟨k - 1, by omega⟩
            exact own_succ1 hown.out
          simp only [Value.slice.injEq, true_and] at hAeq
          obtain ⟨rfl, rfl⟩ := hAeq
          have HA := hid (byte_at hown.out (.cells #[.int .u8 (x0.toNat : Int)] 5))
          have HL := hid (show (byteCells l).length = k * 1 by rw [byteCells_length]; omega)
          have hk21 := HN.out.2.2.1
          simp only [List.length_cons] at hk21
          have Hl := hid (show (x0 :: l).length = 1 + k by simp [hl]; omega)
          have hk1 : 1 + k ≤ 20 := by omega
          clear hl0 hgo hl
          go_wp2_with (at_builtin; refine wpList_append_lies _ rfl _ _ 68 rfl w.heap.size 5 i0 (Value.int .u8 0) 1 1 Tryd.underlying68 hi0 hz0 hz1 hz2 rfl (by decide) (.slice (some ⟨wr.heap.size, 0, none⟩) 1 1) 1 [Value.int .u8 (x0.toNat : Int)] rfl HW.out ⟨gA, 0, none⟩ k c (byteCells l) rfl HL.out HA.out (bytes_oneCell l) hk0 (by unfold maxLen; omega) (by omega) (by simp; omega) _ rfl ?_; intro g2 c2 w5 hown2 hgrow hat hlt; have OW2 := hid (cons_own hown2); obtain hc2 := own_cap hown2; have BL2 := hid (cons_below hbel.out hgrow); clear hown2 hgrow hat hlt)
          go_roundw
          case rel => exact ⟨_, 1 + k, c2, q, x0 :: l, Hl.out, hk1, hc2, rfl, rfl, HN, OW2, BL2⟩
          case measure => simpa [intOf, lz0 (show 1 + k ≠ 0 by omega)] using hms.out
    · have hl0 : l ≠ [] := fun e => hgo (.inl e)
      obtain rfl : r = 0 := Decidable.not_not.1 fun e => hgo (.inr e)
      have HD := hid (hinv.out.done hl0)
      have hsz := hbel.out.size
      have hk0 : 0 < k := by
        rcases Nat.eq_zero_or_pos k with h | h
        · exact absurd (List.length_eq_zero_iff.1 (by omega)) hl0
        · exact h
      have hkb : ((k : Int) == 0) = false := by simp; omega
      obtain ⟨gA, cA, hAeq, hcA⟩ : ∃ g cap, (Value.slice A k c) = .slice (some ⟨g, 0, none⟩) k cap ∧ k ≤ cap := by
        obtain ⟨k', rfl⟩ : ∃ k', k = k' + 1 := ⟨k - 1, by omega⟩
        exact own_succ1 hown.out
      simp only [Value.slice.injEq, true_and] at hAeq
      obtain ⟨rfl, rfl⟩ := hAeq
      clear hl0 hgo
      by_cases hn : n < 0
      · have HI := hid (neg_itoa HD.out hn)
        have HW := hid (own_one (w := wr) (base := w.heap.size) (e := 5) (Value.int .u8 45) hsz)
        have HA := hid (byte_at hown.out (.cells #[.int .u8 45] 5))
        have HL := hid (show (byteCells l).length = k * 1 by rw [byteCells_length]; omega)
        have Hl := hid (show ((45 : UInt8) :: l).length = 1 + k by simp [hl]; omega)
        clear hl
        go_wp2_with (first | (at_builtin; refine wpList_append_lies _ rfl _ _ 68 rfl w.heap.size 5 i0 (Value.int .u8 0) 1 1 Tryd.underlying68 hi0 hz0 hz1 hz2 rfl (by decide) (.slice (some ⟨wr.heap.size, 0, none⟩) 1 1) 1 [Value.int .u8 45] rfl HW.out ⟨gA, 0, none⟩ k c (byteCells l) rfl HL.out HA.out (bytes_oneCell l) hk0 (by unfold maxLen; omega) (by omega) (by simp; omega) _ rfl ?_; intro g2 c2 w5 hown2 hgrow hat hlt; have OW2 := hid (cons_own (x := 45) hown2); obtain hc2 := own_cap hown2; have BL2 := hid (cons_below hbel.out hgrow); have hcv := conv_own OW2.out Hl.out; clear hown2 hgrow hat hlt) | fail)
        go_ret
        exact ⟨by rw [HI.out]; rfl, BL2.out⟩
      · have HI := hid (pos_itoa HD.out hn)
        have hcv := conv_own hown.out hl
        clear hl
        go_wp2_with fail
        go_ret
        exact ⟨by rw [HI.out]; rfl, hbel.out⟩
end Go.Proofs.YtkbfhooiloaokaaDoor.Num
