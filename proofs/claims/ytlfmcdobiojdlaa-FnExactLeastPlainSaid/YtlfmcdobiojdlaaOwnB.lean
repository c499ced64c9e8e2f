/-
  Lists of truth values that a call owns.
-/
import Derived.Test.YtlfmcdobiojdlaaOwnL
namespace Go.Proofs.Ytlfmcdobiojdlaa.Num
open Go.RowKit Go.Proofs.Fl
set_option linter.unusedVariables false
set_option linter.unusedSimpArgs false
def OwnB (w : World) (A : Option Addr) (n c : Nat) (bs : List Bool) : Prop := bs.length = n ∧ (n = 0 ∨ ∃ g, A = some ⟨g, 0, none⟩ ∧ w.ownsRow g 4 1 (.slice A n c) n (bools bs))
theorem OwnB.rd {w : World} {A : Option Addr} {n c : Nat} {bs : List Bool} (h : OwnB w A n c bs) : Rd w w.heap.size A (bools bs) := by
  rcases h.2 with h0 | ⟨g, rfl, ho⟩
  · left
    have hz : bs.length = 0 := by rw [h.1, h0]
    rw [List.length_eq_zero_iff.1 hz]; rfl
  · refine .inr ⟨g, 0, rfl, own_lt ho, fun j u hu => ?_⟩
    have hj : j < bs.length := by have := (List.getElem?_eq_some_iff.1 hu).1; simpa using this
    rw [Nat.zero_add, World.ownsRow.cellAt ho j (by rw [Nat.mul_one, ← h.1]; exact hj)]
    exact hu
theorem OwnB.row_lt {w : World} {A : Option Addr} {n c : Nat} {bs : List Bool} (h : OwnB w A n c bs) {g : Nat} (hg : rowN n A = some g) : g < w.heap.size := by
  rcases h.2 with h0 | ⟨g', rfl, ho⟩
  · subst h0; cases hg
  · by_cases hn : n = 0
    · subst hn; cases hg
    · rw [rowN_some hn] at hg; cases hg; exact own_lt ho
theorem OwnB.apart {w w' : World} {R : List (Option Nat)} {A : Option Addr} {n c : Nat} {bs : List Bool} (h : OwnB w A n c bs) (hk : Kept w w' R) (hr : ∀ g, rowN n A = some g → ∀ r ∈ R, some g ≠ r) : OwnB w' A n c bs := by
  refine ⟨h.1, ?_⟩
  rcases h.2 with h0 | ⟨g, rfl, ho⟩
  · exact .inl h0
  · by_cases hn : n = 0
    · exact .inl hn
    · exact .inr ⟨g, rfl, own_keep ho (hk.block g (own_lt ho) fun r hm => hr g (rowN_some hn) r hm)⟩
theorem OwnB.step {w w' : World} {A : Option Addr} {n c : Nat} {bs : List Bool} (h : OwnB w A n c bs) (hb : Below w.heap.size w w') : OwnB w' A n c bs := by
  refine ⟨h.1, ?_⟩
  rcases h.2 with h0 | ⟨g, rfl, ho⟩
  · exact .inl h0
  · exact .inr ⟨g, rfl, own_keep ho (hb.block g (own_lt ho))⟩
/-- the truth values that the laws' marks lay -/
def seqB (k n : Nat) : List Bool := (List.range n).map fun j => decide ((k + j) % 3 = 0)
theorem seqB_len (k n : Nat) : (seqB k n).length = n := by simp [seqB]
theorem seqB_get (k n j : Nat) (h : j < n) : (seqB k n)[j]'(by rw [seqB_len]; exact h) = decide ((k + j) % 3 = 0) := by simp [seqB]
def mixT (bs : List Bool) (k n i : Nat) : List Bool := (List.range n).map fun j => if j < i then decide ((k + j) % 3 = 0) else bs.getD j false
theorem mixT_len (bs : List Bool) (k n i : Nat) : (mixT bs k n i).length = n := by simp [mixT]
theorem mixT_zero (bs : List Bool) (k n : Nat) (hz : bs.length = n) : mixT bs k n 0 = bs := by
  apply List.ext_getElem?
  intro j
  by_cases hj : j < n
  · have : j < bs.length := by omega
    simp [mixT, hj, this]
  · simp [mixT, hj, hz]
theorem mixT_all (bs : List Bool) (k n i : Nat) (hi : n ≤ i) : mixT bs k n i = seqB k n := by
  apply List.ext_getElem?
  intro j
  by_cases hj : j < n
  · simp [mixT, seqB, hj, show j < i by omega]
  · simp [mixT, seqB, hj]
theorem mixT_set (bs : List Bool) (k n i : Nat) (hi : i < n) : (mixT bs k n i).set i (decide ((k + i) % 3 = 0)) = mixT bs k n (i + 1) := by
  apply List.ext_getElem?
  intro j
  simp only [List.getElem?_set, mixT, List.getElem?_map, List.length_map, List.length_range]
  by_cases hj : j < n
  · rw [List.getElem?_range hj]
    by_cases h : i = j
    · subst h; simp [hj]
    · by_cases hl : j < i
      · simp [h, hl, show j < i + 1 by omega]
      · simp [h, hl, show ¬ j < i + 1 by omega]
  · have h : ¬ i = j := by omega
    simp [h, hj]
def RetMarkB (A : Option Addr) (n c k : Nat) (w : World) (e : Ending) (w' : World) : Prop := e = .returned (.int .i64 ((k + n : Nat) : Int)) ∧ OwnB w' A n c (seqB k n) ∧ Kept w w' [rowN n A] ∧ w'.heap.size = w.heap.size
set_option maxHeartbeats 800000 in
theorem markBoolS_calls (A : Option Addr) (n c : Nat) (bs : List Bool) (k : Nat) (hn : n ≤ 1048576) (hk : k ≤ 1073741824) (w : World) (h : OwnB w A n c bs) :
    Calls Try.prog 59 #[.slice A n c, .int .i64 (k : Int)] w (RetMarkB A n c k w) := by
  by_cases hn0 : n = 0
  · subst hn0
    have HO := hid (show OwnB w A 0 c (seqB k 0) from ⟨by simp [seqB], .inl rfl⟩)
    clear h
    go_enter Try.func59, Try.ntmps59
    go_wp2
    go_loopw [1, 5] (fun q i wr => i = .int .i64 0 ∧ q = .int .i64 (k : Int) ∧ wr = w) (fun _ i _ => 0)
    case atStart => exact ⟨rfl, rfl, rfl⟩
    case round =>
      obtain ⟨rfl, rfl, rfl⟩ := hrel
      go_wp2
      go_ret
      exact ⟨rfl, HO.out, Kept.refl _ _, rfl⟩
  · have hz : bs.length = n := h.1
    rcases h.2 with h0 | ⟨g, rfl, ho⟩
    · exact absurd h0 hn0
    have HO := hid ho
    have HZ := hid hz
    clear h ho hz
    go_enter Try.func59, Try.ntmps59
    go_wp2
    go_loopw [1, 5] (fun q i wr => ∃ j : Nat, j ≤ n ∧ i = .int .i64 j ∧ q = .int .i64 ((k + j : Nat) : Int) ∧ Hid (wr.ownsRow g 4 1 (.slice (some ⟨g, 0, none⟩) n c) n (bools (mixT bs k n j))) ∧ Hid (Kept w wr [some g] ∧ wr.heap.size = w.heap.size)) (fun _ i _ => n - (intOf i).toNat)
    case atStart => exact ⟨0, Nat.zero_le _, rfl, rfl, by rw [mixT_zero _ _ _ HZ.out]; exact HO, ⟨Kept.refl _ _, rfl⟩⟩
    case round =>
      obtain ⟨j, hj, rfl, rfl, hown, hkept⟩ := hrel
      by_cases hlt : j < n
      · have hold : ∃ u, wr.cell? ⟨g, j, none⟩ = some u := by
          rw [World.ownsRow.cellAt hown.out j (by omega)]
          exact ⟨_, List.getElem?_eq_getElem (by rw [bools_length, mixT_len]; exact hlt)⟩
        obtain ⟨u, hold⟩ := hold
        have hfr := World.ownsRow.frozenAt hown.out j
        have hst := (World.ownsRow.stored hown.out j (.bool (decide ((k + j) % 3 = 0)))).1
        have e : (bools (mixT bs k n j)).set j (.bool (decide ((k + j) % 3 = 0))) = bools (mixT bs k n (j + 1)) := by rw [← mixT_set bs k n j hlt]; unfold bools; rw [List.map_set]
        rw [e] at hst
        have HS := hid hst
        have HK := hid (show Kept w (wr.setCell ⟨g, j, none⟩ (.bool (decide ((k + j) % 3 = 0)))) [some g] ∧ (wr.setCell ⟨g, j, none⟩ (.bool (decide ((k + j) % 3 = 0)))).heap.size = w.heap.size from ⟨hkept.out.1.set (by simp) _, by simp [World.setCell]; exact hkept.out.2⟩)
        clear hst e hown hkept
        generalize hq : k + j = q at *
        have hqb : q ≤ 1075838976 := by omega
        generalize hb : decide (q % 3 = 0) = b at *
        have hm : ((q : Int) % 3 == 0) = b := by
          rw [← hb]
          have : ((q : Int) % 3) = ((q % 3 : Nat) : Int) := by omega
          rw [this]
          by_cases h0 : q % 3 = 0
          · simp [h0]
          · simp [h0]; omega
        go_wp2
        go_roundw
        case rel => exact ⟨j + 1, hlt, by go_num, by rw [show k + (j + 1) = q + 1 by omega]; go_num, HS, HK⟩
        case measure => simp [intOf]; omega
      · have he : j = n := by omega
        subst he
        have HO2 := hid (show OwnB wr (some ⟨g, 0, none⟩) j c (seqB k j) from ⟨by rw [seqB_len], .inr ⟨g, rfl, by rw [← mixT_all bs k j j (Nat.le_refl _)]; exact hown.out⟩⟩)
        clear hown
        go_wp2
        go_ret
        exact ⟨rfl, HO2.out, by rw [rowN_some hn0]; exact hkept.out.1, hkept.out.2⟩
set_option maxHeartbeats 800000 in
theorem heldBoolS_calls (A : Option Addr) (n c : Nat) (k : Nat) (hn : n ≤ 1048576) (hk : k ≤ 1073741824) (w : World) (h : Rd w w.heap.size A (bools (seqB k n))) :
    Calls Try.prog 60 #[.slice A n c, .int .i64 (k : Int)] w (Ret (.int .i64 ((k + n : Nat) : Int)) w) := by
  have HR := hid h
  clear h
  go_enter Try.func60, Try.ntmps60
  go_wp2
  go_loopw [1, 5] (fun q i wr => ∃ j : Nat, j ≤ n ∧ i = .int .i64 j ∧ q = .int .i64 ((k + j : Nat) : Int) ∧ wr = w) (fun _ i _ => n - (intOf i).toNat)
  case atStart => exact ⟨0, Nat.zero_le _, rfl, rfl, rfl⟩
  case round =>
    obtain ⟨j, hj, rfl, rfl, rfl⟩ := hrel
    by_cases hlt : j < n
    · obtain ⟨b1, o1, rfl, hb1, hc1⟩ := bools_at HR.out (k := j) (by rw [seqB_len]; exact hlt)
      rw [seqB_get _ _ _ hlt] at hc1
      generalize hq : k + j = q at *
      have hqb : q ≤ 1075838976 := by omega
      generalize hb : decide (q % 3 = 0) = b at *
      have hm : ((q : Int) % 3 == 0) = b := by
        rw [← hb]
        have : ((q : Int) % 3) = ((q % 3 : Nat) : Int) := by omega
        rw [this]
        by_cases h0 : q % 3 = 0
        · simp [h0]
        · simp [h0]; omega
      have hbb : (b == b) = true := beq_self_eq_true _
      have hbn : (b != b) = false := bne_self_eq_false _
      go_wp2
      go_roundw
      case rel => exact ⟨j + 1, hlt, by go_num, by rw [show k + (j + 1) = q + 1 by omega]; go_num, trivial⟩
      case measure => simp [intOf]; omega
    · have he : j = n := by omega
      subst he
      go_wp2
      go_ret
      exact ⟨rfl, 0, rfl⟩
end Go.Proofs.Ytlfmcdobiojdlaa.Num
