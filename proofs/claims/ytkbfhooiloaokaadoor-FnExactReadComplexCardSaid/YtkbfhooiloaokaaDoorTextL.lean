/-
  The text of a list of whole numbers: the reference (l01List, l01Text, ListText).
-/
import Derived.Test.YtkbfhooiloaokaaDoorDecW
import Derived.Test.YtkbfhooiloaokaaDoorWithin
import Derived.Test.YtkbfhooiloaokaaDoorValue
import Derived.Test.YtkbfhooiloaokaaDoorTextsLaw
namespace Go.Proofs.YtkbfhooiloaokaaDoor.Num
open Go.RowKit Go.Proofs.Fl Go.Proofs.Dc Go.Proofs.Tx
open Go.Lib (itoa join)
set_option linter.unusedVariables false
set_option linter.unusedSimpArgs false
/-- all numbers from -10^15 to 10^15 -/
def inAll (zs : List Int) : Bool := zs.all fun z => inB z (-1000000000000000) 1000000000000000
theorem inAll_take {zs : List Int} {k : Nat} (hk : k < zs.length) (h : inAll (zs.take k) = true) (hz : inB zs[k] (-1000000000000000) 1000000000000000 = true) : inAll (zs.take (k + 1)) = true := by
  unfold inAll at *
  rw [List.take_succ_eq_append_getElem hk, List.all_append, h]
  simp [hz]
theorem inAll_bad {zs : List Int} {k : Nat} (hk : k < zs.length) (hz : inB zs[k] (-1000000000000000) 1000000000000000 = false) : inAll zs = false := by
  unfold inAll
  rw [List.all_eq_false]
  exact ⟨zs[k], List.getElem_mem hk, by simp [hz]⟩
theorem inAll_end {zs : List Int} {k : Nat} (hk : zs.length ≤ k) (h : inAll (zs.take k) = true) : inAll zs = true := by rwa [List.take_of_length_le hk] at h
def okList (zs : List Int) : Bool := inAll zs && decide (zs.length ≤ 64)
theorem inAll_mem {zs : List Int} (h : inAll zs = true) : ∀ z ∈ zs, -1000000000000000 ≤ z ∧ z ≤ 1000000000000000 := by
  intro z hz
  have := List.all_eq_true.1 h z hz
  simpa [inB] using this
theorem itoa_le {zs : List Int} (h : inAll zs = true) : ∀ t ∈ zs.map itoa, t.length ≤ 17 := by
  intro t ht
  obtain ⟨z, hz, rfl⟩ := List.mem_map.1 ht
  have := inAll_mem h z hz
  exact (itoa_len17 z (by omega)).2
def RetText (o : Option (List UInt8)) (w : World) (e : Ending) (w' : World) : Prop := e = .returned (.tuple #[.string ⟨(o.getD []).toArray⟩, .bool o.isSome]) ∧ Below w.heap.size w w'
def listText (zs : List Int) : Option (List UInt8) := if okList zs = true then some (textJ (zs.map itoa)) else none
set_option maxHeartbeats 800000 in
theorem l01List_calls (A : Option Addr) (n c : Nat) (zs : List Int) (hz : zs.length = n) (hn : n ≤ 1048576) (w : World) (ha : Rd w w.heap.size A (i64s zs)) :
    Calls Tryd.prog 40 #[.slice A n c] w (Ret (.bool (okList zs)) w) := by
  have HZ := hid hz
  clear hz
  go_enter Tryd.func40, Tryd.ntmps40
  go_wp2
  go_loopw [3] (fun i wr => ∃ k m : Nat, k ≤ n ∧ i = .int .i64 k ∧ wr = w.drewN m ∧ Hid (inAll (zs.take k) = true)) (fun i _ => n - (intOf i).toNat)
  case atStart => exact ⟨0, 0, Nat.zero_le _, rfl, rfl, rfl⟩
  case round =>
    obtain ⟨k, m, hk, rfl, rfl, hall⟩ := hrel
    by_cases hlt : k < n
    · have hkx : k < zs.length := by have := HZ.out; omega
      obtain ⟨b1, o1, rfl, hb1, hc1⟩ := i64s_at ha hkx
      have HA := hid (fun hz => inAll_take hkx hall.out hz)
      have HF := hid (fun hz => inAll_bad hkx hz)
      generalize zs[k] = z at *
      cases hb : inB z (-1000000000000000) 1000000000000000 with
      | true =>
        have HB := hid hb
        have HT := hid (HA.out hb)
        clear hb HA HF
        go_wp2_with (go_at_call 58; refine (l00In_is _ _ _ _ HB.out _).mono ?_; rintro e w1 ⟨rfl, nd, rfl⟩)
        go_roundw
        case rel => exact ⟨k + 1, _, hlt, by go_num, rfl, HT⟩
        case measure => simp [intOf]; omega
      | false =>
        have HB := hid hb
        have HT := hid (show okList zs = false by unfold okList; rw [HF.out hb]; rfl)
        clear hb HA HF
        go_wp2_with (go_at_call 58; refine (l00In_is _ _ _ _ HB.out _).mono ?_; rintro e w1 ⟨rfl, nd, rfl⟩)
        go_ret
        exact ⟨by rw [HT.out]; rfl, _, rfl⟩
    · have HT := hid (show okList zs = decide (n ≤ 64) by unfold okList; rw [inAll_end (by have := HZ.out; omega) hall.out, HZ.out]; rfl)
      go_wp2
      go_ret
      exact ⟨ret_bool (by rw [HT.out, Bool.eq_iff_iff]; simp; omega), _, rfl⟩
theorem head_step {zs : List Int} {k : Nat} (h : k + 1 < zs.length) : headJ (zs.map itoa) (k + 1) = headJ (zs.map itoa) k ++ (44 :: itoa zs[k + 1]) := headJ_succ _ _ _ (by simp [List.getElem?_eq_getElem h])
theorem head_start {zs : List Int} (h : 0 < zs.length) : headJ (zs.map itoa) 0 = itoa zs[0] := by
  cases zs with
  | nil => simp at h
  | cons z r => exact headJ_zero _ _
theorem head_end {zs : List Int} {k : Nat} (h : zs.length ≤ k + 1) (h0 : 0 < zs.length) : headJ (zs.map itoa) k = textJ (zs.map itoa) := headJ_all _ _ (by simpa using h) (by intro e; simp at e; subst e; simp at h0)
set_option maxRecDepth 100000 in
set_option maxHeartbeats 800000 in
theorem l01Text_calls (A : Option Addr) (n c : Nat) (zs : List Int) (hz : zs.length = n) (hn : n ≤ 64) (hok : inAll zs = true) (w : World) (ha : Rd w w.heap.size A (i64s zs)) :
    Calls Tryd.prog 41 #[.slice A n c] w (RetStr (textJ (zs.map itoa)) w) := by
  have HZ := hid hz
  have HR := hid ha
  have HL := hid (fun k => headJ_le 17 (zs.map itoa) k (itoa_le hok))
  have HM := hid (inAll_mem hok)
  clear hz ha hok
  by_cases h0 : n = 0
  · subst h0
    have HT := hid (show textJ (zs.map itoa) = none4 by rw [List.length_eq_zero_iff.1 HZ.out]; rfl)
    go_enter Tryd.func41, Tryd.ntmps41
    go_wp2
    go_ret
    exact ⟨by rw [HT.out]; rfl, Below.refl _ _⟩
  · have hz0 : 0 < zs.length := by have := HZ.out; omega
    have HS := hid (head_start hz0)
    obtain ⟨b1, o1, rfl, hb1, hc1⟩ := i64s_at HR.out hz0
    rw [Nat.add_zero] at hc1
    have hm := HM.out _ (List.getElem_mem hz0)
    have hn0 : ((n : Int) == 0) = false := by simp; omega
    generalize zs[0] = z0 at *
    have HD := hid (l01Dec_calls z0 (by omega) (by omega))
    clear hm hz0
    go_enter Tryd.func41, Tryd.ntmps41
    go_wp2_with (go_at_call 35; refine (HD.out _).mono ?_; rintro e w1 ⟨rfl, hb⟩; have HB1 := hid hb; clear hb)
    go_loopw [3, 4] (fun o i wr => ∃ k : Nat, k < n ∧ i = .int .i64 ((k + 1 : Nat) : Int) ∧ o = .string ⟨(headJ (zs.map itoa) k).toArray⟩ ∧ Hid (Below w.heap.size w wr)) (fun _ i _ => n + 1 - (intOf i).toNat)
    case atStart => exact ⟨0, by omega, rfl, by rw [HS.out], HB1⟩
    case round =>
      obtain ⟨k, hk, rfl, rfl, hbel⟩ := hrel
      have hl1 := HL.out k
      have hl2 := HL.out (k + 1)
      rw [List.length_map, HZ.out] at hl1 hl2
      by_cases hlt : k + 1 < n
      · have hkx : k + 1 < zs.length := by have := HZ.out; omega
        have hst := head_step hkx
        have hm := HM.out _ (List.getElem_mem hkx)
        obtain ⟨b2, o2, hAe, hb2, hc2⟩ := i64s_at (HR.out.below hbel.out) hkx
        simp only [Option.some.injEq, Addr.mk.injEq, and_true] at hAe
        obtain ⟨rfl, rfl⟩ := hAe
        generalize zs[k + 1] = z at *
        have HD2 := hid (l01Dec_calls z (by omega) (by omega))
        clear hm
        rw [hst] at hl2
        have HST := hid hst
        clear hst
        generalize headJ (zs.map itoa) k = lh at *
        generalize itoa z = li at *
        simp only [List.length_append, List.length_cons] at hl2
        go_wp2_with (go_at_call 35; refine (HD2.out _).mono ?_; rintro e w2 ⟨rfl, hb⟩; have HB2 := hid hb; clear hb)
        go_roundw
        case rel => exact ⟨k + 1, hlt, by go_num, by rw [HST.out, show (⟨#[44]⟩ : ByteArray) = ⟨([44] : List UInt8).toArray⟩ from rfl, mk_append, mk_append]; rfl, hbel.out.trans (HB2.out.mono hbel.out.size)⟩
        case measure => simp [intOf]; omega
      · have HE := hid (head_end (zs := zs) (k := k) (by have := HZ.out; omega) (by have := HZ.out; omega))
        go_wp2
        go_ret
        exact ⟨by rw [← HE.out]; rfl, hbel.out⟩
theorem sListText_calls (A : Option Addr) (n c : Nat) (zs : List Int) (hz : zs.length = n) (hn : n ≤ 1048576) (w : World) (ha : Rd w w.heap.size A (i64s zs)) :
    Calls Tryd.prog 14 #[.slice A n c] w (RetText (listText zs) w) := by
  cases hok : okList zs with
  | true =>
    have hb := hok
    unfold okList at hb
    rw [Bool.and_eq_true, decide_eq_true_eq] at hb
    have HL := hid (show listText zs = some (textJ (zs.map itoa)) by unfold listText; rw [if_pos hok])
    have HC := hid (l01List_calls A n c zs hz hn w ha)
    have HT := hid (fun m => l01Text_calls A n c zs hz (by omega) hb.1 (w.drewN m) (ha.drewN m))
    rw [hok] at HC
    clear hok hb hz ha
    go_enter Tryd.func14, Tryd.ntmps14
    go_wp2_with (first | (go_at_call 40; refine HC.out.mono ?_; rintro e w1 ⟨rfl, nd, rfl⟩) | (go_at_call 41; refine (HT.out _).mono ?_; rintro e w2 ⟨rfl, hb⟩; have HB := hid hb; clear hb))
    go_ret2
    exact ⟨by rw [HL.out]; rfl, below_drewN' HB.out⟩
  | false =>
    have HL := hid (show listText zs = none by unfold listText; rw [hok]; rfl)
    have HC := hid (l01List_calls A n c zs hz hn w ha)
    rw [hok] at HC
    clear hok hz ha
    go_enter Tryd.func14, Tryd.ntmps14
    go_wp2_with (first | (go_at_call 40; refine HC.out.mono ?_; rintro e w1 ⟨rfl, nd, rfl⟩))
    go_ret2
    exact ⟨by rw [HL.out]; rfl, below_drewN (Below.refl _ _) _⟩
end Go.Proofs.YtkbfhooiloaokaaDoor.Num
