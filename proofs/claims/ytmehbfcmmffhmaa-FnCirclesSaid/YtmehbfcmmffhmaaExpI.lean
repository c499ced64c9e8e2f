/-
  The program's powers of e at eighths, walked; the laws' b10Long, b10At, b10Gap.
-/
import Derived.Test.YtmehbfcmmffhmaaLogI
import Derived.Test.YtmehbfcmmffhmaaPowLaw
import Derived.Test.YtmehbfcmmffhmaaMem
import Derived.LoopTactic
namespace Go.Proofs.Ytmehbfcmmffhmaa.Num
open Go.RowKit Go.Proofs.Fl
set_option linter.unusedVariables false
theorem conv_wide {x : Nat} (h : nan .f32 x = false) (w : World) : (convert 24 27 (.float .f32 x)).run Try.prog w = .ok (.float .f64 (fwide x)) w :=
  run_convert_float_float w 24 27 .f32 .f64 x _ (by kernel_rfl) Try.underlying27 (wide_some h)
theorem conv_narrow {x y : Nat} (h : floatToFloatBits .f64 x .f32 = some y) (w : World) : (convert 27 24 (.float .f64 x)).run Try.prog w = .ok (.float .f32 y) w :=
  run_convert_float_float w 27 24 .f64 .f32 x _ (by kernel_rfl) Try.underlying24 h
theorem k_meas_all : (List.range 12).all (fun j => decide ((fint (kF (j + 1))).toNat < (fint (kF j)).toNat)) = true := by decide +kernel
theorem k_measure {j : Nat} (h : j < 12) : (fint (bitsOfV (.float .f64 (kF (j + 1))))).toNat < (fint (bitsOfV (.float .f64 (kF j)))).toNat := by
  have := List.all_eq_true.1 k_meas_all j (List.mem_range.2 h)
  exact of_decide_eq_true this
set_option maxHeartbeats 1600000 in
theorem ExpNumber_calls (x e : Nat) (h : ExpAt x e) (w : World) : Calls Try.prog 7 #[.float .f32 x] w (Ret (.float .f32 e) w) := by
  have hhi := h.hi
  have hlo := h.lo
  have hw := fun w => conv_wide h.nx w
  have ht := fun w => run_fop_det (P := Try.prog) (show nan .f64 (fop .quo .f64 (fwide x) 4643211215818981376) = false from h.nt) 27 w
  rw [show fop .quo .f64 (fwide x) 4643211215818981376 = tF x from rfl] at ht
  have HS := hid (fun j (hj : j < 12) => h.step j hj)
  have HQ := hid (fun j (hj : j < 8) => h.sq j hj)
  have HO := hid h.out
  clear h
  generalize fwide x = wx at *
  generalize tF x = t at *
  go_enter Try.func7, Try.ntmps7
  go_wp2
  go_loop [4, 5] (fun p k => ∃ j : Nat, j ≤ 12 ∧ k = .float .f64 (kF j) ∧ p = .float .f64 (exP t j)) (fun p k => (fint (bitsOfV k)).toNat)
  case atStart => exact ⟨0, by omega, by rw [k_start], rfl⟩
  case round =>
    obtain ⟨j, hj, rfl, rfl⟩ := hrel
    by_cases hlt : j < 12
    · obtain ⟨k1, k2, k3⟩ := k_at hlt
      have HM := hid (k_measure hlt)
      obtain ⟨n1, n2, n3⟩ := HS.out j hlt
      have c1 := fun w => run_fop_det (P := Try.prog) n1 27 w
      have c2 := fun w => run_fop_det (P := Try.prog) n2 27 w
      have c3 := fun w => run_fop_det (P := Try.prog) (show nan .f64 (fop .add .f64 C1 (fop .quo .f64 (fop .mul .f64 t (exP t j)) (kF j))) = false from n3) 27 w
      rw [show fop .add .f64 C1 (fop .quo .f64 (fop .mul .f64 t (exP t j)) (kF j)) = exP t (j + 1) from rfl] at c3
      have c4 := fun w => run_fop_det (P := Try.prog) (show nan .f64 (fop .sub .f64 (kF j) C1) = false by rw [k2]; exact k3) 27 w
      rw [k2] at c4
      unfold C1 at c3 c4
      clear n1 n2 n3 k2 k3
      generalize fop .quo .f64 (fop .mul .f64 t (exP t j)) (kF j) = q at *
      generalize fop .mul .f64 t (exP t j) = m at *
      go_wp2
      go_round
      case rel => exact ⟨j + 1, hlt, rfl, rfl⟩
      case measure => exact HM.out
    · obtain rfl : j = 12 := by omega
      have ce := k_end
      generalize exP t 12 = p at *
      go_wp2
      go_loop [4, 27] (fun q i => ∃ j : Nat, j ≤ 8 ∧ i = .int .i64 j ∧ q = .float .f64 (exS p j)) (fun q i => 8 - (intOf i).toNat)
      case atStart => exact ⟨0, by omega, rfl, rfl⟩
      case round =>
        obtain ⟨j, hj, rfl, rfl⟩ := hrel
        by_cases hlt : j < 8
        · have c1 := fun w => run_fop_det (P := Try.prog) (show nan .f64 (fop .mul .f64 (exS p j) (exS p j)) = false from HQ.out j hlt) 27 w
          rw [show fop .mul .f64 (exS p j) (exS p j) = exS p (j + 1) from rfl] at c1
          go_wp2
          go_round
          case rel => exact ⟨j + 1, hlt, by go_num, rfl⟩
          case measure => simp [intOf]; omega
        · obtain rfl : j = 8 := by omega
          have c1 := fun w => conv_narrow HO.out w
          generalize exS p 8 = z at *
          go_wp2
          go_ret
          exact ⟨rfl, 0, rfl⟩
def RetAB (w : World) (e : Ending) (w' : World) : Prop := (∃ b : Bool, e = .returned (.bool b)) ∧ w' = w
def RetUpTo (N : Nat) (w : World) (e : Ending) (w' : World) : Prop := (∃ i : Nat, i < N ∧ e = .returned (.int .i64 (i : Int))) ∧ w' = w
theorem b10Long_calls (A B : Option Addr) (n c m d : Nat) (w : World) : Calls Try.prog 5 #[.slice A n c, .slice B m d] w (RetAB w) := by
  go_enter Try.func5, Try.ntmps5
  go_wp2
  all_goals go_ret
  all_goals exact ⟨⟨_, rfl⟩, rfl⟩
/-- a number from 0 to N - 1 -/
theorem b10At_calls (A : Option Addr) (n c : Nat) (xs : List Int) (hx : xs.length = n) (hw8 : ∀ z ∈ xs, (Lit.int .u8 z).wf = true) (k N : Nat) (hk : k < 1000) (hN : 1 < N) (hN2 : N < 1000000) (w : World) (ha : Rd w w.heap.size A (xs.map (Value.int .u8))) :
    Calls Try.prog 6 #[.slice A n c, .int .i64 (k : Int), .int .i64 (N : Int)] w (RetUpTo N w) := by
  by_cases hlt : k < n
  · have hkx : k < xs.length := by omega
    have h8 := hw8 _ (List.getElem_mem hkx)
    rcases ha with h0 | ⟨b, o, rfl, hb, hc⟩
    · have : (xs.map (Value.int .u8)).length = 0 := by rw [h0]; rfl
      rw [List.length_map] at this
      omega
    · have hc1 := hc k (.int .u8 xs[k]) (by rw [List.getElem?_map, List.getElem?_eq_getElem hkx]; rfl)
      have h8' : IntKind.u8.min ≤ xs[k] ∧ xs[k] ≤ IntKind.u8.max := by simpa [Lit.wf] using h8
      have hz : 0 ≤ xs[k] ∧ xs[k] ≤ 255 := h8'
      clear h8'
      clear hc h8 hw8
      generalize xs[k] = z at *
      obtain ⟨u, rfl⟩ : ∃ u : Nat, z = (u : Int) := ⟨z.toNat, by omega⟩
      have hmod : (u : Int).tmod (N : Int) = ((u % N : Nat) : Int) := rfl
      have hml : u % N < N := Nat.mod_lt _ (by omega)
      go_enter Try.func6, Try.ntmps6
      go_wp2
      go_ret
      exact ⟨⟨u % N, hml, by first | rfl | (congr 2; omega) | skip⟩, rfl⟩
  · clear ha hw8
    have hml : (k * 37 + 11) % N < N := Nat.mod_lt _ (by omega)
    go_enter Try.func6, Try.ntmps6
    go_wp2
    go_ret
    exact ⟨⟨(k * 37 + 11) % N, hml, by first | rfl | (congr 2; omega) | skip⟩, rfl⟩
theorem b10Gap_calls (a b : Nat) (h : nan .f64 (gapF a b) = false) (w : World) : Calls Try.prog 8 #[.float .f64 a, .float .f64 b] w (Ret (.float .f64 (gapF a b)) w) := by
  unfold gapF at h ⊢
  by_cases hc : (FloatKind.f64.format.order a b == some Ordering.lt) = true
  · rw [if_pos hc] at h ⊢
    have c1 := fun w => run_fop_det (P := Try.prog) h 27 w
    go_enter Try.func8, Try.ntmps8
    go_wp2
    go_ret
    exact ⟨rfl, 0, rfl⟩
  · rw [if_neg hc] at h ⊢
    have c1 := fun w => run_fop_det (P := Try.prog) h 27 w
    have hc2 : (FloatKind.f64.format.order a b == some Ordering.lt) = false := by simpa using hc
    clear hc
    go_enter Try.func8, Try.ntmps8
    go_wp2
    go_ret
    exact ⟨rfl, 0, rfl⟩
end Go.Proofs.Ytmehbfcmmffhmaa.Num
