/-
  The hexadecimal digits of the bits of a float32: the reference's l01Hex.
-/
import Derived.Test.YtkbfhooiloaokaaDoorDecW
import Derived.Test.YtkbfhooiloaokaaDoorBits
import Derived.Test.YtkbfhooiloaokaaDoorHexLaw
import Derived.Test.YtkbfhooiloaokaaDoorTextI
namespace Go.Proofs.YtkbfhooiloaokaaDoor.Num
open Go.RowKit Go.Proofs.Fl Go.Proofs.Hx
open Go.Lib (byteCells byteCells_length byteCells_append)
set_option linter.unusedVariables false
set_option linter.unusedSimpArgs false
theorem cn_lt {x : Nat} (hx : x < 4294967296) : cn .f32 x < 4294967296 := by
  unfold cn
  split
  · decide
  · exact hx
/-- the 16 digits as a constant text -/
def dig16 : ByteArray := ⟨#[48, 49, 50, 51, 52, 53, 54, 55, 56, 57, 97, 98, 99, 100, 101, 102]⟩
theorem dig16_at : ∀ k : Fin 16, dig16.data.toList[k.val]? = some (hexd k.val) := by decide +kernel
theorem idx_dig {P : Program} (s : ByteArray) (hs : ∀ k, k < 16 → s.data.toList[k]? = some (hexd k)) (hl : 16 ≤ s.size) (t : TypeId) (ht : P.underlying t = some .string) (kd : IntKind) (z : Int) (i : Nat) (hz : z = (i : Int)) (hi : i < 16) (w : World) :
    (Instr.index t (.string s) (.int kd z)).run P w = .ok (.int .u8 ((hexd i).toNat : Int)) w := by
  subst hz
  rw [run_index_string w t s kd _ ht, dif_pos ⟨by omega, by omega⟩]
  have e : ((i : Int)).toNat = i := by omega
  simp only [e]
  have h := hs i hi
  have : s[i]'(by omega) = hexd i := by
    rw [List.getElem?_eq_getElem (by simpa using (by omega : i < s.size))] at h
    have h2 : s.data[i]'(by show i < s.size; omega) = hexd i := by simpa using h
    exact h2
  rw [this]
theorem byte_snoc (l : List UInt8) (x : UInt8) : byteCells l ++ [.int .u8 (x.toNat : Int)] = byteCells (l ++ [x]) := by simp [byteCells]
theorem u8_new (w : World) (x : Value) : ∀ j u, [x][j]? = some u → (w.alloc (.cells #[x] 5)).cell? ((⟨w.heap.size, 0, none⟩ : Addr).add j) = some u := fun j u hu =>
  World.ownsRow.cells (own_one (w := w) (base := w.heap.size) (e := 5) x (Nat.le_refl _)) (g := w.heap.size) rfl j u hu
theorem and15 (u j : Nat) (hu : u < 4294967296) (hj : j < 8) : bits .and .i64 ((u : Int) / 2 ^ (28 - 4 * j)) 15 = ((u / 16 ^ (7 - j) % 16 : Nat) : Int) := by
  have e : ((u : Int) / 2 ^ (28 - 4 * j)) = ((u / 2 ^ (28 - 4 * j) : Nat) : Int) := by norm_cast
  have e2 : 2 ^ (28 - 4 * j) = 16 ^ (7 - j) := by rw [show (16 : Nat) = 2 ^ 4 from rfl, ← Nat.pow_mul, show 28 - 4 * j = 4 * (7 - j) by omega]
  rw [e, e2]
  have hle : u / 16 ^ (7 - j) ≤ u := Nat.div_le_self _ _
  have := i64_and_nat (u / 16 ^ (7 - j)) 15 (by omega) (by omega)
  rw [show ((15 : Nat) : Int) = 15 from rfl] at this
  rw [this, show (15 : Nat) = 2 ^ 4 - 1 from rfl, Nat.and_two_pow_sub_one_eq_mod]
theorem hexK_step (u j : Nat) (hj : j < 8) : hexK (j + 1) (u / 16 ^ (8 - (j + 1))) = hexK j (u / 16 ^ (8 - j)) ++ [hexd (u / 16 ^ (7 - j) % 16)] := by
  rw [hexK, show 8 - (j + 1) = 7 - j by omega, Nat.div_div_eq_div_mul, ← Nat.pow_succ, show (7 - j).succ = 8 - j by omega]
set_option maxRecDepth 100000 in
set_option maxHeartbeats 1600000 in
theorem l01Hex_calls (x : Nat) (hx : x < 4294967296) (w : World) :
    Calls Tryd.prog 63 #[.float .f32 x] w (RetStr (hex8 (cn .f32 x)) w) := by
  obtain ⟨i0, hi0, hz0, hz1, hz2⟩ := info_parts1 u8_info
  have hu := cn_lt hx
  have HC := hid (l01Bits_calls x hx)
  generalize cn .f32 x = u at *
  clear hx
  go_enter Tryd.func63, Tryd.ntmps63
  obtain ⟨SM, hSM⟩ : ∃ SM, SM = dig16 := ⟨_, rfl⟩
  rw [show (⟨#[48, 49, 50, 51, 52, 53, 54, 55, 56, 57, 97, 98, 99, 100, 101, 102]⟩ : ByteArray) = SM from hSM.symm]
  have HSM := hid hSM
  clear hSM
  go_wp2_with (go_at_call 68; refine (HC.out _).mono ?_; rintro e w1 ⟨rfl, nd, rfl⟩)
  have HB0 := hid (show Below w.heap.size w ((w.drewN nd).alloc (.cells #[] 5)) from (below_drewN (Below.refl _ _) nd).alloc (Nat.le_refl _) _)
  have HO0 := hid (show ((w.drewN nd).alloc (.cells #[] 5)).ownsRow w.heap.size 5 1 (.slice (some ⟨w.heap.size, 0, none⟩) 0 0) 0 [] from own_none (w := w.drewN nd) (Nat.le_refl _))
  go_loopw [4, 5] (fun o i wr => ∃ (j c : Nat) (A : Option Addr), j ≤ 8 ∧ i = .int .i64 (28 - 4 * (j : Int)) ∧ o = .slice A j c ∧ Hid (wr.ownsRow w.heap.size 5 1 (.slice A j c) j (byteCells (hexK j (u / 16 ^ (8 - j))))) ∧ Hid (Below w.heap.size w wr)) (fun _ i _ => (intOf i + 4).toNat)
  case atStart => exact ⟨0, 0, _, Nat.zero_le _, rfl, rfl, HO0, HB0⟩
  case round =>
    obtain ⟨j, c, A, hj, rfl, rfl, hown, hbel⟩ := hrel
    have hsz := hbel.out.size
    by_cases hlt : j < 8
    · have hd := and15 u j hu hlt
      have HST := hid (hexK_step u j hlt)
      have hd16 : u / 16 ^ (7 - j) % 16 < 16 := Nat.mod_lt _ (by decide)
      have hix := idx_dig (P := Tryd.prog) SM (by rw [HSM.out]; intro k hk; exact dig16_at ⟨k, hk⟩) (by rw [HSM.out]; decide) 9 Tryd.underlying9 .i64 _ _ rfl hd16
      obtain ⟨d, hdd⟩ : ∃ d, u / 16 ^ (7 - j) % 16 = d := ⟨_, rfl⟩
      rw [hdd] at hd HST hix hd16
      clear hdd
      generalize hexK j (u / 16 ^ (8 - j)) = l at *
      generalize hexd d = x0 at *
      go_wp2_with (at_builtin; refine wpList_append_lies _ rfl _ _ 68 rfl w.heap.size 5 i0 (Value.int .u8 0) 1 1 Tryd.underlying68 hi0 hz0 hz1 hz2 rfl (by decide) (.slice A j c) j (byteCells l) rfl (hown.out.alloc _) ⟨_, 0, none⟩ 1 1 [.int .u8 (x0.toNat : Int)] rfl rfl (u8_new _ _) (bytes_oneCell [x0]) (by decide) (by unfold maxLen; omega) (by omega) (by simp; omega) _ rfl ?_; intro g2 c4 w5 hown2 hgrow hat hlt2; rw [byte_snoc, ← HST.out] at hown2; have OW2 := hid hown2; have BL2 := hid (grown_below hbel.out hown.out hgrow); clear hown2 hgrow hat hlt2)
      go_roundw
      case rel => exact ⟨j + 1, c4, _, hlt, by congr 1; omega, rfl, OW2, BL2⟩
      case measure => simp [intOf]; omega
    · obtain rfl : j = 8 := by omega
      have ho := hown.out
      rw [show u / 16 ^ (8 - 8) = u by simp] at ho
      have hsh := own_succ1 ho
      obtain ⟨g, cap, he, _⟩ := hsh
      simp only [Value.slice.injEq] at he
      obtain ⟨rfl, _, rfl⟩ := he
      have hcv := conv_own ho (hexK_length 8 u)
      clear ho
      have HH := hid (show hexK 8 u = hex8 u from rfl)
      go_wp2_with fail
      go_ret
      exact ⟨by rw [← HH.out]; rfl, hbel.out⟩
end Go.Proofs.YtkbfhooiloaokaaDoor.Num
