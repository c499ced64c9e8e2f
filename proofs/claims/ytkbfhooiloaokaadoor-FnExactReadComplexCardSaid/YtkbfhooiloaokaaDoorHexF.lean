/-
  The library's hexadecimal numeral (FormatInt at base 16), walked: there is no contract at that base.
-/
import Derived.Test.YtkbfhooiloaokaaDoorHexS
import Derived.Test.YtkbfhooiloaokaaDoorDecimal
namespace Go.Proofs.YtkbfhooiloaokaaDoor.Num
open Go.RowKit Go.Proofs.Fl Go.Proofs.Hx
open Go.Lib (byteCells byteCells_length byteCells_append)
set_option linter.unusedVariables false
set_option linter.unusedSimpArgs false
/-- the one place of the library's table that is read at base 16, whatever is done from block B on -/
def Deb (B : Nat) (w : World) : Prop := ∀ w', Below B w w' → w'.cell? ⟨5, 15, none⟩ = some (.int .u8 4)
theorem Deb.on {B : Nat} {w w1 : World} (h : Deb B w) (hb : Below B w w1) : Deb B w1 := fun w' h' => h w' (hb.trans h')
theorem Deb.of {w : World} (h : w.cell? ⟨5, 15, none⟩ = some (.int .u8 4)) : Deb w.heap.size w := fun w' hb =>
  (hb.cell (p := ⟨5, 15, none⟩) (World.block_lt_of_cell? w _ h)).trans h
theorem TrailingZeros64_16 (w : World) (h : w.cell? ⟨5, 15, none⟩ = some (.int .u8 4)) : Calls Tryd.prog 109 #[.int .u64 16] w (Ret (.int .i64 4) w) := by
  have he : IntKind.u64.wrap (bits BinOp.and IntKind.u64 16 (IntKind.u64.wrap (-16)) * 285870213051353865) / 288230376151711744 = 15 := by decide +kernel
  go_enter Tryd.func109, Tryd.ntmps109
  go_wp2
  go_ret
  exact ⟨rfl, 0, rfl⟩
theorem TrailingZeros_16 (w : World) (h : w.cell? ⟨5, 15, none⟩ = some (.int .u8 4)) : Calls Tryd.prog 94 #[.int .u64 16] w (Ret (.int .i64 4) w) := by
  have HC := hid (TrailingZeros64_16 w h)
  go_enter Tryd.func94, Tryd.ntmps94
  go_wp2_with (go_at_call 109; refine HC.out.mono ?_; rintro e w1 ⟨rfl, n, rfl⟩)
  go_ret
  exact ⟨rfl, n, rfl⟩
theorem isPow_16 (w : World) : Calls Tryd.prog 93 #[.int .i64 16] w (Ret (.bool true) w) := by
  have he : bits BinOp.and IntKind.i64 16 15 = 0 := by decide +kernel
  go_enter Tryd.func93, Tryd.ntmps93
  go_wp2
  go_ret
  exact ⟨rfl, 0, rfl⟩
/-- what the digits in the array tell: l is written, u is left -/
def HexInv (n u : Nat) (l : List UInt8) : Prop := hexDigits n = hexDigits u ++ l
/-- the array of 65 bytes, the last of them written -/
def arr65 (i : Nat) (l : List UInt8) : List Value := List.replicate i (.int .u8 0) ++ byteCells l
theorem arr65_length (i : Nat) (l : List UInt8) : (arr65 i l).length = i + l.length := by simp [arr65, byteCells_length]
theorem arr65_set (i : Nat) (l : List UInt8) (x : UInt8) : (arr65 (i + 1) l).set i (.int .u8 (x.toNat : Int)) = arr65 i (x :: l) := by
  unfold arr65
  rw [List.replicate_succ', List.append_assoc, List.set_append_right _ _ (by simp)]
  simp [byteCells]
def digs : ByteArray := ⟨#[48, 49, 50, 51, 52, 53, 54, 55, 56, 57, 97, 98, 99, 100, 101, 102, 103, 104, 105, 106, 107, 108, 109, 110, 111, 112, 113, 114, 115, 116, 117, 118, 119, 120, 121, 122]⟩
theorem digs_at : ∀ k : Fin 16, digs.data.toList[k.val]? = some (hexd k.val) := by decide +kernel
theorem u64_and15 (u : Nat) (hu : u < 4294967296) : bits .and .u64 (u : Int) 15 = ((u % 16 : Nat) : Int) := by
  have := u64_and_nat u 15 (by omega) (by omega)
  rw [show ((15 : Nat) : Int) = 15 from rfl] at this
  rw [this, show (15 : Nat) = 2 ^ 4 - 1 from rfl, Nat.and_two_pow_sub_one_eq_mod]
theorem HexInv.start (n : Nat) : HexInv n n [] := by unfold HexInv; simp
theorem HexInv.round {n u : Nat} {l : List UInt8} (h : HexInv n u l) (h16 : ¬ u < 16) : HexInv n (u / 16) (hexd (u % 16) :: l) := by
  unfold HexInv at *
  rw [h, show hexDigits u = hexDigits (u / 16) ++ [hexd (u % 16)] by rw [hexDigits, dif_neg h16], List.append_assoc]
  rfl
theorem HexInv.done {n u : Nat} {l : List UInt8} (h : HexInv n u l) (h16 : u < 16) : hexDigits n = hexd u :: l := by
  unfold HexInv at *
  rw [h, show hexDigits u = [hexd u] by rw [hexDigits, dif_pos h16]]
  rfl
theorem HexInv.len {n u : Nat} {l : List UInt8} (h : HexInv n u l) (hn : (hexDigits n).length ≤ 8) : l.length ≤ 7 := by
  have e := congrArg List.length h
  have := hexDigits_pos u
  simp only [List.length_append] at e
  omega
theorem slice_arr (g k : Nat) (hk : k < 65) (W : World) : (Instr.sliceAt 111 (.pointer (some ⟨g, 0, none⟩)) (some (.int .i64 (k : Int))) none none).run Tryd.prog W = .ok (.slice (some ⟨g, k, none⟩) (65 - k) (65 - k)) W := by
  have hal : Tryd.prog.arrayLen 111 = 65 := by kernel_rfl
  rw [run_sliceAt_array_l W 111 ⟨g, 0, none⟩ (by kernel_rfl) .i64 (k : Int) (by omega) (by rw [hal]; omega)]
  rw [hal]
  go_simp
  omega
theorem conv_arr {w : World} {g k n : Nat} {e : Nat} {l : List UInt8} (h : w.ownsRow g e 1 (.slice (some ⟨g, 0, none⟩) 65 65) 65 (arr65 k l)) (hl : l.length = n) : (convert 68 9 (.slice (some ⟨g, k, none⟩) n n)).run Tryd.prog w = .ok (.string ⟨l.toArray⟩) w := by
  subst hl
  refine run_convert_bytes_back w _ _ 5 _ _ l Tryd.underlying68 Tryd.underlying5 Tryd.underlying9 fun j hj => ?_
  have hk : k + l.length = 65 := by have := h.1; rw [arr65_length] at this; omega
  rw [show ((⟨g, k, none⟩ : Addr).add j) = ⟨g, k + j, none⟩ by unfold Addr.add; split <;> simp_all]
  rw [World.ownsRow.cellAt h (k + j) (by omega)]
  unfold arr65
  rw [List.getElem?_append_right (by simp)]
  simp [byteCells, List.getElem?_map, List.getElem?_eq_getElem hj]
set_option maxRecDepth 100000 in
set_option maxHeartbeats 1600000 in
theorem formatBits_calls (n : Nat) (hn : n < 4294967296) (w : World) {B : Nat} (hB : B ≤ w.heap.size) (hD : Deb B w) :
    Calls Tryd.prog 76 #[.slice none 0 0, .int .u64 n, .int .i64 16, .bool false, .bool false] w fun e w' => e = .returned (.tuple #[.slice none 0 0, .string ⟨(hexDigits n).toArray⟩]) ∧ Below w.heap.size w w' := by
  have HT := hid (fun w' (h : Below w.heap.size w w') => TrailingZeros_16 w' (hD w' (h.mono hB)))
  have hlen := (hex_pad 7 n (by simpa using hn)).1
  clear hD hB
  go_enter Tryd.func76, Tryd.ntmps76
  obtain ⟨SM, hSM⟩ : ∃ SM, SM = digs := ⟨_, rfl⟩
  rw [show (⟨#[48, 49, 50, 51, 52, 53, 54, 55, 56, 57, 97, 98, 99, 100, 101, 102, 103, 104, 105, 106, 107, 108, 109, 110, 111, 112, 113, 114, 115, 116, 117, 118, 119, 120, 121, 122]⟩ : ByteArray) = SM from hSM.symm]
  have HSM := hid hSM
  clear hSM
  have HO0 := hid (show (w.alloc (.cells Tryd.zeroCells111 111)).ownsRow w.heap.size 111 1 (.slice (some ⟨w.heap.size, 0, none⟩) 65 65) 65 (arr65 65 []) from
    ⟨by simp [arr65, byteCells], .inr ⟨w.heap.size, 65, Tryd.zeroCells111, rfl, Nat.le_refl _, heap_alloc_new w _, Nat.le_refl _, by decide, by kernel_rfl, by kernel_rfl⟩⟩)
  have HB0 := hid (show Below w.heap.size w (w.alloc (.cells Tryd.zeroCells111 111)) from (Below.refl _ _).alloc (Nat.le_refl _) _)
  go_wp2_with (first | (go_at_call 93; refine (isPow_16 _).mono ?_; rintro e w1 ⟨rfl, n1, rfl⟩) | (go_at_call 94; refine (HT.out _ (below_drewN HB0.out _)).mono ?_; rintro e w2 ⟨rfl, n2, rfl⟩))
  go_loopw [1, 13] (fun q i wr => ∃ (u k : Nat) (l : List UInt8), q = .int .u64 u ∧ i = .int .i64 k ∧ k + l.length = 65 ∧ l.length ≤ 7 ∧ u < 4294967296 ∧ Hid (HexInv n u l) ∧ Hid (wr.ownsRow w.heap.size 111 1 (.slice (some ⟨w.heap.size, 0, none⟩) 65 65) 65 (arr65 k l)) ∧ Hid (Below w.heap.size w wr)) (fun _ i _ => (intOf i).toNat)
  case atStart => exact ⟨n, 65, [], rfl, rfl, rfl, by decide, hn, HexInv.start n, HO0.out, below_drewN HB0.out _⟩
  case round =>
    obtain ⟨u, k, l, rfl, rfl, hk, hl, hu, hinv, hown, hbel⟩ := hrel
    by_cases h16 : u < 16
    · obtain ⟨k, rfl⟩ : ∃ k', k = k' + 1 := ⟨k - 1, by omega⟩
      have HN := hid (hinv.out.done h16)
      have hix := idx_dig (P := Tryd.prog) SM (by rw [HSM.out]; intro k hk; exact digs_at ⟨k, hk⟩) (by rw [HSM.out]; decide) 9 Tryd.underlying9 .u64 _ _ rfl h16
      have hold : ∃ v, wr.cell? ⟨w.heap.size, k, none⟩ = some v := by
        rw [World.ownsRow.cellAt hown.out k (by omega)]
        exact ⟨_, List.getElem?_eq_getElem (by rw [arr65_length]; omega)⟩
      obtain ⟨v, hold⟩ := hold
      have hfr := World.ownsRow.frozenAt hown.out k
      have hso := (World.ownsRow.stored hown.out k (.int .u8 ((hexd u).toNat : Int))).1
      rw [arr65_set] at hso
      have hsl := slice_arr w.heap.size k (by omega)
      have hcv := conv_arr (n := 65 - k) hso (by simp only [List.length_cons]; omega)
      have HSB := hid (hbel.out.setCell (p := ⟨w.heap.size, k, none⟩) (Nat.le_refl _) (.int .u8 ((hexd u).toNat : Int)))
      clear hso hinv hown hbel
      generalize hexd u = x0 at *
      go_wp2_with fail
      go_ret2
      exact ⟨by rw [HN.out]; rfl, HSB.out⟩
    · obtain ⟨k, rfl⟩ : ∃ k', k = k' + 1 := ⟨k - 1, by omega⟩
      have hr := hinv.out.round h16
      have hl2 := hr.len hlen
      simp only [List.length_cons] at hl2
      have HN := hid hr
      have hd16 : u % 16 < 16 := Nat.mod_lt _ (by decide)
      have hix := idx_dig (P := Tryd.prog) SM (by rw [HSM.out]; intro k hk; exact digs_at ⟨k, hk⟩) (by rw [HSM.out]; decide) 9 Tryd.underlying9 .u64 _ _ rfl hd16
      have hand : bits .and .u64 (u : Int) 15 = ((u % 16 : Nat) : Int) := u64_and15 u (by omega)
      have hold : ∃ v, wr.cell? ⟨w.heap.size, k, none⟩ = some v := by
        rw [World.ownsRow.cellAt hown.out k (by omega)]
        exact ⟨_, List.getElem?_eq_getElem (by rw [arr65_length]; omega)⟩
      obtain ⟨v, hold⟩ := hold
      have hfr := World.ownsRow.frozenAt hown.out k
      have hso := (World.ownsRow.stored hown.out k (.int .u8 ((hexd (u % 16)).toNat : Int))).1
      rw [arr65_set] at hso
      have HSO := hid hso
      have HSB := hid (hbel.out.setCell (p := ⟨w.heap.size, k, none⟩) (Nat.le_refl _) (.int .u8 ((hexd (u % 16)).toNat : Int)))
      have hu16 : u / 16 < 4294967296 := by omega
      obtain ⟨d, hd⟩ : ∃ d, u % 16 = d := ⟨_, rfl⟩
      rw [hd] at HN hix hand HSO HSB hd16
      clear hr hso hd hinv hown hbel
      generalize hexd d = x0 at *
      go_wp2_with fail
      go_roundw
      case rel => exact ⟨u / 16, k, x0 :: l, by go_num, by go_num, by simp only [List.length_cons]; omega, hl2, hu16, HN, HSO, HSB⟩
      case measure => simp [intOf]
theorem iFormatInt_16 (n : Nat) (hn : n < 4294967296) (w : World) {B : Nat} (hB : B ≤ w.heap.size) (hD : Deb B w) :
    Calls Tryd.prog 57 #[.int .i64 n, .int .i64 16] w (RetStr (hexDigits n) w) := by
  have HC := hid (formatBits_calls n hn w hB hD)
  clear hD
  go_enter Tryd.func57, Tryd.ntmps57
  go_wp2_with (go_at_call 76; refine HC.out.mono ?_; rintro e w1 ⟨rfl, hb⟩; have HB := hid hb; clear hb)
  go_ret
  exact ⟨rfl, HB.out⟩
theorem FormatInt_16 (n : Nat) (hn : n < 4294967296) (w : World) {B : Nat} (hB : B ≤ w.heap.size) (hD : Deb B w) :
    Calls Tryd.prog 36 #[.int .i64 n, .int .i64 16] w (RetStr (hexDigits n) w) := by
  have HC := hid (iFormatInt_16 n hn w hB hD)
  clear hD
  go_enter Tryd.func36, Tryd.ntmps36
  go_wp2_with (go_at_call 57; refine HC.out.mono ?_; rintro e w1 ⟨rfl, hb⟩; have HB := hid hb; clear hb)
  go_ret
  exact ⟨rfl, HB.out⟩
end Go.Proofs.YtkbfhooiloaokaaDoor.Num
