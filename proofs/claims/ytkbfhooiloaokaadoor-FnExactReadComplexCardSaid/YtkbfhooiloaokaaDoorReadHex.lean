/-
  A float32 from its 8 hexadecimal digits (the program's readHex).
-/
import Derived.Test.YtkbfhooiloaokaaDoorPuI
import Derived.Test.YtkbfhooiloaokaaDoorReadDec
import Derived.Test.YtkbfhooiloaokaaDoorShelfErr
import Derived.Test.YtkbfhooiloaokaaDoorHexOf
namespace Go.Proofs.YtkbfhooiloaokaaDoor.Num
open Go.RowKit Go.Proofs.Fl Go.Proofs.Hx
set_option linter.unusedVariables false
set_option linter.unusedSimpArgs false
theorem gErrSyn : Tryd.prog.globalNamed "strconv.ErrSyntax" = some 2 := by kernel_rfl
theorem Errs.cell {B : Nat} {w : World} (h : Errs B w) : ∃ a : Addr, ∀ w', Below B w w' → w'.cell? ⟨2, 0, none⟩ = some (.iface 127 (.pointer (some a))) :=
  h.synt.imp fun a ha w' hb => by simpa using World.var?_cell gErrSyn (ha w' hb) 0
theorem ParseUint_16 (t : ByteArray) (h8 : t.size = 8) (w : World) {B : Nat} (hB : B ≤ w.heap.size) (hE : Errs B w) :
    Calls Tryd.prog 70 #[.string t, .int .i64 16, .int .i64 32] w fun e w' => (∃ v, e = .returned (.tuple #[.int .u64 (((rdU t.data.toList).getD 0 : Nat) : Int), v])) ∧ Below w.heap.size w w' := by
  have HC := hid (iParseUint_16 t h8 w)
  have HW := hid (Lib.bytesWorld_below w 5 t)
  obtain ⟨a, ha⟩ := hE.cell
  have HE := hid (Tryd.strconv_toError_syntax ⟨#[80, 97, 114, 115, 101, 85, 105, 110, 116]⟩ t 16 32 _ (Lib.bytesWorld w 5 t) (by omega) (ha _ (HW.out.mono hB)) (.inr ⟨_, _, rfl⟩))
  clear hE ha
  generalize Lib.bytesWorld w 5 t = W1 at *
  cases hr : rdU t.data.toList with
  | some u =>
    rw [hr] at HC
    have HC2 := hid (show Calls Tryd.prog 77 #[.string t, .int .i64 16, .int .i64 32] w fun e w' => e = .returned (.tuple #[.int .u64 (u : Int), .nilIface]) ∧ w' = W1 from HC.out)
    clear hr HC HE
    go_enter Tryd.func70, Tryd.ntmps70
    go_wp2_with (go_at_call 77; refine HC2.out.mono ?_; rintro e w1 ⟨rfl, rfl⟩)
    go_ret2
    exact ⟨⟨_, rfl⟩, HW.out⟩
  | none =>
    rw [hr] at HC
    have HC2 := hid (show Calls Tryd.prog 77 #[.string t, .int .i64 16, .int .i64 32] w fun e w' => e = .returned (.tuple #[.int .u64 0, .iface 90 (.int .i64 2)]) ∧ w' = W1 from HC.out)
    clear hr HC
    go_enter Tryd.func70, Tryd.ntmps70
    go_wp2_with (first | (go_at_call 77; refine HC2.out.mono ?_; rintro e w1 ⟨rfl, rfl⟩) | (go_at_call 60; refine HE.out.mono ?_; rintro e w2 ⟨N, rfl, h1, h2, h3⟩; have H3 := hid h3; clear h1 h2 h3))
    go_ret2
    exact ⟨⟨_, rfl⟩, HW.out.trans (H3.out.mono HW.out.size)⟩
theorem readHex_calls (t : ByteArray) (h8 : t.size = 8) (w : World) {B : Nat} (hB : B ≤ w.heap.size) (hE : Errs B w) :
    Calls Tryd.prog 53 #[.string t] w fun e w' => e = .returned (.float .f32 ((rdU t.data.toList).getD 0)) ∧ Below w.heap.size w w' := by
  have HC := hid (ParseUint_16 t h8 w hB hE)
  have hu : (rdU t.data.toList).getD 0 < 4294967296 := by
    cases hr : rdU t.data.toList with
    | some u => exact rdU_lt (by simpa using h8) hr
    | none => exact Nat.zero_lt_of_lt (by decide : 0 < 4294967296)
  clear hE
  generalize (rdU t.data.toList).getD 0 = u at *
  go_enter Tryd.func53, Tryd.ntmps53
  go_wp2_with (go_at_call 70; refine HC.out.mono ?_; rintro e w1 ⟨⟨v, rfl⟩, hb⟩; have HB := hid hb; clear hb)
  go_ret
  exact ⟨rfl, HB.out⟩
end Go.Proofs.YtkbfhooiloaokaaDoor.Num
