/-
  The hexadecimal digits of the bits of a float32: the program's hexOf.
-/
import Derived.Test.YtkbfhooiloaokaaDoorHexF
import Derived.Test.YtkbfhooiloaokaaDoorShelfRep
namespace Go.Proofs.YtkbfhooiloaokaaDoor.Num
open Go.RowKit Go.Proofs.Fl Go.Proofs.Hx Go.Proofs.Tx
set_option linter.unusedVariables false
set_option linter.unusedSimpArgs false
theorem BitsOf_is (x : Nat) (hx : x < 4294967296) (w : World) : Calls Tryd.prog 64 #[.float .f32 x] w (Ret (.int .i64 (cn .f32 x)) w) := by
  go_enter Tryd.func64, Tryd.ntmps64
  go_wp2
  all_goals go_ret
  all_goals rename_i h
  all_goals rw [order_self] at h
  all_goals exact ⟨ret_int (by simp [cn, h, qn]), 0, rfl⟩
theorem bsize (l : List UInt8) : (⟨l.toArray⟩ : ByteArray).size = l.length := by
  show (l.toArray).size = l.length
  simp
theorem rep48 (c : Nat) : Go.Lib.repeatL [48] c = List.replicate c 48 := by
  have := Go.Lib.repeatL_replicate 48 1 c
  simpa using this
theorem hexOf_calls (x : Nat) (hx : x < 4294967296) (w : World) {B : Nat} (hB : B ≤ w.heap.size) (hD : Deb B w) :
    Calls Tryd.prog 48 #[.float .f32 x] w (RetStr (hex8 (cn .f32 x)) w) := by
  have hu := cn_lt hx
  have HC := hid (BitsOf_is x hx w)
  generalize cn .f32 x = u at *
  have HF := hid (fun m => FormatInt_16 u hu (w.drewN m) (B := B) hB (hD.on (below_drewN (Below.refl _ _) m)))
  obtain ⟨hp1, hp2⟩ := hex_pad 7 u (by simpa using hu)
  rw [← rep48] at hp2
  have HP := hid (show Go.Lib.repeatL [48] (8 - (hexDigits u).length) ++ hexDigits u = hex8 u from hp2)
  clear hp2 hD hx hB
  generalize hexDigits u = l at *
  have hl8 : l.length ≤ 8 := hp1
  obtain ⟨c, hc⟩ : ∃ c, 8 - l.length = c := ⟨_, rfl⟩
  rw [hc] at HP
  have hc8 : c ≤ 8 := by omega
  have hci : (8 : Int) - (l.length : Int) = (c : Int) := by omega
  have HR := hid (fun w' => Tryd.strings_Repeat ⟨#[48]⟩ c w' (by omega) (by show 1 * _ ≤ _; omega))
  have hsz := bsize l
  clear hc
  have hll : (Go.Lib.repeatL [48] c).length ≤ 8 := by rw [rep48]; simpa using hc8
  go_enter Tryd.func48, Tryd.ntmps48
  go_wp2_with (first | (go_at_call 64; refine HC.out.mono ?_; rintro e w1 ⟨rfl, n1, rfl⟩) | (go_at_call 36; refine (HF.out _).mono ?_; rintro e w2 ⟨rfl, hb⟩; have HB := hid hb; clear hb) | (go_at_call 65; refine (HR.out _).mono ?_; rintro e w3 ⟨rfl, hb⟩; have HB3 := hid hb; clear hb))
  go_ret
  refine ⟨?_, (below_drewN' HB.out).trans (HB3.out.mono HB.out.size)⟩
  rw [← HP.out, ← mk_append]
  rfl
end Go.Proofs.YtkbfhooiloaokaaDoor.Num
