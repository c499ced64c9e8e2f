/-
  The program's number with a decimal text (ReadDecimal), by the library's contracts.
-/
import Derived.Test.YtkbfhooiloaokaaDoorDecimal
import Derived.Test.YtkbfhooiloaokaaDoorValue
import Derived.Test.YtkbfhooiloaokaaDoorShelfPar
import Derived.Stop.LaidErr
namespace Go.Proofs.YtkbfhooiloaokaaDoor.Num
open Go.RowKit Go.Proofs.Fl Go.Proofs.Dc
open Go.Lib (itoa)
set_option linter.unusedVariables false
set_option linter.unusedSimpArgs false
theorem var_below {P : Program} {w w' : World} {n : String} {cs : Array Value} (h : w.var? P n = some cs) (hb : Below w.heap.size w w') : w'.var? P n = some cs := by
  unfold World.var? at *
  cases hg : P.globalNamed n with
  | none => simp [hg] at h
  | some g =>
    simp only [hg, Option.bind_some] at h ⊢
    have hlt : g < w.heap.size := by
      rcases Nat.lt_or_ge g w.heap.size with h' | h'
      · exact h'
      · rw [Array.getElem?_eq_none h'] at h; simp at h
    rw [hb.block g hlt]
    exact h
/-- the library's two errors hold pointers, whatever is done from block B on -/
structure Errs (B : Nat) (w : World) : Prop where
  synt : ∃ a : Addr, ∀ w', Below B w w' → w'.var? Tryd.prog "strconv.ErrSyntax" = some #[.iface 127 (.pointer (some a))]
  rang : ∃ a : Addr, ∀ w', Below B w w' → w'.var? Tryd.prog "strconv.ErrRange" = some #[.iface 127 (.pointer (some a))]
theorem Errs.of {w : World} (h1 : ∃ a : Addr, w.var? Tryd.prog "strconv.ErrSyntax" = some #[.iface 127 (.pointer (some a))]) (h2 : ∃ a : Addr, w.var? Tryd.prog "strconv.ErrRange" = some #[.iface 127 (.pointer (some a))]) : Errs w.heap.size w :=
  ⟨h1.imp fun a h w' hb => var_below h hb, h2.imp fun a h w' hb => var_below h hb⟩
theorem Errs.on {B : Nat} {w w1 : World} (h : Errs B w) (hb : Below B w w1) : Errs B w1 := ⟨h.synt.imp fun a h w' h' => h w' (hb.trans h'), h.rang.imp fun a h w' h' => h w' (hb.trans h')⟩
theorem isValue_is (n : Int) (b : Bool) (h : inB n (-1000000000000000) 1000000000000000 = b) (w : World) : Calls Tryd.prog 39 #[.int .i64 n] w (Ret (.bool b) w) := by
  have H := hid h
  clear h
  go_enter Tryd.func39, Tryd.ntmps39
  go_wp2_with (go_at_call 61; refine (within_is _ _ _ _ H.out _).mono ?_; rintro e w1 ⟨rfl, nd, rfl⟩)
  go_ret
  exact ⟨rfl, nd, rfl⟩
theorem ok_below {w w' : World} {s : ByteArray} (h : w' = w ∨ ∃ t, w' = Lib.bytesWorld w 5 t) : Below w.heap.size w w' := by
  rcases h with rfl | ⟨t, rfl⟩
  · exact Below.refl _ _
  · exact Lib.bytesWorld_below _ _ _
set_option maxRecDepth 100000 in
set_option maxHeartbeats 1600000 in
theorem ReadDecimal_calls (s : ByteArray) (hs : s.size ≤ 1048576) (w : World) {B : Nat} (hB : B ≤ w.heap.size) (hT : Tab B w) (hE : Errs B w) :
    Calls Tryd.prog 13 #[.string s] w (RetRd (rdDec s.data.toList) w) := by
  cases hp : Lib.parseIntB 64 s.data.toList
  case ok v =>
    have HC := hid (Tryd.strconv_ParseInt_10_at64_ok s (by omega) v hp w)
    have HR := hid (rdDec_parse hp)
    clear hp hE
    by_cases hin : -1000000000000000 ≤ v ∧ v ≤ 1000000000000000
    · have HV := hid (inB_yes hin.1 hin.2)
      have HD := hid (fun w' (h : Below w.heap.size w w') => Decimal_calls v (by omega) (by omega) w' (hT.on (h.mono hB)))
      clear hT
      generalize itoa v = l at *
      by_cases hl : l = s.data.toList
      · rw [if_pos ⟨hin, hl⟩] at HR
        have hse : (l == s.toList) = true := by rw [ByteArray.toList_eq, hl]; exact beq_self_eq_true _
        clear hl hin
        go_enter Tryd.func13, Tryd.ntmps13
        go_wp2_with (first | (go_at_call 38; refine HC.out.mono ?_; rintro e w1 ⟨rfl, hw⟩; have HW := hid (ok_below (s := s) hw); clear hw) | (go_at_call 39; refine (isValue_is _ _ HV.out _).mono ?_; rintro e w2 ⟨rfl, nd, rfl⟩) | (go_at_call 11; refine (HD.out _ (below_drewN HW.out _)).mono ?_; rintro e w3 ⟨rfl, hb⟩; have HW3 := hid hb; clear hb))
        go_ret2
        exact ⟨by rw [HR.out]; rfl, HW.out.trans ((below_drewN' HW3.out).mono HW.out.size)⟩
      · rw [if_neg (fun h => hl h.2)] at HR
        have hse : (l == s.toList) = false := by rw [ByteArray.toList_eq]; simpa using hl
        clear hl hin
        go_enter Tryd.func13, Tryd.ntmps13
        go_wp2_with (first | (go_at_call 38; refine HC.out.mono ?_; rintro e w1 ⟨rfl, hw⟩; have HW := hid (ok_below (s := s) hw); clear hw) | (go_at_call 39; refine (isValue_is _ _ HV.out _).mono ?_; rintro e w2 ⟨rfl, nd, rfl⟩) | (go_at_call 11; refine (HD.out _ (below_drewN HW.out _)).mono ?_; rintro e w3 ⟨rfl, hb⟩; have HW3 := hid hb; clear hb))
        go_ret2
        exact ⟨by rw [HR.out]; rfl, HW.out.trans ((below_drewN' HW3.out).mono HW.out.size)⟩
    · have HV := hid (inB_no (n := v) (lo := -1000000000000000) (hi := 1000000000000000) (by omega))
      rw [if_neg (fun h => hin h.1)] at HR
      clear hin hT
      go_enter Tryd.func13, Tryd.ntmps13
      go_wp2_with (first | (go_at_call 38; refine HC.out.mono ?_; rintro e w1 ⟨rfl, hw⟩; have HW := hid (ok_below (s := s) hw); clear hw) | (go_at_call 39; refine (isValue_is _ _ HV.out _).mono ?_; rintro e w2 ⟨rfl, nd, rfl⟩))
      go_ret2
      exact ⟨by rw [HR.out]; rfl, below_drewN HW.out _⟩
  case range =>
    have HR := hid (rdDec_bad (l := s.data.toList) (fun v h => by rw [hp] at h; cases h))
    obtain ⟨a, ha⟩ := hE.rang
    have HC := hid (Tryd.strconv_ParseInt_10_at64_range_var s (by omega) hp _ _ w (ha w (Below.refl _ _)))
    clear hp hT ha hE
    go_enter Tryd.func13, Tryd.ntmps13
    go_wp2_with (first | (go_at_call 38; refine HC.out.mono ?_; rintro e w1 ⟨N, rfl, h1, h2, h3⟩; have HW := hid h3; clear h1 h2 h3))
    go_ret2
    exact ⟨by rw [HR.out]; rfl, HW.out⟩
  have HR := hid (rdDec_bad (l := s.data.toList) (fun v h => by rw [hp] at h; cases h))
  obtain ⟨a, ha⟩ := hE.synt
  have HC := hid (Tryd.strconv_ParseInt_10_at64_syntax_var s (by omega) (hp.trans (show _ = Go.Lib.parseIntB 64 [] from rfl)) _ _ w (ha w (Below.refl _ _)))
  clear hp hT ha hE
  go_enter Tryd.func13, Tryd.ntmps13
  go_wp2_with (first | (go_at_call 38; refine HC.out.mono ?_; rintro e w1 ⟨N, rfl, h1, h2, h3⟩; have HW := hid h3; clear h1 h2 h3))
  go_ret2
  exact ⟨by rw [HR.out]; rfl, HW.out⟩
theorem sReadDecimal_calls (s : ByteArray) (hs : s.size ≤ 1048576) (w : World) : Calls Tryd.prog 12 #[.string s] w (RetRd (rdDec s.data.toList) w) := by
  have HC := hid (l01Value_calls s w hs)
  go_enter Tryd.func12, Tryd.ntmps12
  go_wp2_with (go_at_call 37; refine HC.out.mono ?_; rintro e w' ⟨rfl, hb⟩)
  go_ret2
  exact ⟨rfl, hb⟩
end Go.Proofs.YtkbfhooiloaokaaDoor.Num
