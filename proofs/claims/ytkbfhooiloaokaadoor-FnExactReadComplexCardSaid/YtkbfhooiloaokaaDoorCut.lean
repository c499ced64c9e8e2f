/-
  A text cut at its commas: the reference's l01Cut.
-/
import Derived.Test.YtkbfhooiloaokaaDoorJoined
import Derived.Test.YtkbfhooiloaokaaDoorCutLaw
import Derived.Test.YtkbfhooiloaokaaDoorTextI
namespace Go.Proofs.YtkbfhooiloaokaaDoor.Num
open Go.RowKit Go.Proofs.Fl Go.Proofs.Tx
set_option linter.unusedVariables false
set_option linter.unusedSimpArgs false
/-- a list of texts of the call's own -/
def RetT (ts : List (List UInt8)) (w : World) (e : Ending) (w' : World) : Prop := ∃ A c, e = .returned (.slice A ts.length c) ∧ OwnT w' w.heap.size (.slice A ts.length c) ts.length ts ∧ Below w.heap.size w w'
theorem piece_told (s : ByteArray) (f i : Nat) (hi : i ≤ s.size) : s.extract f i = ⟨((s.data.toList.take i).drop f).toArray⟩ := by
  rw [← Go.Lib.mk_data (s.extract f i), Go.Lib.extract_data, List.drop_take]
theorem len_snoc {α : Type} (l : List α) (x : α) : (l ++ [x]).length = l.length + 1 := by simp
set_option maxRecDepth 100000 in
set_option maxHeartbeats 1600000 in
theorem l01Cut_calls (s : ByteArray) (hs : s.size ≤ 1048576) (w : World) :
    Calls Tryd.prog 62 #[.string s, .int .u8 44] w (RetT (cut s.data.toList) w) := by
  obtain ⟨i0, hi0, hz0, hz1, hz2⟩ := info_parts1 str_info
  have hll : s.data.toList.length = s.size := by simp
  have HS := hid (CutInv.start s.data.toList)
  go_enter Tryd.func62, Tryd.ntmps62
  go_wp2_with fail
  go_loopw [5, 6, 7] (fun o q i wr => ∃ (k f c2 : Nat) (A2 : Option Addr) (out : List (List UInt8)), i = .int .i64 k ∧ q = .int .i64 f ∧ o = .slice A2 out.length c2 ∧ out.length ≤ k ∧
      ((k ≤ s.size ∧ Hid (CutInv s.data.toList k out f)) ∨ (k = s.size + 1 ∧ Hid (out = cut s.data.toList))) ∧ Hid (OwnT wr w.heap.size (.slice A2 out.length c2) out.length out) ∧ Hid (Below w.heap.size w wr)) (fun _ _ i _ => s.size + 1 - (intOf i).toNat)
  case atStart => exact ⟨0, 0, 0, _, [], rfl, rfl, rfl, Nat.le_refl _, .inl ⟨Nat.zero_le _, HS⟩, own_none (Nat.le_refl _), (Below.refl _ _).alloc (Nat.le_refl _) _⟩
  case round =>
    obtain ⟨k, f, c2, A2, out, rfl, rfl, rfl, hok, hinv, hown, hbel⟩ := hrel
    rcases hinv with ⟨hk, hinv⟩ | ⟨rfl, hdone⟩
    · have hsz := hbel.out.size
      have hfk := hinv.out.1
      by_cases hlt : k < s.size
      · have hkl : k < s.data.toList.length := by omega
        obtain ⟨c, hsk⟩ : ∃ c, s[k] = c := ⟨_, rfl⟩
        have hget : s.data.toList[k] = c := by rw [← hsk]; rfl
        by_cases h44 : c = 44
        · subst h44
          have HN := hid (hinv.out.sep hkl hget)
          have hex := piece_told s f k hk
          have hks : ((k : Int) == (s.size : Int)) = false := by simp; omega
          have HO := hid hown.out
          clear hget hinv hown
          generalize (s.data.toList.take k).drop f = t at *
          obtain ⟨q, hq⟩ : ∃ q, out.length = q := ⟨_, rfl⟩
          have HQ := hid hq
          rw [hq] at HO hok
          simp only [hq]
          clear hq
          go_wp2_with (at_builtin; refine wpList_append_lies _ rfl _ _ 57 rfl w.heap.size 9 i0 (Value.string ByteArray.empty) 1 16 Tryd.underlying57 hi0 hz0 hz1 hz2 rfl (by decide) (.slice A2 q c2) q (strs out) rfl (HO.out.alloc _) ⟨_, 0, none⟩ 1 1 [.string ⟨t.toArray⟩] rfl rfl (str_new _ w.heap.size _) (strs_oneCell [t]) (by decide) (by unfold maxLen; omega) (by omega) (by simp; omega) _ rfl ?_; intro g2 c3 w5 hown2 hgrow hat hlt2; rw [strs_snoc] at hown2; have OW2 := hid hown2; have BL2 := hid (grown_below hbel.out HO.out hgrow); clear hown2 hgrow hat hlt2)
          go_roundw
          case rel => exact ⟨k + 1, k + 1, c3, _, out ++ [t], by go_num, by go_num, by rw [len_snoc, HQ.out], by rw [len_snoc, HQ.out]; omega, .inl ⟨hlt, HN⟩, by rw [len_snoc, HQ.out]; exact OW2, BL2⟩
          case measure => simp [intOf]; omega
        · have HN := hid (hinv.out.more hkl (by rw [hget]; exact h44))
          have hks : ((k : Int) == (s.size : Int)) = false := by simp; omega
          have h44n : ¬ (c.toNat : Int) = 44 := fun e => h44 (UInt8.toNat_inj.1 (by rw [show (44 : UInt8).toNat = 44 from rfl]; omega))
          have h44' : ((c.toNat : Int) == 44) = false := by simpa using h44n
          go_wp2_with fail
          go_roundw
          case rel => exact ⟨k + 1, f, c2, A2, out, by go_num, rfl, rfl, by omega, .inl ⟨hlt, HN⟩, hown, hbel⟩
          case measure => simp [intOf]; omega
      · obtain rfl : k = s.size := by omega
        have hd := hinv.out
        rw [← hll] at hd
        have hdn := hd.done
        rw [hll] at hdn
        have HN := hid hdn
        have hex := piece_told s f s.size hk
        have HO := hid hown.out
        clear hd hdn hinv hown
        generalize (s.data.toList.take s.size).drop f = t at *
        obtain ⟨q, hq⟩ : ∃ q, out.length = q := ⟨_, rfl⟩
        have HQ := hid hq
        rw [hq] at HO hok
        simp only [hq]
        clear hq
        go_wp2_with (at_builtin; refine wpList_append_lies _ rfl _ _ 57 rfl w.heap.size 9 i0 (Value.string ByteArray.empty) 1 16 Tryd.underlying57 hi0 hz0 hz1 hz2 rfl (by decide) (.slice A2 q c2) q (strs out) rfl (HO.out.alloc _) ⟨_, 0, none⟩ 1 1 [.string ⟨t.toArray⟩] rfl rfl (str_new _ w.heap.size _) (strs_oneCell [t]) (by decide) (by unfold maxLen; omega) (by omega) (by simp; omega) _ rfl ?_; intro g2 c3 w5 hown2 hgrow hat hlt2; rw [strs_snoc] at hown2; have OW2 := hid hown2; have BL2 := hid (grown_below hbel.out HO.out hgrow); clear hown2 hgrow hat hlt2)
        go_roundw
        case rel => exact ⟨s.size + 1, s.size + 1, c3, _, out ++ [t], by go_num, by go_num, by rw [len_snoc, HQ.out], by rw [len_snoc, HQ.out]; omega, .inr ⟨rfl, HN.out.symm⟩, by rw [len_snoc, HQ.out]; exact OW2, BL2⟩
        case measure => simp [intOf]
    · have HO := hid hown.out
      obtain rfl := hdone.out
      go_wp2_with fail
      go_ret
      exact ⟨A2, c2, rfl, HO.out, hbel.out⟩
end Go.Proofs.YtkbfhooiloaokaaDoor.Num
