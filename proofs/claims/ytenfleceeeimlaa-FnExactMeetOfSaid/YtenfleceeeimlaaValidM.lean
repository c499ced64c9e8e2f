/-
  Whether a machine is valid, by both texts.
-/
import Derived.Test.YtenfleceeeimlaaLawM
import Derived.IntWalk
import Derived.BigQuiet
import Derived.Deep.QuietTactic
namespace Go.Proofs.Ytenfleceeeimlaa.Num
open Go.RowKit Go.Proofs.Fl
set_option linter.unusedVariables false
set_option linter.unusedSimpArgs false
theorem inB_iff {x lo hi : Int} (h : inB x lo hi = true) : lo ≤ x ∧ x ≤ hi := by
  unfold inB at h
  simpa using h
def marksOk (xs : List Int) (m : Nat) (S : Int) : Bool := allIn xs (-1) 1000 && decide ((m : Int) = S)
set_option maxHeartbeats 400000 in
theorem l02Marks_calls (A : Option Addr) (n c : Nat) (xs : List Int) (S : Int) (hx : xs.length = n) (hn : n ≤ 1048576) (w : World) (ha : Rd w w.heap.size A (i64s xs)) :
    Calls Try.prog 55 #[.slice A n c, .int .i64 S] w (Ret (.bool (marksOk xs n S)) w) := by
  unfold marksOk
  have HX := hid hx
  clear hx
  go_enter Try.func55, Try.ntmps55
  go_wp2
  go_loopw [5] (fun i wr => ∃ k m : Nat, k ≤ n ∧ i = .int .i64 k ∧ wr = w.drewN m ∧ Hid (allIn (xs.take k) (-1) 1000 = true)) (fun i _ => n - (intOf i).toNat)
  case atStart => exact ⟨0, 0, Nat.zero_le _, rfl, rfl, rfl⟩
  case round =>
    obtain ⟨k, m, hk, rfl, rfl, hv⟩ := hrel
    by_cases hlt : k < n
    · have hkx : k < xs.length := by have := HX.out; omega
      have HF := hid fun h1 => allIn_take hkx hv.out h1
      have HN := hid fun h1 => allIn_not (lo := -1) (hi := 1000) hkx h1
      obtain ⟨b1, o1, rfl, hb1, hc1⟩ := i64s_at ha hkx
      generalize xs[k] = x at *
      cases hb : inB x (-1) 1000
      · have HB := hid hb
        have HR := hid (HN.out hb)
        clear hb HF HN
        go_wp2_with (go_at_call 54; refine (l00In_is _ _ _ _ HB.out _).mono ?_; rintro e w' ⟨rfl, q, rfl⟩)
        go_ret
        exact ⟨ret_bool (by rw [HR.out]; rfl), _, rfl⟩
      · have HB := hid hb
        have HR := hid (HF.out hb)
        clear hb HN HF
        go_wp2_with (go_at_call 54; refine (l00In_is _ _ _ _ HB.out _).mono ?_; rintro e w' ⟨rfl, q, rfl⟩)
        go_roundw
        case rel => exact ⟨k + 1, _, hlt, by go_num, rfl, HR.out⟩
        case measure => simp [intOf]; omega
    · have HE := hid (allIn_end HX.out (by omega) hv.out)
      clear hv
      by_cases h12 : (n : Int) = S
      · have h13 : ((n : Int) == S) = true := by simpa using h12
        go_wp2
        go_ret
        exact ⟨ret_bool (by rw [HE.out]; simp [h12]), _, rfl⟩
      · have h13 : ((n : Int) == S) = false := by simpa using h12
        go_wp2
        go_ret
        exact ⟨ret_bool (by rw [HE.out]; simp [h12]), _, rfl⟩
def arcOk (S L : Int) (zs : List Int) (k : Nat) : Bool := inB (ga zs (k * 4)) 0 (S - 1) && inB (ga zs (k * 4 + 1)) 0 (S - 1) && inB (ga zs (k * 4 + 2)) (-1) (L - 1) && inB (ga zs (k * 4 + 3)) 0 1000
def arcsOk (S L : Int) (zs : List Int) : Nat → Bool
  | 0 => true
  | k + 1 => arcsOk S L zs k && arcOk S L zs k
theorem arcsOk_not {S L : Int} {zs : List Int} {k : Nat} (h : arcOk S L zs k = false) : ∀ n, k < n → arcsOk S L zs n = false
  | 0, hn => by omega
  | n + 1, hn => by
    by_cases hk : k = n
    · subst hk; rw [arcsOk, h, Bool.and_false]
    · rw [arcsOk, arcsOk_not h n (by omega), Bool.false_and]
def validM (S L : Int) (n : Nat) (zs : List Int) (m : Nat) (xs : List Int) (q : Nat) (ys : List Int) : Bool := inB S 1 16 && inB L 1 4 && decide (n ≤ 128) && arcsOk S L zs n && marksOk xs m S && marksOk ys q S
theorem arcOk_of {S L : Int} {zs : List Int} {k : Nat} {b0 b1 b2 b3 : Bool} (h0 : inB (ga zs (k * 4)) 0 (S - 1) = b0) (h1 : inB (ga zs (k * 4 + 1)) 0 (S - 1) = b1) (h2 : inB (ga zs (k * 4 + 2)) (-1) (L - 1) = b2) (h3 : inB (ga zs (k * 4 + 3)) 0 1000 = b3) : arcOk S L zs k = (b0 && b1 && b2 && b3) := by
  unfold arcOk
  rw [h0, h1, h2, h3]
set_option maxHeartbeats 6400000 in
theorem l02Is_calls (b : Nat) (S L : Int) (A : Option Addr) (n c : Nat) (B : Option Addr) (m d : Nat) (C : Option Addr) (q f : Nat) (zs xs ys : List Int) (hF : Fits n m q zs xs ys) (w : World) (hp : MachAt w b S L A n c B m d C q f) (hb : b < w.heap.size) (hl : Lists w A B C zs xs ys) :
    Calls Try.prog 34 #[.pointer (some ⟨b, 0, none⟩)] w (RetG (.bool (validM S L n zs m xs q ys)) w) := by
  have HF := hid hF
  have HL := hid hl
  have HP := hid hp
  have c0 := hp.c0
  have c1 := hp.c1
  have c2 := hp.c2
  have hn := hF.n
  have hm := hF.m
  have hq := hF.q
  clear hF hl hp
  cases h1 : inB S 1 16
  · have H1 := hid h1
    have H2 := hid h1
    rw [show validM S L n zs m xs q ys = false by simp [validM, h1]]
    go_enter Try.func34, Try.ntmps34
    go_wp2_with (go_at_call 54; refine (l00In_calls _ _ _ _).mono ?_; (first | rw [H1.out] | rw [H2.out]); rintro e w1 ⟨rfl, j1, rfl⟩)
    go_ret
    exact ⟨rfl, below_drewN (Below.refl _ _) _⟩
  have b1 := inB_iff h1
  have H1 := hid h1
  cases h2 : inB L 1 4
  · have H2 := hid h2
    rw [show validM S L n zs m xs q ys = false by simp [validM, h2]]
    go_enter Try.func34, Try.ntmps34
    go_wp2_with (go_at_call 54; refine (l00In_calls _ _ _ _).mono ?_; (first | rw [H1.out] | rw [H2.out]); rintro e w1 ⟨rfl, j1, rfl⟩)
    go_ret
    exact ⟨rfl, below_drewN (Below.refl _ _) _⟩
  have b2 := inB_iff h2
  have H2 := hid h2
  by_cases h3 : n ≤ 128
  case neg =>
    have h3b : decide ((128 : Int) < (n : Int)) = true := decide_eq_true (by omega)
    rw [show validM S L n zs m xs q ys = false by simp [validM, h3]]
    go_enter Try.func34, Try.ntmps34
    go_wp2_with (go_at_call 54; refine (l00In_calls _ _ _ _).mono ?_; (first | rw [H1.out] | rw [H2.out]); rintro e w1 ⟨rfl, j1, rfl⟩)
    go_ret
    exact ⟨rfl, below_drewN (Below.refl _ _) _⟩
  have h3b : decide ((128 : Int) < (n : Int)) = false := decide_eq_false (by omega)
  have HVM := hid (show validM S L n zs m xs q ys = (arcsOk S L zs n && marksOk xs m S && marksOk ys q S) by simp [validM, h1, h2, h3])
  have S1 : wrap64 (S - 1) = S - 1 := by unfold wrap64; omega
  have S2 : IntKind.i64.wrap (S - 1) = S - 1 := IntWalk.i64_in _ (by omega)
  have L1 : wrap64 (L - 1) = L - 1 := by unfold wrap64; omega
  have L2 : IntKind.i64.wrap (L - 1) = L - 1 := IntWalk.i64_in _ (by omega)
  rw [HVM.out]
  clear HVM b1 b2 h3
  go_enter Try.func34, Try.ntmps34
  go_wp2_with (go_at_call 54; refine (l00In_calls _ _ _ _).mono ?_; (first | rw [H1.out] | rw [H2.out]); rintro e w1 ⟨rfl, j1, rfl⟩)
  clear h1 h2 h3b H1 H2
  go_loopw [3] (fun i wr => ∃ k : Nat, k ≤ n ∧ i = .int .i64 k ∧ Hid (arcsOk S L zs k = true) ∧ Hid (Below w.heap.size w wr)) (fun i _ => n - (intOf i).toNat)
  case atStart => exact ⟨0, Nat.zero_le _, rfl, rfl, below_drewN (Below.refl _ _) _⟩
  case round =>
    obtain ⟨k, hk, rfl, hok, hbel⟩ := hrel
    clear c0 c1 c2
    have PA := hid (HP.out.step hbel.out hb)
    have LL := hid (HL.out.step hbel.out)
    have c2 := PA.out.c2
    by_cases hlt : k < n
    · obtain ⟨b1, o1, rfl, hb1, p0, p1, p2, p3⟩ := arcs_at LL.out.a HF.out.z hlt
      have AO := hid fun (b0 b1 b2 b3 : Bool) => @arcOk_of S L zs k b0 b1 b2 b3
      generalize ga zs (k * 4) = x0 at *
      generalize ga zs (k * 4 + 1) = x1 at *
      generalize ga zs (k * 4 + 2) = x2 at *
      generalize ga zs (k * 4 + 3) = x3 at *
      have ho : ∀ o, ((wr.alloc (.cells #[.int .i64 x0, .int .i64 x1, .int .i64 x2, .int .i64 x3] 50)).cell? ⟨b, o, none⟩) = wr.cell? ⟨b, o, none⟩ := fun o => (old_cell ((Below.refl wr.heap.size wr).alloc (Nat.le_refl _) _)).1 b o (by have := hbel.out.size; omega)
      have k0 : (wr.alloc (.cells #[.int .i64 x0, .int .i64 x1, .int .i64 x2, .int .i64 x3] 50)).cell? ⟨wr.heap.size, 0, none⟩ = some (.int .i64 x0) := by go_simp
      have k1 : (wr.alloc (.cells #[.int .i64 x0, .int .i64 x1, .int .i64 x2, .int .i64 x3] 50)).cell? ⟨wr.heap.size, 1, none⟩ = some (.int .i64 x1) := by go_simp
      have k2 : (wr.alloc (.cells #[.int .i64 x0, .int .i64 x1, .int .i64 x2, .int .i64 x3] 50)).cell? ⟨wr.heap.size, 2, none⟩ = some (.int .i64 x2) := by go_simp
      have k3 : (wr.alloc (.cells #[.int .i64 x0, .int .i64 x1, .int .i64 x2, .int .i64 x3] 50)).cell? ⟨wr.heap.size, 3, none⟩ = some (.int .i64 x3) := by go_simp
      have c0 := (ho 0).trans PA.out.c0
      have c1 := (ho 1).trans PA.out.c1
      have BEL2 := hid (hbel.out.alloc hbel.out.size (.cells #[.int .i64 x0, .int .i64 x1, .int .i64 x2, .int .i64 x3] 50))
      clear hbel ho
      go_wp2_with fail
      generalize wr.alloc (.cells #[.int .i64 x0, .int .i64 x1, .int .i64 x2, .int .i64 x3] 50) = w2 at *
      generalize wr.heap.size = g at *
      cases t0 : inB x0 0 (S - 1)
      · have HR := hid (arcsOk_not (show arcOk S L zs k = false by rw [AO.out _ _ _ _ t0 rfl rfl rfl]; simp) n hlt)
        go_wp2_with fail
        go_quiet ((go_at_call 54; exact Calls.quiet_of (l00In_calls _ _ _ _)))
        go_wp2
        go_ret
        exact ⟨ret_bool (by rw [HR.out]; rfl), below_drewN BEL2.out _⟩
      · cases t1 : inB x1 0 (S - 1)
        · have HR := hid (arcsOk_not (show arcOk S L zs k = false by rw [AO.out _ _ _ _ t0 t1 rfl rfl]; simp) n hlt)
          go_wp2_with fail
          go_quiet ((go_at_call 54; exact Calls.quiet_of (l00In_calls _ _ _ _)))
          go_wp2
          go_ret
          exact ⟨ret_bool (by rw [HR.out]; rfl), below_drewN BEL2.out _⟩
        · cases t2 : inB x2 (-1) (L - 1)
          · have HR := hid (arcsOk_not (show arcOk S L zs k = false by rw [AO.out _ _ _ _ t0 t1 t2 rfl]; simp) n hlt)
            go_wp2_with fail
            go_quiet ((go_at_call 54; exact Calls.quiet_of (l00In_calls _ _ _ _)))
            go_wp2
            go_ret
            exact ⟨ret_bool (by rw [HR.out]; rfl), below_drewN BEL2.out _⟩
          · cases t3 : inB x3 0 1000
            · have HR := hid (arcsOk_not (show arcOk S L zs k = false by rw [AO.out _ _ _ _ t0 t1 t2 t3]; simp) n hlt)
              go_wp2_with fail
              go_quiet ((go_at_call 54; exact Calls.quiet_of (l00In_calls _ _ _ _)))
              go_wp2
              go_ret
              exact ⟨ret_bool (by rw [HR.out]; rfl), below_drewN BEL2.out _⟩
            · have HR := hid (show arcsOk S L zs (k + 1) = true by rw [arcsOk, hok.out, AO.out _ _ _ _ t0 t1 t2 t3]; rfl)
              go_wp2_with fail
              go_quiet ((go_at_call 54; exact Calls.quiet_of (l00In_calls _ _ _ _)))
              go_wp2
              go_roundw
              case rel => exact ⟨k + 1, hlt, by go_num, HR, below_drewN BEL2.out _⟩
              case measure => simp [intOf]; omega
    · have he : k = n := by omega
      have HK := hid (show arcsOk S L zs n = true by rw [← he]; exact hok.out)
      have M1 := fun (v : Bool) (h : marksOk xs m S = v) (j : Nat) => h ▸ l02Marks_calls B m d xs S HF.out.x hm (wr.drewN j) (LL.out.drewN j).b
      have M2 := fun (v : Bool) (h : marksOk ys q S = v) (j : Nat) => h ▸ l02Marks_calls C q f ys S HF.out.y hq (wr.drewN j) (LL.out.drewN j).c
      have c0 := PA.out.c0
      have c3 := PA.out.c3
      have c4 := PA.out.c4
      have hlk : ¬ (k : Int) < (n : Int) := by omega
      clear he
      cases g1 : marksOk xs m S
      · have M1 := hid (M1 _ g1)
        have G1 := hid g1
        clear g1 M2
        go_wp2_with fail
        go_quiet ((go_at_call 55; exact Calls.quiet_of (M1.out _)))
        go_wp2
        go_ret
        exact ⟨ret_bool (by rw [G1.out]; simp), below_drewN hbel.out _⟩
      · have M1 := hid (M1 _ g1)
        have M2 := hid (M2 _ rfl)
        have G1 := hid g1
        clear g1
        generalize hv : marksOk ys q S = v at M2
        have G2 := hid hv
        clear hv
        go_wp2_with fail
        go_quiet ((first | (go_at_call_of 55 d; exact Calls.quiet_of (M1.out _)) | (go_at_call_of 55 f; exact Calls.quiet_of (M2.out _))))
        go_wp2
        go_ret
        exact ⟨ret_bool (by rw [HK.out, G1.out, G2.out]; rfl), below_drewN hbel.out _⟩
theorem specValid_calls (S L : Int) (A : Option Addr) (n c : Nat) (B : Option Addr) (m d : Nat) (C : Option Addr) (q f : Nat) (zs xs ys : List Int) (hF : Fits n m q zs xs ys) (w : World) (hl : Lists w A B C zs xs ys) :
    Calls Try.prog 13 #[.agg #[.int .i64 S, .int .i64 L, .slice A n c, .slice B m d, .slice C q f]] w (RetG (.bool (validM S L n zs m xs q ys)) w) := by
  have HL := hid hl
  have HS := hid (l02Is_calls w.heap.size S L A n c B m d C q f zs xs ys hF)
  clear hl hF
  go_enter Try.func13, Try.ntmps13
  go_wp2_with fail
  refine (HS.out _ ⟨by go_simp, by go_simp, by go_simp, by go_simp, by go_simp⟩ (by simp) (HL.out.alloc _)).mono ?_
  rintro e w1 ⟨rfl, bel1⟩
  have BEL1 := hid (((Below.refl w.heap.size w).alloc (Nat.le_refl _) _).trans (bel1.mono (by simp)))
  clear bel1
  go_wp2
  go_ret
  exact ⟨rfl, BEL1.out⟩
set_option maxHeartbeats 6400000 in
theorem implValid_calls (S L : Int) (A : Option Addr) (n c : Nat) (B : Option Addr) (m d : Nat) (C : Option Addr) (q f : Nat) (zs xs ys : List Int) (hF : Fits n m q zs xs ys) (w : World) (hl : Lists w A B C zs xs ys) :
    Calls Try.prog 14 #[.agg #[.int .i64 S, .int .i64 L, .slice A n c, .slice B m d, .slice C q f]] w (RetG (.bool (validM S L n zs m xs q ys)) w) := by
  have HF := hid hF
  have HL := hid hl
  have hn := hF.n
  have hm := hF.m
  have hq := hF.q
  clear hF hl
  cases h1 : inB S 1 16
  · have H1 := hid h1
    have H2 := hid h1
    rw [show validM S L n zs m xs q ys = false by simp [validM, h1]]
    go_enter Try.func14, Try.ntmps14
    go_wp2_with (go_at_call 35; refine (within_calls _ _ _ _).mono ?_; (first | rw [H1.out] | rw [H2.out]); rintro e w1 ⟨rfl, j1, rfl⟩)
    go_ret
    exact ⟨rfl, below_drewN ((Below.refl _ _).alloc (Nat.le_refl _) _) _⟩
  have b1 := inB_iff h1
  have H1 := hid h1
  cases h2 : inB L 1 4
  · have H2 := hid h2
    rw [show validM S L n zs m xs q ys = false by simp [validM, h2]]
    go_enter Try.func14, Try.ntmps14
    go_wp2_with (go_at_call 35; refine (within_calls _ _ _ _).mono ?_; (first | rw [H1.out] | rw [H2.out]); rintro e w1 ⟨rfl, j1, rfl⟩)
    go_ret
    exact ⟨rfl, below_drewN ((Below.refl _ _).alloc (Nat.le_refl _) _) _⟩
  have b2 := inB_iff h2
  have H2 := hid h2
  by_cases h3 : n ≤ 128
  case neg =>
    have h3b : decide ((128 : Int) < (n : Int)) = true := decide_eq_true (by omega)
    rw [show validM S L n zs m xs q ys = false by simp [validM, h3]]
    go_enter Try.func14, Try.ntmps14
    go_wp2_with (go_at_call 35; refine (within_calls _ _ _ _).mono ?_; (first | rw [H1.out] | rw [H2.out]); rintro e w1 ⟨rfl, j1, rfl⟩)
    go_ret
    exact ⟨rfl, below_drewN ((Below.refl _ _).alloc (Nat.le_refl _) _) _⟩
  have h3b : decide ((128 : Int) < (n : Int)) = false := decide_eq_false (by omega)
  have HVM := hid (show validM S L n zs m xs q ys = (arcsOk S L zs n && marksOk xs m S && marksOk ys q S) by simp [validM, h1, h2, h3])
  have S1 : wrap64 (S - 1) = S - 1 := by unfold wrap64; omega
  have S2 : IntKind.i64.wrap (S - 1) = S - 1 := IntWalk.i64_in _ (by omega)
  have L1 : wrap64 (L - 1) = L - 1 := by unfold wrap64; omega
  have L2 : IntKind.i64.wrap (L - 1) = L - 1 := IntWalk.i64_in _ (by omega)
  rw [HVM.out]
  clear HVM b1 b2 h3 h1 h2
  go_enter Try.func14, Try.ntmps14
  go_wp2_with fail
  refine (within_calls _ _ _ _).mono ?_
  rw [H1.out]
  rintro e w1 ⟨rfl, j1, rfl⟩
  go_wp2_with fail
  refine (within_calls _ _ _ _).mono ?_
  rw [H2.out]
  rintro e w1 ⟨rfl, j2, rfl⟩
  have BEL0 := hid (below_drewN ((Below.refl w.heap.size w).alloc (Nat.le_refl _) (.cells #[.int .i64 S, .int .i64 L, .slice A n c, .slice B m d, .slice C q f] 30)) (j1 + j2))
  have hz : w.heap.size < (World.drewN (w.alloc (.cells #[.int .i64 S, .int .i64 L, .slice A n c, .slice B m d, .slice C q f] 30)) (j1 + j2)).heap.size := by simp
  have PA0 := hid (show MachAt (World.drewN (w.alloc (.cells #[.int .i64 S, .int .i64 L, .slice A n c, .slice B m d, .slice C q f] 30)) (j1 + j2)) w.heap.size S L A n c B m d C q f from ⟨by go_simp, by go_simp, by go_simp, by go_simp, by go_simp⟩)
  have LL0 := hid ((HL.out.alloc (.cells #[.int .i64 S, .int .i64 L, .slice A n c, .slice B m d, .slice C q f] 30)).drewN (j1 + j2))
  simp only [World.drewN_drewN]
  generalize World.drewN (w.alloc (.cells #[.int .i64 S, .int .i64 L, .slice A n c, .slice B m d, .slice C q f] 30)) (j1 + j2) = w1 at *
  clear H1 H2
  have c2 := PA0.out.c2
  go_wp2_with fail
  clear h3b c2
  go_loopw [24] (fun i wr => ∃ k : Nat, k ≤ n ∧ i = .int .i64 k ∧ Hid (arcsOk S L zs k = true) ∧ Hid (Below w1.heap.size w1 wr)) (fun i _ => n - (intOf i).toNat)
  case atStart => exact ⟨0, Nat.zero_le _, rfl, rfl, Below.refl _ _⟩
  case round =>
    obtain ⟨k, hk, rfl, hok, hbel⟩ := hrel
    have PA := hid (PA0.out.step hbel.out hz)
    have LL := hid (LL0.out.step hbel.out)
    by_cases hlt : k < n
    · obtain ⟨b1, o1, rfl, hb1, p0, p1, p2, p3⟩ := arcs_at LL.out.a HF.out.z hlt
      have AO := hid fun (b0 b1 b2 b3 : Bool) => @arcOk_of S L zs k b0 b1 b2 b3
      generalize ga zs (k * 4) = x0 at *
      generalize ga zs (k * 4 + 1) = x1 at *
      generalize ga zs (k * 4 + 2) = x2 at *
      generalize ga zs (k * 4 + 3) = x3 at *
      have hzr : w.heap.size < wr.heap.size := by have := hbel.out.size; omega
      have c0 := PA.out.c0
      have c1 := PA.out.c1
      have BEL2 := hid (hbel.out.alloc hbel.out.size (.cells #[.int .i64 x0, .int .i64 x1, .int .i64 x2, .int .i64 x3] 50))
      clear hbel
      cases t0 : inB x0 0 (S - 1)
      · have HR := hid (arcsOk_not (show arcOk S L zs k = false by rw [AO.out _ _ _ _ t0 rfl rfl rfl]; simp) n hlt)
        have T0 := hid t0
        clear t0
        go_wp2_with (go_at_call 35; refine (within_calls _ _ _ _).mono ?_; (first | rw [T0.out]); rintro e w3 ⟨rfl, j3, rfl⟩)
        go_ret
        exact ⟨ret_bool (by rw [HR.out]; rfl), below_drewN (BEL0.out.trans (BEL2.out.mono (by omega))) _⟩
      · cases t1 : inB x1 0 (S - 1)
        · have HR := hid (arcsOk_not (show arcOk S L zs k = false by rw [AO.out _ _ _ _ t0 t1 rfl rfl]; simp) n hlt)
          have T0 := hid t0
          have T1 := hid t1
          clear t0 t1
          go_wp2_with (go_at_call 35; refine (within_calls _ _ _ _).mono ?_; (first | rw [T0.out] | rw [T1.out]); rintro e w3 ⟨rfl, j3, rfl⟩)
          go_ret
          exact ⟨ret_bool (by rw [HR.out]; rfl), below_drewN (BEL0.out.trans (BEL2.out.mono (by omega))) _⟩
        · cases t2 : inB x2 (-1) (L - 1)
          · have HR := hid (arcsOk_not (show arcOk S L zs k = false by rw [AO.out _ _ _ _ t0 t1 t2 rfl]; simp) n hlt)
            have T0 := hid t0
            have T1 := hid t1
            have T2 := hid t2
            clear t0 t1 t2
            go_wp2_with (go_at_call 35; refine (within_calls _ _ _ _).mono ?_; (first | rw [T0.out] | rw [T1.out] | rw [T2.out]); rintro e w3 ⟨rfl, j3, rfl⟩)
            go_ret
            exact ⟨ret_bool (by rw [HR.out]; rfl), below_drewN (BEL0.out.trans (BEL2.out.mono (by omega))) _⟩
          · cases t3 : inB x3 0 1000
            · have HR := hid (arcsOk_not (show arcOk S L zs k = false by rw [AO.out _ _ _ _ t0 t1 t2 t3]; simp) n hlt)
              have T0 := hid t0
              have T1 := hid t1
              have T2 := hid t2
              have T3 := hid t3
              clear t0 t1 t2 t3
              go_wp2_with (go_at_call 35; refine (within_calls _ _ _ _).mono ?_; (first | rw [T0.out] | rw [T1.out] | rw [T2.out] | rw [T3.out]); rintro e w3 ⟨rfl, j3, rfl⟩)
              go_ret
              exact ⟨ret_bool (by rw [HR.out]; rfl), below_drewN (BEL0.out.trans (BEL2.out.mono (by omega))) _⟩
            · have HR := hid (show arcsOk S L zs (k + 1) = true by rw [arcsOk, hok.out, AO.out _ _ _ _ t0 t1 t2 t3]; rfl)
              have T0 := hid t0
              have T1 := hid t1
              have T2 := hid t2
              have T3 := hid t3
              clear t0 t1 t2 t3
              go_wp2_with (go_at_call 35; refine (within_calls _ _ _ _).mono ?_; (first | rw [T0.out] | rw [T1.out] | rw [T2.out] | rw [T3.out]); rintro e w3 ⟨rfl, j3, rfl⟩)
              go_roundw
              case rel => exact ⟨k + 1, hlt, by go_num, HR, below_drewN BEL2.out _⟩
              case measure => simp [intOf]; omega
    · have he : k = n := by omega
      have HK := hid (show arcsOk S L zs n = true by rw [← he]; exact hok.out)
      have A1 := fun (v : Bool) (h : allIn xs (-1) 1000 = v) (j : Nat) => h ▸ areWithin_calls B m d xs (-1) 1000 HF.out.x hm (wr.drewN j) (LL.out.drewN j).b
      have A2 := fun (v : Bool) (h : allIn ys (-1) 1000 = v) (j : Nat) => h ▸ areWithin_calls C q f ys (-1) 1000 HF.out.y hq (wr.drewN j) (LL.out.drewN j).c
      have BELW := hid (BEL0.out.trans (hbel.out.mono (by omega)))
      obtain ⟨c0, c1, c2, c3, c4⟩ := PA.out
      have hlk : ¬ (k : Int) < (n : Int) := by omega
      clear he hbel
      by_cases e5 : (m : Int) = S
      case neg =>
        have e5b : ((m : Int) == S) = false := by simpa using e5
        have HR := hid (show marksOk xs m S = false by simp [marksOk, e5])
        clear A1 A2 e5
        go_wp2_with fail
        go_ret
        exact ⟨ret_bool (by rw [HR.out]; simp), BELW.out⟩
      have e5b : ((m : Int) == S) = true := by simpa using e5
      by_cases e6 : (q : Int) = S
      case neg =>
        have e6b : ((q : Int) == S) = false := by simpa using e6
        have HR := hid (show marksOk ys q S = false by simp [marksOk, e6])
        clear A1 A2 e5 e6
        go_wp2_with fail
        go_ret
        exact ⟨ret_bool (by rw [HR.out]; simp), BELW.out⟩
      have e6b : ((q : Int) == S) = true := by simpa using e6
      have HM1 := hid (show marksOk xs m S = allIn xs (-1) 1000 by simp [marksOk, e5])
      have HM2 := hid (show marksOk ys q S = allIn ys (-1) 1000 by simp [marksOk, e6])
      clear e5 e6
      cases g1 : allIn xs (-1) 1000
      · have A1 := hid (A1 _ g1 0)
        have G1 := hid g1
        clear g1 A2
        go_wp2_with fail
        refine (A1.out).mono ?_
        rintro e w3 ⟨rfl, j3, rfl⟩
        go_wp2_with fail
        go_ret
        exact ⟨ret_bool (by rw [HM1.out, G1.out]; simp), below_drewN BELW.out _⟩
      · have A1 := hid (A1 _ g1 0)
        have G1 := hid g1
        have A2 := hid (A2 _ rfl)
        clear g1
        generalize hv : allIn ys (-1) 1000 = v at A2
        have G2 := hid hv
        clear hv
        go_wp2_with fail
        refine (A1.out).mono ?_
        rintro e w3 ⟨rfl, j3, rfl⟩
        go_wp2_with fail
        refine (A2.out _).mono ?_
        rintro e w4 ⟨rfl, j4, rfl⟩
        go_wp2_with fail
        go_ret
        exact ⟨ret_bool (by rw [HK.out, HM1.out, HM2.out, G1.out, G2.out]; rfl), below_drewN BELW.out _⟩
end Go.Proofs.Ytenfleceeeimlaa.Num
