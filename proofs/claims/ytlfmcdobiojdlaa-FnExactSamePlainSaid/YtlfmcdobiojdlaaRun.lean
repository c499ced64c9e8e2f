/-
  The run of a plain machine over a word, by both texts.
-/
import Derived.Test.YtlfmcdobiojdlaaSpecValid
namespace Go.Proofs.Ytlfmcdobiojdlaa.Num
open Go.RowKit Go.Proofs.Fl
set_option linter.unusedVariables false
set_option linter.unusedSimpArgs false
/-- the state behind a letter -/
def stepP (xs : List Int) (L s l : Int) : Int := xs.getD (s * L + l).toNat 0
def runP (xs : List Int) (L : Int) (word : List Int) : Int := word.foldl (stepP xs L) 0
theorem runP_snoc (xs : List Int) (L : Int) (word : List Int) (k : Nat) (h : k < word.length) : runP xs L (word.take (k + 1)) = stepP xs L (runP xs L (word.take k)) word[k] := by
  rw [List.take_succ_eq_append_getElem h]
  unfold runP
  rw [List.foldl_append]
  rfl
theorem allIn_get {xs : List Int} {lo hi : Int} (h : allIn xs lo hi = true) {k : Nat} (hk : k < xs.length) : lo ≤ xs[k] ∧ xs[k] ≤ hi := by
  unfold allIn at h
  exact inB_iff (List.all_eq_true.1 h _ (List.getElem_mem hk))
/-- a valid plain machine, and what it says -/
structure PlainOk (S L : Int) (n : Nat) (xs : List Int) (m : Nat) : Prop where
  s : 1 ≤ S ∧ S ≤ 64
  l : 1 ≤ L ∧ L ≤ 4
  n : (n : Int) = S * L
  i : allIn xs 0 (S - 1) = true
  m : (m : Int) = S
theorem plainOk {S L : Int} {n : Nat} {xs : List Int} {m : Nat} (h : validP S L n xs m = true) : PlainOk S L n xs m := by
  unfold validP at h
  simp only [Bool.and_eq_true, decide_eq_true_eq] at h
  exact ⟨inB_iff h.1.1.1.1, inB_iff h.1.1.1.2, h.1.1.2, h.1.2, h.2⟩
structure StepOk (S L : Int) (n : Nat) (xs : List Int) (s l : Int) (i : Nat) (v : Int) : Prop where
  w1 : wrap64 (s * L) = s * L
  w2 : wrap64 (s * L + l) = (i : Int)
  e : s * L + l = (i : Int)
  lt : i < n
  lx : i < xs.length
  at_ : xs[i]? = some v
  r : stepP xs L s l = v
  vb : 0 ≤ v ∧ v ≤ S - 1
theorem step_ok {S L : Int} {n : Nat} {xs : List Int} {m : Nat} (hp : PlainOk S L n xs m) (hx : xs.length = n) {s l : Int} (hs : 0 ≤ s ∧ s ≤ S - 1) (hl : 0 ≤ l ∧ l ≤ L - 1) : ∃ i v, StepOk S L n xs s l i v := by
  have h1 : s * L ≤ (S - 1) * L := Int.mul_le_mul_of_nonneg_right hs.2 (by have := hp.l; omega)
  have h0 : 0 ≤ s * L := Int.mul_nonneg hs.1 (by have := hp.l; omega)
  rw [Int.sub_mul, Int.one_mul, ← hp.n] at h1
  have hb := mul_small hp.s hp.l
  rw [← hp.n] at hb
  have hi : ((s * L + l).toNat : Int) = s * L + l := Int.toNat_of_nonneg (by omega)
  generalize he : (s * L + l).toNat = i at hi
  have hlt : i < n := by omega
  have hlx : i < xs.length := by omega
  refine ⟨i, xs[i], ?_, ?_, hi.symm, hlt, hlx, List.getElem?_eq_getElem hlx, ?_, allIn_get hp.i hlx⟩
  · unfold wrap64; omega
  · unfold wrap64; omega
  · unfold stepP
    rw [he, List.getD_eq_getElem?_getD, List.getElem?_eq_getElem hlx]
    rfl
theorem runs_at {S L : Int} {n : Nat} {xs : List Int} {m : Nat} (hp : PlainOk S L n xs m) (hx : xs.length = n) {word : List Int} (hw : allIn word 0 (L - 1) = true) : ∀ k, k ≤ word.length → 0 ≤ runP xs L (word.take k) ∧ runP xs L (word.take k) ≤ S - 1
  | 0, _ => by
    have := hp.s
    simp only [List.take_zero, runP, List.foldl_nil]
    omega
  | k + 1, h => by
    have ih := runs_at hp hx hw k (by omega)
    rw [runP_snoc xs L word k (by omega)]
    obtain ⟨i, v, ho⟩ := step_ok hp hx ih (allIn_get hw (show k < word.length by omega))
    rw [ho.r]
    exact ho.vb
set_option maxHeartbeats 800000 in
theorem to_calls (S L : Int) (A : Option Addr) (n c : Nat) (B : Option Addr) (m d : Nat) (xs : List Int) (hx : xs.length = n) (hn : n ≤ 1048576) (s l : Int) (i : Nat) (v : Int) (ho : StepOk S L n xs s l i v) (w : World) (ha : Rd w w.heap.size A (i64s xs)) :
    Calls Try.prog 56 #[.agg #[.int .i64 S, .int .i64 L, .slice A n c, .slice B m d], .int .i64 s, .int .i64 l] w (RetG (.int .i64 v) w) := by
  obtain ⟨b1, o1, rfl, hb1, hc1⟩ := i64s_at ha ho.lx
  have hv : xs[i]'ho.lx = v := by have := ho.at_; rw [List.getElem?_eq_getElem ho.lx] at this; exact Option.some.inj this
  rw [hv] at hc1
  have w1 := ho.w1
  have w2 := ho.w2
  have hlt := ho.lt
  clear ha ho hv hx
  go_enter Try.func56, Try.ntmps56
  go_wp2
  go_ret
  exact ⟨rfl, (Below.refl _ _).alloc (Nat.le_refl _) _⟩
theorem run_end (xs : List Int) (L : Int) {word : List Int} {q k : Nat} (hq : word.length = q) (hk : q ≤ k) : runP xs L (word.take k) = runP xs L word := by rw [List.take_of_length_le (by omega)]
set_option maxHeartbeats 1600000 in
theorem reads_calls (S L : Int) (A : Option Addr) (n c : Nat) (B : Option Addr) (m d : Nat) (xs : List Int) (bs : List Bool) (hx : xs.length = n) (hb : bs.length = m) (hn : n ≤ 1048576) (hp : PlainOk S L n xs m)
    (E : Option Addr) (q f : Nat) (word : List Int) (hq : word.length = q) (hqn : q ≤ 1048576) (hw : allIn word 0 (L - 1) = true) (r : Nat) (hr : runP xs L word = (r : Int)) (hrb : r < bs.length) (w : World)
    (ha : Rd w w.heap.size A (i64s xs)) (hbs : Rd w w.heap.size B (bools bs)) (hwd : Rd w w.heap.size E (i64s word)) :
    Calls Try.prog 55 #[.agg #[.int .i64 S, .int .i64 L, .slice A n c, .slice B m d], .slice E q f] w (RetG (.bool bs[r]) w) := by
  have HX := hid hx
  have HB := hid hb
  have HQ := hid hq
  have HA := hid ha
  have HBS := hid hbs
  have HE := hid hwd
  have HP := hid hp
  have HW := hid hw
  have HR := hid hr
  have HRUN := hid fun k hk => runs_at hp hx hw k hk
  clear hx hb hq ha hbs hwd hp hw hr
  go_enter Try.func55, Try.ntmps55
  go_wp2
  go_loopw [5, 10] (fun st i wr => ∃ k : Nat, k ≤ q ∧ i = .int .i64 k ∧ st = .int .i64 (runP xs L (word.take k)) ∧ Hid (Below (w.heap.size + 1) (w.alloc (.cells #[.int .i64 S, .int .i64 L, .slice A n c, .slice B m d] 31)) wr)) (fun _ i _ => q - (intOf i).toNat)
  case atStart => exact ⟨0, Nat.zero_le _, rfl, rfl, Below.refl _ _⟩
  case round =>
    obtain ⟨k, hk, rfl, rfl, hbel⟩ := hrel
    have BELW := hid (((Below.refl w.heap.size w).alloc (Nat.le_refl _) _).trans (hbel.out.mono (by omega)))
    have e0 : wr.cell? ⟨w.heap.size, 0, none⟩ = some (.int .i64 S) := (hbel.out.cell (p := ⟨w.heap.size, 0, none⟩) (by simp)).trans (by go_simp)
    have e1 : wr.cell? ⟨w.heap.size, 1, none⟩ = some (.int .i64 L) := (hbel.out.cell (p := ⟨w.heap.size, 1, none⟩) (by simp)).trans (by go_simp)
    have e2 : wr.cell? ⟨w.heap.size, 2, none⟩ = some (.slice A n c) := (hbel.out.cell (p := ⟨w.heap.size, 2, none⟩) (by simp)).trans (by go_simp)
    have e3 : wr.cell? ⟨w.heap.size, 3, none⟩ = some (.slice B m d) := (hbel.out.cell (p := ⟨w.heap.size, 3, none⟩) (by simp)).trans (by go_simp)
    by_cases hlt : k < q
    · have hkx : k < word.length := by have := HQ.out; omega
      obtain ⟨i, v, ho⟩ := step_ok HP.out HX.out (HRUN.out k (by omega)) (allIn_get HW.out hkx)
      have HO := hid ho
      have HS := hid ((runP_snoc xs L word k hkx).trans ho.r)
      obtain ⟨b1, o1, rfl, hb1, hc1⟩ := i64s_at (rd_step HE.out BELW.out) hkx
      clear ho
      generalize word[k] = l at *
      generalize runP xs L (word.take k) = st at *
      go_wp2_with fail
      refine (to_calls S L A n c B m d xs HX.out hn _ _ i v HO.out _ (rd_step HA.out BELW.out)).mono ?_
      rintro e9 w9 ⟨rfl, bel9⟩
      have HB9 := hid (hbel.out.trans (bel9.mono (Nat.le_trans (by simp) hbel.out.size)))
      clear bel9
      go_wp2
      go_roundw
      case rel => exact ⟨k + 1, hlt, by go_num, by rw [HS.out], HB9.out⟩
      case measure => simp [intOf]; omega
    · have HE2 := hid ((run_end xs L HQ.out (show q ≤ k by omega)).trans HR.out)
      rw [HE2.out]
      obtain ⟨b2, o2, rfl, hb2, hc2⟩ := bools_at (rd_step HBS.out BELW.out) hrb
      have hrm : r < m := by have := HB.out; omega
      go_wp2
      go_ret
      exact ⟨rfl, BELW.out⟩
end Go.Proofs.Ytlfmcdobiojdlaa.Num
