/-
  The classes of a plain machine's states, by the program; the place of a number in a list.
-/
import Derived.Test.YtlfmcdobiojdlaaMember
import Derived.Test.YtlfmcdobiojdlaaExplI
import Derived.DeepKeys4
import Derived.Deep.RegionHeld3
namespace Go.Proofs.Ytlfmcdobiojdlaa.fnExactLeastPlain
open Go.RowKit Go.Proofs.Fl Go.Proofs.Ytlfmcdobiojdlaa.Num Go.Proofs.Cls
open Go.Proofs.Ytlfmcdobiojdlaa.fnExactApartWord (Pl toN idx_lt mul_cast_small own_mono bel_al step_of wfI)
open Go.Maps (Keyed)
set_option linter.unusedVariables false
set_option linter.unusedSimpArgs false
set_option maxHeartbeats 1600000 in
/-- the place of a number that is there, in any list that can be read -/
theorem index_calls (A : Option Addr) (n c : Nat) (q : List Nat) (hn : q.length = n) (hnb : n ≤ 1048576) (x i : Nat) (hi : i < n) (hx : q[i]? = some x) (hf : ∀ j y, j < i → q[j]? = some y → y ≠ x) (w : World) (h : Rd w w.heap.size A (i64s (nats q))) :
    Calls Try.prog 71 #[.slice A n c, .int .i64 (x : Int)] w (Ret (.int .i64 (i : Int)) w) := by
  have hrd : ∀ j, j < n → ∃ (y : Nat) (b off : Nat), q[j]? = some y ∧ A = some ⟨b, off, none⟩ ∧ w.cell? ⟨b, off + j, none⟩ = some (.int .i64 (y : Int)) := by
    intro j hj
    obtain ⟨b1, o1, rfl, hb1, e1⟩ := i64s_at (xs := nats q) h (k := j) (by rw [nats_len, hn]; exact hj)
    refine ⟨q[j]'(by omega), b1, o1, List.getElem?_eq_getElem (by omega), rfl, ?_⟩
    rw [e1]
    simp [nats]
  have HRD := hid hrd
  have HF := hid hf
  clear h hrd hf
  go_enter Try.func71, Try.ntmps71
  go_wp2_with fail
  go_loopw [8] (fun v wr => ∃ j : Nat, j ≤ i ∧ v = .int .i64 j ∧ wr = w) (fun v _ => n - (intOf v).toNat)
  case atStart => exact ⟨0, Nat.zero_le _, rfl, rfl⟩
  case round =>
    obtain ⟨j, hj, rfl, rfl⟩ := hrel
    obtain ⟨y, b, off, hy, rfl, hc⟩ := HRD.out j (by omega)
    have hjn : (j : Int) < (n : Int) := by omega
    by_cases hji : j = i
    · subst hji
      rw [hx] at hy
      cases hy
      have xx : ((x : Int) == (x : Int)) = true := beq_self_eq_true _
      go_wp2_with fail
      go_ret
      exact ⟨rfl, 0, rfl⟩
    · have hne := HF.out j y (by omega) hy
      have xx : ((x : Int) == (y : Int)) = false := by simp; omega
      clear hy
      go_wp2_with fail
      go_roundw
      case rel => exact ⟨j + 1, by omega, by go_num, trivial⟩
      case measure => simp [intOf]; omega
theorem MapIs.len {P : Program} {k e t : TypeId} {w : World} {b : Nat} {kvs : List (Value × Value)} (h : MapIs w b kvs) (ht : P.underlying t = some (.map k e)) (ty : TypeId) : (Builtin.len_ #[t] ty #[.map (some b)]).run P w = .ok (.int .i64 (kvs.length : Int)) w := by
  obtain ⟨es, clock, hb, he⟩ := h
  have hl : es.size = kvs.length := by rw [← he]; simp
  simp [Builtin.len_, run_underlying ht, MapKept.run_getObj_map hb, goInt, Result.andThen, hl]
theorem row5 : (84 : TypeId) < Try.prog.types.size := of_decide_eq_true (by kernel_rfl)
theorem wide5 : (match Try.prog.underlying 84 with | some (.array _ _) | some (.struct _) => true | _ => false) = true := by rw [Try.underlying84]
theorem fiveKeyed : Keyed Try.prog 84 := Keyed.of_law (deep_law_laid Go.Proofs.Ytlfmcdobiojdlaa.fnExactApartWord.laidK (m := 2) (by omega) row5 (by kernel_rfl) wide5)
theorem arr5 : Go.WideMaps.ArrKey Try.prog 84 2 5 := ⟨Try.underlying84, by kernel_rfl, by kernel_rfl, by kernel_rfl⟩
theorem keyOf_five {P : Program} {k e : TypeId} {q : IntKind} (A : Go.WideMaps.ArrKey P k e 5) (he : P.underlying e = some (.int q)) (hsz : ∃ m, P.types.size = m + 1) {a b c d f : Int} (wa : (Lit.int q a).wf = true) (wb : (Lit.int q b).wf = true) (wc : (Lit.int q c).wf = true) (wd : (Lit.int q d).wf = true) (wf : (Lit.int q f).wf = true) :
    keyOf P k (.agg #[.int q a, .int q b, .int q c, .int q d, .int q f]) = some (.string (keyBytes [.int q a, .int q b, .int q c, .int q d, .int q f])) := by
  have hkt := A.keyType hsz
  obtain ⟨m, hm⟩ := hsz
  unfold keyOf
  simp only [A.hu]
  rw [if_pos (by simp [hkt, Value.formed, A.hu, A.size]), hm]
  unfold Program.keyLits
  simp only [A.hu, Value.cells]
  rw [if_pos (by rw [A.size]; rfl), show List.range 5 = [0, 1, 2, 3, 4] from rfl, List.mapM_cons, List.mapM_cons, List.mapM_cons, List.mapM_cons, List.mapM_cons, List.mapM_nil]
  simp [A.one, Program.keyLits, he, wa, wb, wc, wd, wf]
/-- a key as the program has it: five numbers, the last ones 0 -/
def kAt5 (k : Key) (j : Nat) : Int := ((k.getD j 0 : Nat) : Int)
def ky5 (k : Key) : Value := .agg #[.int .i64 (kAt5 k 0), .int .i64 (kAt5 k 1), .int .i64 (kAt5 k 2), .int .i64 (kAt5 k 3), .int .i64 (kAt5 k 4)]
theorem ky5_key {k : Key} (h : ∀ x ∈ k, x < 4611686018427387904) : ∃ l, keyOf Try.prog 84 (ky5 k) = some l := by
  have hb : ∀ j, -9223372036854775808 ≤ kAt5 k j ∧ kAt5 k j ≤ 9223372036854775807 := by
    intro j
    unfold kAt5
    rw [List.getD_eq_getElem?_getD]
    cases hj : k[j]? with
    | none => simp
    | some x => have := h x (List.mem_of_getElem? hj); simp; omega
  exact ⟨_, keyOf_five arr5 Try.underlying2 Go.Proofs.Ytlfmcdobiojdlaa.fnExactApartWord.szK (wfI (hb 0)) (wfI (hb 1)) (wfI (hb 2)) (wfI (hb 3)) (wfI (hb 4))⟩
theorem ky5_inj {a b : Key} (hl : a.length = b.length) (h5 : a.length ≤ 5) (h : ky5 a = ky5 b) : a = b := by
  unfold ky5 at h
  simp at h
  obtain ⟨h0, h1, h2, h3, h4⟩ := h
  unfold kAt5 at h0 h1 h2 h3 h4
  apply List.ext_getElem hl
  intro j ha hb
  have hj : j = 0 ∨ j = 1 ∨ j = 2 ∨ j = 3 ∨ j = 4 := by omega
  have key : ∀ i, (((a.getD i 0 : Nat) : Int) = ((b.getD i 0 : Nat) : Int)) → ∀ (x : i < a.length) (y : i < b.length), a[i] = b[i] := by
    intro i e x y
    simp only [List.getD_eq_getElem?_getD, List.getElem?_eq_getElem x, List.getElem?_eq_getElem y, Option.getD_some] at e
    omega
  rcases hj with rfl | rfl | rfl | rfl | rfl
  · exact key 0 h0 ha hb
  · exact key 1 h1 ha hb
  · exact key 2 h2 ha hb
  · exact key 3 h3 ha hb
  · exact key 4 h4 ha hb
/-- the map of the keys' numbers -/
def kvK (ks : List Key) : List (Value × Value) := (List.range ks.length).map fun i => (ky5 (kAt ks i), Value.int .i64 (i : Int))
theorem kvK_len (ks : List Key) : (kvK ks).length = ks.length := by simp [kvK]
theorem kvK_snoc (ks : List Key) (k : Key) : kvK ks ++ [(ky5 k, Value.int .i64 (ks.length : Int))] = kvK (ks ++ [k]) := by
  unfold kvK
  rw [List.length_append, List.length_singleton, List.range_succ, List.map_append]
  congr 1
  · exact List.map_congr_left fun i hi => by rw [kAt_app (List.mem_range.1 hi)]
  · simp [kAt_last]
theorem kAt_mem {ks : List Key} {i : Nat} (h : i < ks.length) : kAt ks i ∈ ks := by
  unfold kAt
  rw [List.getD_eq_getElem?_getD, List.getElem?_eq_getElem h]
  exact List.getElem_mem _
theorem kvK_keys {ks : List Key} (h : ∀ k ∈ ks, ∀ x ∈ k, x < 4611686018427387904) : KeysOk Try.prog 84 (kvK ks) := by
  intro p hp
  obtain ⟨i, hi, rfl⟩ := List.mem_map.1 hp
  exact ky5_key (h _ (kAt_mem (List.mem_range.1 hi)))
theorem kvK_no {ks : List Key} {k : Key} (hinj : ∀ a ∈ ks, ky5 a = ky5 k → a = k) (h : ks.contains k = false) : ∀ p ∈ kvK ks, p.1 ≠ ky5 k := by
  intro p hp e
  obtain ⟨i, hi, rfl⟩ := List.mem_map.1 hp
  have hm := kAt_mem (List.mem_range.1 hi)
  have := hinj _ hm e
  rw [this] at hm
  have := List.contains_iff_mem.2 hm
  rw [h] at this
  cases this
theorem kAt_idx {ks : List Key} {k : Key} (h : k ∈ ks) : kAt ks (idxK ks k) = k := by
  have h1 := idxK_get h
  unfold kAt
  rw [List.getD_eq_getElem?_getD, List.getElem?_eq_getElem (idxK_mem h)]
  exact h1
theorem kvK_yes {ks : List Key} {k : Key} (h : ks.contains k = true) : (ky5 k, Value.int .i64 (idxK ks k : Int)) ∈ kvK ks := by
  have hm := List.contains_iff_mem.1 h
  exact List.mem_map.2 ⟨idxK ks k, List.mem_range.2 (idxK_mem hm), by rw [kAt_idx hm]⟩
theorem ksOf_nodup (tz : Nat → Nat → Nat) (L : Nat) (c : Nat → Nat) : ∀ i, (ksOf tz L c i).Nodup
  | 0 => by simp [ksOf]
  | i + 1 => by
    have ih := ksOf_nodup tz L c i
    show (addK _ _).Nodup
    unfold addK
    split
    · exact ih
    · rename_i hn
      rw [List.nodup_append]
      refine ⟨ih, by simp, fun a ha b hb e => ?_⟩
      rw [List.mem_singleton.1 hb] at e
      subst e
      exact hn (List.contains_iff_mem.2 ha)
theorem kvK_uni {ks : List Key} {k : Key} (hn : ks.Nodup) (hinj : ∀ a ∈ ks, ky5 a = ky5 k → a = k) (h : ks.contains k = true) : ∀ p ∈ kvK ks, p.1 = ky5 k → p.2 = Value.int .i64 (idxK ks k : Int) := by
  intro p hp e
  obtain ⟨i, hi, rfl⟩ := List.mem_map.1 hp
  have hil := List.mem_range.1 hi
  have hm := List.contains_iff_mem.1 h
  have h1 := hinj _ (kAt_mem hil) e
  have h2 := kAt_idx hm
  have h3 : i = idxK ks k := by
    have hp := List.pairwise_iff_getElem.1 hn
    have ea : kAt ks i = ks[i] := by unfold kAt; simp [List.getD_eq_getElem?_getD, hil]
    have eb : kAt ks (idxK ks k) = ks[idxK ks k]'(idxK_mem hm) := by unfold kAt; rw [List.getD_eq_getElem?_getD, List.getElem?_eq_getElem (idxK_mem hm)]; rfl
    rcases Nat.lt_trichotomy i (idxK ks k) with g | g | g
    · exact absurd (ea.symm.trans (h1.trans (h2.symm.trans eb))) (hp i _ hil (idxK_mem hm) g)
    · exact g
    · exact absurd (eb.symm.trans (h2.trans (h1.symm.trans ea))) (hp _ i (idxK_mem hm) hil g)
  rw [h3]
/-- a list told up to its i-th element -/
def mixN (f : Nat → Nat) (s i : Nat) : List Int := (List.range s).map fun t => if t < i then ((f t : Nat) : Int) else 0
theorem mixN_len (f : Nat → Nat) (s i : Nat) : (mixN f s i).length = s := by simp [mixN]
theorem mixN_zero (f : Nat → Nat) (s : Nat) : mixN f s 0 = List.replicate s 0 := by
  apply List.ext_getElem
  · simp [mixN]
  · intro j h1 h2; simp [mixN]
theorem mixN_all (f : Nat → Nat) (s : Nat) : mixN f s s = nats ((List.range s).map f) := by
  apply List.ext_getElem
  · simp [mixN, nats]
  · intro j h1 h2
    have : j < s := by simpa [mixN] using h1
    simp [mixN, nats, this]
theorem mixN_set (f : Nat → Nat) (s i : Nat) (hi : i < s) : (mixN f s i).set i ((f i : Nat) : Int) = mixN f s (i + 1) := by
  apply List.ext_getElem
  · simp [mixN]
  · intro j h1 h2
    rw [List.getElem_set]
    by_cases hij : i = j
    · subst hij; simp [mixN]
    · rw [if_neg hij]
      simp only [mixN, List.getElem_map, List.getElem_range]
      by_cases h3 : j < i
      · rw [if_pos h3, if_pos (by omega)]
      · rw [if_neg h3, if_neg (by omega)]
theorem mixN_skip (f : Nat → Nat) (s i : Nat) (h0 : f i = 0) : mixN f s i = mixN f s (i + 1) := by
  apply List.ext_getElem
  · simp [mixN]
  · intro j h1 h2
    simp only [mixN, List.getElem_map, List.getElem_range]
    by_cases h3 : j < i
    · rw [if_pos h3, if_pos (by omega)]
    · by_cases h4 : j = i
      · subst h4; simp [h0]
      · rw [if_neg h3, if_neg (by omega)]
theorem cls_small {s l n : Nat} {xs : List Int} {m : Nat} {bs : List Bool} (h : Pl s l n xs m bs) (r : Nat) {i : Nat} (hi : i < s) : cls (enL bs) (toN xs l) l r i ≤ 64 := by
  have hs := h.s2
  cases r with
  | zero => show (if enL bs i then 1 else 0) ≤ 64; split <;> omega
  | succ r => have := @cls_lt_succ (enL bs) (toN xs l) l s i hi r; omega
theorem keys_small {s l n : Nat} {xs : List Int} {m : Nat} {bs : List Bool} (h : Pl s l n xs m bs) (r : Nat) {k : Nat} (hk : k < s) : ∀ x ∈ key (toN xs l) l (cls (enL bs) (toN xs l) l r) k, x ≤ 64 := by
  intro x hx
  unfold key at hx
  rcases List.mem_cons.1 hx with rfl | hx
  · exact cls_small h r hk
  · obtain ⟨q, hq, rfl⟩ := List.mem_map.1 hx
    exact cls_small h r (to_lt h hk (by simpa using hq))
theorem ksOf_small {s l n : Nat} {xs : List Int} {m : Nat} {bs : List Bool} (h : Pl s l n xs m bs) (r : Nat) : ∀ i, i ≤ s → ∀ k ∈ ksOf (toN xs l) l (cls (enL bs) (toN xs l) l r) i, (∀ x ∈ k, x ≤ 64) ∧ k.length = l + 1
  | 0, _, k, hk => by cases hk
  | i + 1, hi, k, hk => by
    have ih := ksOf_small h r i (by omega)
    have hk' : k ∈ addK (ksOf (toN xs l) l (cls (enL bs) (toN xs l) l r) i) (key (toN xs l) l (cls (enL bs) (toN xs l) l r) i) := hk
    unfold addK at hk'
    split at hk'
    · exact ih k hk'
    · rcases List.mem_append.1 hk' with h1 | h1
      · exact ih k h1
      · rw [List.mem_singleton.1 h1]; exact ⟨keys_small h r (by omega), key_len _ _ _ _⟩
/-- a block of five cells that tells a key -/
structure Five (w : World) (b : Nat) (k : Key) : Prop where
  c0 : w.cell? ⟨b, 0, none⟩ = some (.int .i64 (kAt5 k 0))
  c1 : w.cell? ⟨b, 1, none⟩ = some (.int .i64 (kAt5 k 1))
  c2 : w.cell? ⟨b, 2, none⟩ = some (.int .i64 (kAt5 k 2))
  c3 : w.cell? ⟨b, 3, none⟩ = some (.int .i64 (kAt5 k 3))
  c4 : w.cell? ⟨b, 4, none⟩ = some (.int .i64 (kAt5 k 4))
  fr : ∀ o, w.frozen? ⟨b, o, none⟩ = false
  lt : b < w.heap.size
theorem Five.step {w w' : World} {b : Nat} {k : Key} (h : Five w b k) (hb : Below w.heap.size w w') : Five w' b k :=
  ⟨(hb.cell (p := ⟨b, 0, none⟩) h.lt).trans h.c0, (hb.cell (p := ⟨b, 1, none⟩) h.lt).trans h.c1, (hb.cell (p := ⟨b, 2, none⟩) h.lt).trans h.c2, (hb.cell (p := ⟨b, 3, none⟩) h.lt).trans h.c3, (hb.cell (p := ⟨b, 4, none⟩) h.lt).trans h.c4, fun o => (hb.frozen (p := ⟨b, o, none⟩) h.lt).trans (h.fr o), Nat.lt_of_lt_of_le h.lt hb.size⟩
theorem kAt5_snoc (k : Key) (v j : Nat) : kAt5 (k ++ [v]) j = if j = k.length then (v : Int) else kAt5 k j := by
  unfold kAt5
  rw [List.getD_eq_getElem?_getD, List.getD_eq_getElem?_getD]
  by_cases h : j = k.length
  · subst h; simp
  · rw [if_neg h]
    by_cases h2 : j < k.length
    · rw [List.getElem?_append_left h2]
    · rw [List.getElem?_eq_none (by simp; omega), List.getElem?_eq_none (by omega)]
theorem Five.set {w : World} {b : Nat} {k : Key} (h : Five w b k) (v : Nat) (hk : k.length < 5) : Five (w.setCell ⟨b, k.length, none⟩ (.int .i64 (v : Int))) b (k ++ [v]) := by
  have hf := h.fr
  obtain ⟨h0, h1, h2, h3, h4, _, hl⟩ := h
  have hc : ∀ j, j < 5 → w.cell? ⟨b, j, none⟩ = some (.int .i64 (kAt5 k j)) → (w.setCell ⟨b, k.length, none⟩ (.int .i64 (v : Int))).cell? ⟨b, j, none⟩ = some (.int .i64 (kAt5 (k ++ [v]) j)) := by
    intro j hj e
    rw [kAt5_snoc]
    by_cases hjk : j = k.length
    · subst hjk
      rw [if_pos rfl]
      exact World.cell?_setCell_same' _ _ _ (by rw [e]; rfl)
    · rw [if_neg hjk]
      rw [← e]
      exact World.cell?_setCell_other _ _ _ _ (by intro h; injection h with _ h2; omega)
  exact ⟨hc 0 (by omega) h0, hc 1 (by omega) h1, hc 2 (by omega) h2, hc 3 (by omega) h3, hc 4 (by omega) h4, fun o => by have := hf o; go_simp, by simp [World.setCell]; exact hl⟩
end Go.Proofs.Ytlfmcdobiojdlaa.fnExactLeastPlain
