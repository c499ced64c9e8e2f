/-
  As XLike, for regions with complex numbers too. A region that draws its order, whose operations yield the same in every order but for which NaN: one walk of the order of the text serves every order.
  After the guide's quiet regions, with frames that are alike up to NaNs in the place of one frame. Over no program.
-/
import Derived.Deep.Quiet
import Derived.Test.YtkbfhooiloaokaaDoorFloat
namespace Go.Proofs.Flc
open Go Go.RowKit Go.Proofs.Fl

/-- the same value, or floats (complex numbers) of one kind that are the same up to which NaN -/
def VEq (u v : Value) : Prop := u = v ∨ (∃ k x y, u = .float k x ∧ v = .float k y ∧ FEq k x y) ∨ ∃ k x y x' y', u = .complex k x x' ∧ v = .complex k y y' ∧ FEq k x y ∧ FEq k x' y'
theorem VEq.refl (v : Value) : VEq v v := .inl rfl
theorem VEq.of_feq {k : FloatKind} {x y : Nat} (h : FEq k x y) : VEq (.float k x) (.float k y) := .inr (.inl ⟨k, x, y, rfl, rfl, h⟩)
theorem VEq.of_feqC {k : FloatKind} {x y x' y' : Nat} (h : FEq k x y) (h' : FEq k x' y') : VEq (.complex k x x') (.complex k y y') := .inr (.inr ⟨k, x, y, x', y', rfl, rfl, h, h'⟩)
theorem VEq.float {k : FloatKind} {u : Value} {y : Nat} (h : VEq u (.float k y)) : ∃ x, u = .float k x ∧ FEq k x y := by
  rcases h with rfl | ⟨k', x, y', rfl, h2, h3⟩ | ⟨k', x, y', x2, y2, rfl, h2, _, _⟩
  · exact ⟨y, rfl, FEq.refl _ _⟩
  · injection h2 with h4 h5
    subst h4 h5
    exact ⟨x, rfl, h3⟩
  · cases h2
theorem VEq.complex {k : FloatKind} {u : Value} {y y' : Nat} (h : VEq u (.complex k y y')) : ∃ x x', u = .complex k x x' ∧ FEq k x y ∧ FEq k x' y' := by
  rcases h with rfl | ⟨k', x, y', rfl, h2, h3⟩ | ⟨k', x, z, x2, z2, rfl, h2, h3, h4⟩
  · exact ⟨y, y', rfl, FEq.refl _ _, FEq.refl _ _⟩
  · cases h2
  · injection h2 with h5 h6 h7
    subst h5 h6 h7
    exact ⟨x, x2, rfl, h3, h4⟩
theorem VEq.bool {u v : Value} (h : VEq u v) (b : Bool) : u = .bool b ↔ v = .bool b := by
  rcases h with rfl | ⟨k, x, y, rfl, rfl, _⟩ | ⟨k, x, y, x2, y2, rfl, rfl, _, _⟩
  · exact Iff.rfl
  · constructor <;> intro h <;> cases h
  · constructor <;> intro h <;> cases h
/-- is a value no float and no complex number? -/
def noFloat : Value → Bool
  | .float .. => false
  | .complex .. => false
  | _ => true
theorem VEq.eq {u v : Value} (h : VEq u v) (hv : noFloat v = true) : u = v := by
  rcases h with rfl | ⟨k, x, y, rfl, rfl, _⟩ | ⟨k, x, y, x2, y2, rfl, rfl, _, _⟩
  · rfl
  · cases hv
  · cases hv

/-- frames that are alike -/
def AEq (a' a : Act) : Prop := a'.defers = a.defers ∧ a'.tmps.size = a.tmps.size ∧ ∀ (i : Nat) (u v : Value), a'.tmps[i]? = some u → a.tmps[i]? = some v → VEq u v
theorem AEq.refl (a : Act) : AEq a a := ⟨rfl, rfl, fun i u v h1 h2 => by rw [h1] at h2; cases h2; exact VEq.refl _⟩
theorem AEq.put {a' a : Act} {u v : Value} (h : AEq a' a) (d : Option Tmp) (hv : VEq u v) : AEq (a'.put d u) (a.put d v) := by
  cases d with
  | none => exact h
  | some d =>
    refine ⟨h.1, by simp [Act.put, h.2.1], fun i x y hx hy => ?_⟩
    simp only [Act.put, Array.getElem?_setIfInBounds] at hx hy
    by_cases hd : d = i
    · subst hd
      simp only [if_true] at hx hy
      split at hx
      · split at hy
        · cases hx; cases hy; exact hv
        · cases hy
      · cases hx
    · simp only [hd, if_false] at hx hy
      exact h.2.2 i x y hx hy
theorem AEq.eval {a' a : Act} (h : AEq a' a) (x : Operand) : VEq (a'.eval x) (a.eval x) := by
  cases x with
  | tmp t =>
    show VEq (a'.tmps.getD t undef) (a.tmps.getD t undef)
    by_cases ht : t < a.tmps.size
    · have ht' : t < a'.tmps.size := by rw [h.2.1]; exact ht
      have := h.2.2 t a'.tmps[t] a.tmps[t] (Array.getElem?_eq_getElem ht') (Array.getElem?_eq_getElem ht)
      simpa [Array.getD, ht, ht'] using this
    · have ht' : ¬ t < a'.tmps.size := by rw [h.2.1]; exact ht
      simp [Array.getD, ht, ht', VEq.refl]
  | const v => exact VEq.refl _
  | global g => exact VEq.refl _
  | func f => exact VEq.refl _
theorem AEq.eval_eq {a' a : Act} (h : AEq a' a) {x : Operand} {v : Value} (hx : a.eval x = v) (hv : noFloat v = true) : a'.eval x = v := by
  have := h.eval x
  rw [hx] at this
  exact this.eq hv
theorem AEq.yielded {a' a : Act} (h : AEq a' a) (ops : Array Oper) : yielded ops a'.tmps = yielded ops a.tmps := by
  funext j
  unfold Go.yielded
  cases hd : (ops[j]?).bind (·.dst) with
  | none => rfl
  | some d =>
    simp only [Option.bind_some]
    by_cases ht : d < a.tmps.size
    · have ht' : d < a'.tmps.size := by rw [h.2.1]; exact ht
      have hv := h.2.2 d a'.tmps[d] a.tmps[d] (Array.getElem?_eq_getElem ht') (Array.getElem?_eq_getElem ht)
      rw [Array.getElem?_eq_getElem ht', Array.getElem?_eq_getElem ht]
      rcases hv with e | ⟨k, x, y, e1, e2, _⟩ | ⟨k, x, y, x2, y2, e1, e2, _, _⟩
      · rw [e]
      · rw [e1, e2]
      · rw [e1, e2]
    · have ht' : ¬ d < a'.tmps.size := by rw [h.2.1]; exact ht
      rw [Array.getElem?_eq_none (Nat.le_of_not_lt ht'), Array.getElem?_eq_none (Nat.le_of_not_lt ht)]
theorem AEq.wanted {a' a : Act} (h : AEq a' a) (ops : Array Oper) (o : Oper) : Region.wanted o (Go.yielded ops a'.tmps) = Region.wanted o (Go.yielded ops a.tmps) := by rw [h.yielded]

section
variable {P : Program} {ops : Array Oper} {md : Region.Mode} {C : World → Prop}

/-- an operation, run in the world w, has yielded v or its like, and a world of the class -/
def likeUpon (P : Program) (C : World → Prop) (v : Value) : Result Next → Prop
  | .ok (.value u) w' => C w' ∧ VEq u v
  | .ok .skip w' => C w' ∧ v = undef
  | .ok (.enter f args) w' => C w' ∧ Calls P f args w' (fun e w'' => ∃ u, e = .returned u ∧ VEq u v ∧ C w'')
  | _ => False
def likeAt (P : Program) (o : Oper) (a : Act) (C : World → Prop) (w : World) (v : Value) : Prop := likeUpon P C v ((execOp a.eval o).run P w)
/-- one value, up to which NaN, in every world of the class and every frame that is alike -/
def like (P : Program) (o : Oper) (a : Act) (C : World → Prop) (next : Act → Prop) : Prop := ∃ v, (∀ w, C w → ∀ a', AEq a' a → likeAt P o a' C w v) ∧ next (a.put o.dst v)
def wpLike (P : Program) (ops : Array Oper) (C : World → Prop) (Q : Act → Prop) : List Oper → Act → Prop
  | [], a => Q a
  | o :: rest, a => if Region.wanted o (yielded ops a.tmps) then like P o a C (wpLike P ops C Q rest) else wpLike P ops C Q rest (a.put o.dst undef)
def lOp (P : Program) (ops : Array Oper) (C : World → Prop) (i : Nat) (K : Act → Prop) (a : Act) : Prop :=
  match ops[i]? with
  | none => K a
  | some o => if Region.wanted o (yielded ops a.tmps) then like P o a C K else K (a.put o.dst undef)
theorem lOp_mono {i : Nat} {a : Act} {K K' : Act → Prop} (h : ∀ a, K a → K' a) (hh : lOp P ops C i K a) : lOp P ops C i K' a := by
  unfold lOp at *
  split
  · exact h _ (by simpa [*] using hh)
  · rename_i o ho
    simp only [ho] at hh
    split
    · rename_i hw
      simp only [hw, if_true] at hh
      obtain ⟨v, h1, h2⟩ := hh
      exact ⟨v, h1, h _ h2⟩
    · rename_i hw
      simp only [hw] at hh
      exact h _ hh
def wpAnyL (P : Program) (md : Region.Mode) (ops : Array Oper) (C : World → Prop) (Q : Act → Prop) : Nat → Array Bool → Act → Prop
  | 0, listed, a => Region.ready md ops listed = [] ∧ Q a
  | fuel + 1, listed, a =>
    (Region.ready md ops listed = [] → Q a) ∧
    ∀ i ∈ Region.ready md ops listed, lOp P ops C i (wpAnyL P md ops C Q fuel (listed.setIfInBounds i true)) a

theorem wp_of_like {o : Oper} {a a' : Act} {K : Act → Prop} {K' : Act → World → Prop} {Q' : Exit → Act → World → Prop} {w : World} (hw : C w) (ha : AEq a' a)
    (h : ∀ a a' w', C w' → AEq a' a → K a → K' a' w') (hh : like P o a C K) : o.wp P a' w K' Q' := by
  obtain ⟨v, h1, h2⟩ := hh
  have h3 := h1 w hw a' ha
  unfold likeAt at h3
  unfold Oper.wp
  generalize (execOp a'.eval o).run P w = r at *
  cases r with
  | ok n w' =>
    cases n <;> simp only [likeUpon] at h3 <;> simp only [Oper.upon]
    case value u => exact h _ _ _ h3.1 (ha.put _ h3.2) h2
    case skip =>
      obtain ⟨e1, rfl⟩ := h3
      exact h _ _ _ e1 (ha.put _ (VEq.refl _)) h2
    case enter f args => exact h3.2.mono fun e w'' ⟨u, he, hv, hw''⟩ => by subst he; exact h _ _ _ hw'' (ha.put _ hv) h2
  | halt x w' => simp only [likeUpon] at h3
theorem wpOp_of_lOp {i : Nat} {a a' : Act} {K : Act → Prop} {K' : Act → World → Prop} {Q' : Exit → Act → World → Prop} {w : World} (hC : C w) (ha : AEq a' a)
    (h : ∀ a a' w', C w' → AEq a' a → K a → K' a' w') (hh : lOp P ops C i K a) : wpOp P ops Q' i K' a' w := by
  unfold lOp at hh
  unfold wpOp
  split
  · rename_i ho; simp only [ho] at hh; exact h _ _ _ hC ha hh
  · rename_i o ho
    simp only [ho] at hh
    rw [ha.wanted]
    split
    · rename_i hw; simp only [hw, if_true] at hh; exact .inl (wp_of_like hC ha h hh)
    · rename_i hw; simp only [hw] at hh; exact h _ _ _ hC (ha.put _ (VEq.refl _)) hh
theorem wpAny_of_like {Q : Act → Prop} {Q' : Exit → Act → World → Prop} (hQ : ∀ a a' w, C w → AEq a' a → Q a → Q' .normal a' w) : ∀ (fuel : Nat) (listed : Array Bool) (a a' : Act) (w : World), C w → AEq a' a →
    wpAnyL P md ops C Q fuel listed a → wpAny P md ops Q' fuel listed a' w
  | 0, _, _, _, _, hw, ha, h => ⟨h.1, hQ _ _ _ hw ha h.2⟩
  | fuel + 1, _, _, _, _, hw, ha, h => ⟨fun h0 => hQ _ _ _ hw ha (h.1 h0), fun i hi => wpOp_of_lOp hw ha (fun a a' w' hw' ha' => wpAny_of_like hQ fuel _ a a' w' hw' ha') (h.2 i hi)⟩

/-- in the state a, in every world of the class and every frame alike, operation o leaves v or its like -/
def LikeIn (P : Program) (ops : Array Oper) (C : World → Prop) (o : Oper) (v : Value) (a : Act) : Prop :=
  (Region.wanted o (yielded ops a.tmps) = true ∧ ∀ w, C w → ∀ a', AEq a' a → likeAt P o a' C w v) ∨
  (Region.wanted o (yielded ops a.tmps) = false ∧ v = undef)
theorem LikeIn.lOp {i : Nat} {o : Oper} {v : Value} {a : Act} (hi : ops[i]? = some o) (hy : LikeIn P ops C o v a) {K : Act → Prop} (h : K (a.put o.dst v)) : lOp P ops C i K a := by
  unfold Flc.lOp
  simp only [hi]
  rcases hy with ⟨hw, hv⟩ | ⟨hw, rfl⟩
  · simp only [hw, if_true]; exact ⟨v, hv, h⟩
  · simp only [hw, Bool.false_eq_true, if_false]; exact h
theorem likeIn_of_lOp {i : Nat} {o : Oper} {a : Act} {K : Act → Prop} (hi : ops[i]? = some o) (h : lOp P ops C i K a) : ∃ v, LikeIn P ops C o v a ∧ K (a.put o.dst v) := by
  unfold lOp at h
  simp only [hi] at h
  by_cases hw : Region.wanted o (yielded ops a.tmps) = true
  · simp only [hw, if_true] at h
    obtain ⟨v, h1, h2⟩ := h
    exact ⟨v, .inl ⟨hw, h1⟩, h2⟩
  · simp only [hw] at h
    exact ⟨undef, .inr ⟨by simpa using hw, rfl⟩, h⟩
/-- a frame like 'a, with something put', with that put back, is like a -/
theorem AEq.back {a'' a : Act} {d : Option Tmp} {u : Value} (h : AEq a'' (a.put d u)) : ∃ x, AEq (a''.put d x) a := by
  cases d with
  | none => exact ⟨undef, h⟩
  | some d =>
    refine ⟨a.tmps.getD d undef, h.1, by have := h.2.1; simpa [Act.put] using this, fun i x y hx hy => ?_⟩
    simp only [Act.put, Array.getElem?_setIfInBounds] at hx
    by_cases hd : d = i
    · subst hd
      simp only [if_true] at hx
      split at hx
      · cases hx
        simp [hy, VEq.refl]
      · cases hx
    · simp only [hd, if_false] at hx
      exact h.2.2 i x y hx (by simp [Act.put, hd, hy])
theorem likeAt_put {o : Oper} (hs : ∀ cs b, o.op ≠ .select cs b) {a : Act} {dst : Option Tmp} {x : Value} (h : ∀ d, dst = some d → d ∉ o.looksAt ops) {w : World} {v : Value} :
    likeAt P o (a.put dst x) C w v ↔ likeAt P o a C w v := by
  unfold likeAt
  rw [execOp_put o hs a dst x h]
theorem lOp_put {j : Nat} {oi oj : Oper} {v : Value} (hj : ops[j]? = some oj) (hap : oi.apart ops oj = true)
    (hsi : ∀ cs b, oi.op ≠ .select cs b) (hsj : ∀ cs b, oj.op ≠ .select cs b) {K : Act → Prop} {a : Act}
    (hy : LikeIn P ops C oi v a) (h : lOp P ops C j K (a.put oi.dst v)) :
    lOp P ops C j (fun a' => LikeIn P ops C oi v a' ∧ K (a'.put oi.dst v)) a := by
  obtain ⟨h1, h2, h3⟩ := Oper.apart_spec hap
  have keep : ∀ u, LikeIn P ops C oi v (a.put oj.dst u) := by
    intro u
    have hwd := wanted_put oi a oj.dst u h3
    rcases hy with ⟨hw, hv⟩ | ⟨hw, rfl⟩
    · refine .inl ⟨by rw [hwd]; exact hw, fun w hC a'' ha'' => ?_⟩
      obtain ⟨x, hx⟩ := ha''.back
      exact (likeAt_put hsi h3).1 (hv w hC _ hx)
    · exact .inr ⟨by rw [hwd]; exact hw, rfl⟩
  unfold lOp at *
  simp only [hj] at *
  rw [wanted_put oj a oi.dst v h1] at h
  split
  · rename_i hw
    simp only [hw, if_true] at h
    obtain ⟨u, hu, hn⟩ := h
    refine ⟨u, fun w hw' a' ha' => ?_, keep u, by rw [← Act.put_comm a v u h2]; exact hn⟩
    exact (likeAt_put hsj h1).1 (hu w hw' _ (ha'.put oi.dst (VEq.refl v)))
  · rename_i hw
    simp only [hw] at h
    exact ⟨keep _, by rw [← Act.put_comm a v undef h2]; exact h⟩
theorem wpAnyL_first {Q : Act → Prop} {i : Nat} {oi : Oper} {v : Value} (hi : ops[i]? = some oi) (hsel : ∀ (j : Nat) (o : Oper) cs b, ops[j]? = some o → o.op ≠ .select cs b) :
    ∀ (fuel : Nat) (listed : Array Bool) (a : Act),
      (∀ j oj, ops[j]? = some oj → j ≠ i → listed.getD j true = false → (∀ e ∈ oj.after, Region.binds md e = true → e.on ≠ i) → oi.apart ops oj = true) →
      i ∈ Region.ready md ops listed → LikeIn P ops C oi v a →
      wpAnyL P md ops C Q fuel (listed.setIfInBounds i true) (a.put oi.dst v) → wpAnyL P md ops C Q (fuel + 1) listed a := by
  intro fuel
  induction fuel with
  | zero =>
    intro listed a _ hr hy H
    refine ⟨fun h => (by rw [h] at hr; cases hr), fun j hj => ?_⟩
    by_cases hji : j = i
    · subst hji; exact hy.lOp hi H
    · have := ready_mono hj hji
      rw [H.1] at this
      cases this
  | succ fuel ih =>
    intro listed a hfree hr hy H
    refine ⟨fun h => (by rw [h] at hr; cases hr), fun j hj => ?_⟩
    by_cases hji : j = i
    · subst hji; exact hy.lOp hi H
    · have h1 := H.2 j (ready_mono hj hji)
      obtain ⟨hjun, oj, hoj, hall⟩ := mem_ready.1 hj
      have hnot : ∀ e ∈ oj.after, Region.binds md e = true → e.on ≠ i := fun e he hb heq => by
        have h1 := hall e he hb
        have h0 := (mem_ready.1 hr).1
        rw [heq] at h1
        rcases Nat.lt_or_ge i listed.size with h' | h'
        · simp [h'] at h0 h1; rw [h0] at h1; cases h1
        · simp [Array.getElem?_eq_none h'] at h1
      have h2 := lOp_put hoj (hfree j oj hoj hji hjun hnot) (fun cs b => hsel i oi cs b hi) (fun cs b => hsel j oj cs b hoj) hy h1
      have hfree' : ∀ k ok, ops[k]? = some ok → k ≠ i → (listed.setIfInBounds j true).getD k true = false →
          (∀ e ∈ ok.after, Region.binds md e = true → e.on ≠ i) → oi.apart ops ok = true := fun k ok hk hki hun hno => by
        refine hfree k ok hk hki ?_ hno
        by_cases hjk : j = k
        · subst hjk; exact hjun
        · rw [getD_set_ne true hjk] at hun; exact hun
      refine lOp_mono (fun a' h3 => ih (listed.setIfInBounds j true) a' hfree' (ready_mono hr (Ne.symm hji)) h3.1 ?_) h2
      rw [Array.setIfInBounds_comm _ _ hji]
      exact h3.2
theorem wpAnyL_lex {Q : Act → Prop} (hs : Region.noSelect ops = true) : ∀ (l : List Oper) (k : Nat) (listed : Array Bool) (a : Act), (∀ j, l[j]? = ops[k + j]?) →
    Region.lexFrom md ops l.length k listed = true → wpLike P ops C Q l a → wpAnyL P md ops C Q l.length listed a
  | [], _, _, _, _, hB, h => ⟨by simpa [Region.lexFrom] using hB, h⟩
  | o :: l, k, listed, a, hl, hB, h => by
    have h0 : ops[k]? = some o := by simpa using (hl 0).symm
    simp only [List.length_cons, Region.lexFrom, Bool.and_eq_true] at hB
    obtain ⟨⟨hr, hf⟩, hB'⟩ := hB
    have hst : lOp P ops C k (wpLike P ops C Q l) a := by unfold lOp; simp only [h0]; exact h
    obtain ⟨v, hy, hK⟩ := likeIn_of_lOp h0 hst
    exact wpAnyL_first h0 (Region.noSelect_spec hs) l.length listed a (Region.free_spec h0 hf) (by simpa using hr) hy
      (wpAnyL_lex hs l (k + 1) _ _ (fun j => by have := hl (j + 1); simpa [Nat.add_assoc, Nat.add_comm 1 j] using this) hB' hK)

/-- one walk of the order of the text serves every order; behind the region the frame is one that is alike -/
theorem wp_region_like {id : Nat} {Q : Exit → Act → World → Prop} {a : Act} {w : World} {l : List Oper} (hm : P.follows .mixedOrders = true) (hB : Region.lexB .any l.toArray = true)
    (h : wpLike P l.toArray (fun w' => ∃ n, w' = w.drewN n) (fun a => ∀ a' n, AEq a' a → Q .normal a' (w.drewN n)) l a) : (Code.region id l.toArray true).wp P Q a w := by
  simp only [Region.lexB, Bool.and_eq_true] at hB
  refine wp_region_any hm (wpAny_of_like (C := fun w' => ∃ n, w' = w.drewN n) (Q := fun a => ∀ a' n, AEq a' a → Q .normal a' (w.drewN n)) ?_ _ _ _ _ _ ⟨1, rfl⟩ (AEq.refl a) ?_)
  · rintro a a' w' ⟨n, rfl⟩ ha h
    exact h a' n ha
  · have := wpAnyL_lex (C := fun w' => ∃ n, w' = w.drewN n) (md := .any) hB.1 l 0 (Array.replicate l.toArray.size false) a (by simp) (by simpa using hB.2) h
    simpa using this
end

/-! ### One operation of the walk -/
section
variable {P : Program} {ops : Array Oper} {C : World → Prop} {Q : Act → Prop} {a : Act} {rest : List Oper}
    {d : Option Tmp} {ty : TypeId} {pos : String} {af : Array Edge} {g : Option (Nat × Bool)}
theorem wpLike_nil (h : Q a) : wpLike P ops C Q [] a := h
theorem wpLike_want {o : Oper} (hw : Region.wanted o (yielded ops a.tmps) = true) (v : Value) (h : ∀ w, C w → ∀ a', AEq a' a → likeAt P o a' C w v)
    (hK : wpLike P ops C Q rest (a.put o.dst v)) : wpLike P ops C Q (o :: rest) a := by
  unfold wpLike
  rw [if_pos hw]
  exact ⟨v, h, hK⟩
theorem wpLike_skip {o : Oper} (hw : Region.wanted o (yielded ops a.tmps) = false) (hK : wpLike P ops C Q rest (a.put o.dst undef)) : wpLike P ops C Q (o :: rest) a := by
  unfold wpLike
  rw [if_neg (by rw [hw]; simp)]
  exact hK
theorem like_move {x : Operand} (v : Value) (hw : Region.wanted ⟨d, .move x, ty, pos, af, g⟩ (yielded ops a.tmps) = true) (hx : a.eval x = v)
    (hK : wpLike P ops C Q rest (a.put d v)) : wpLike P ops C Q (⟨d, .move x, ty, pos, af, g⟩ :: rest) a :=
  wpLike_want hw _ (fun w hC a' ha => by
    unfold likeAt
    simp only [execOp]
    exact ⟨hC, by rw [← hx]; exact ha.eval x⟩) hK
theorem like_assign {x : Operand} (v : Value) (hw : Region.wanted ⟨d, .assign x, ty, pos, af, g⟩ (yielded ops a.tmps) = true) (hx : a.eval x = v)
    (hK : wpLike P ops C Q rest (a.put d v)) : wpLike P ops C Q (⟨d, .assign x, ty, pos, af, g⟩ :: rest) a :=
  wpLike_want hw _ (fun w hC a' ha => by
    unfold likeAt
    simp only [execOp]
    exact ⟨hC, by rw [← hx]; exact ha.eval x⟩) hK
/-- an operation on one operand that is no float and yields one value in every world of the class -/
theorem like_one {op : Op} (x : Operand) {vx v : Value} (hw : Region.wanted ⟨d, op, ty, pos, af, g⟩ (yielded ops a.tmps) = true)
    (hx : a.eval x = vx) (hn : noFloat vx = true)
    (h : ∀ w, C w → ∀ ρ : Operand → Value, ρ x = vx → (execOp ρ ⟨d, op, ty, pos, af, g⟩).run P w = .ok (.value v) w)
    (hK : wpLike P ops C Q rest (a.put d v)) : wpLike P ops C Q (⟨d, op, ty, pos, af, g⟩ :: rest) a :=
  wpLike_want hw v (fun w hC a' ha => by
    unfold likeAt
    rw [h w hC a'.eval (ha.eval_eq hx hn)]
    exact ⟨hC, VEq.refl v⟩) hK
theorem like_two {op : Op} (x y : Operand) {vx vy v : Value} (hw : Region.wanted ⟨d, op, ty, pos, af, g⟩ (yielded ops a.tmps) = true)
    (hx : a.eval x = vx) (hy : a.eval y = vy) (hn : noFloat vx = true) (hm : noFloat vy = true)
    (h : ∀ w, C w → ∀ ρ : Operand → Value, ρ x = vx → ρ y = vy → (execOp ρ ⟨d, op, ty, pos, af, g⟩).run P w = .ok (.value v) w)
    (hK : wpLike P ops C Q rest (a.put d v)) : wpLike P ops C Q (⟨d, op, ty, pos, af, g⟩ :: rest) a :=
  wpLike_want hw v (fun w hC a' ha => by
    unfold likeAt
    rw [h w hC a'.eval (ha.eval_eq hx hn) (ha.eval_eq hy hm)]
    exact ⟨hC, VEq.refl v⟩) hK
end
section
variable {P : Program} {ops : Array Oper} {w0 : World} {Q : Act → Prop} {a : Act} {rest : List Oper}
    {d : Option Tmp} {ty : TypeId} {pos : String} {af : Array Edge} {g : Option (Nat × Bool)}
/-- float64(x) of a float32 -/
theorem like_wide {src dst : TypeId} {x : Operand} {r : Nat} (hw : Region.wanted ⟨d, .convert src dst x, ty, pos, af, g⟩ (yielded ops a.tmps) = true)
    (hx : a.eval x = .float .f32 r) (hs : (P.underlying src).isSome = true) (hd : P.underlying dst = some (.float .f64))
    (hK : wpLike P ops (fun w' => ∃ n, w' = w0.drewN n) Q rest (a.put d (.float .f64 (fwide r)))) : wpLike P ops (fun w' => ∃ n, w' = w0.drewN n) Q (⟨d, .convert src dst x, ty, pos, af, g⟩ :: rest) a :=
  wpLike_want hw _ (fun w hC a' ha => by
    obtain ⟨n, rfl⟩ := hC
    have he := ha.eval x
    rw [hx] at he
    obtain ⟨r', hr', hf⟩ := he.float
    obtain ⟨v, m, hv, hrun⟩ := run_wide (P := P) (w0.drewN n) src dst hs hd r'
    unfold likeAt
    simp only [execOp, hr']
    simp only [Sem.run_bind, hrun, Result.andThen_ok, Sem.run_pure]
    exact ⟨⟨n + m, by rw [World.drewN_drewN]⟩, VEq.of_feq (hv.trans (by rw [fwide_congr hf]; exact FEq.refl _ _))⟩) hK
/-- + - * / on floats -/
theorem like_fop {op : BinOp} {t t' : TypeId} {x y : Operand} {k : FloatKind} {r s : Nat} (ho : isArith op = true) (hw : Region.wanted ⟨d, .binOp op t x y t', ty, pos, af, g⟩ (yielded ops a.tmps) = true)
    (hx : a.eval x = .float k r) (hy : a.eval y = .float k s)
    (hK : wpLike P ops (fun w' => ∃ n, w' = w0.drewN n) Q rest (a.put d (.float k (fop op k r s)))) : wpLike P ops (fun w' => ∃ n, w' = w0.drewN n) Q (⟨d, .binOp op t x y t', ty, pos, af, g⟩ :: rest) a :=
  wpLike_want hw _ (fun w hC a' ha => by
    obtain ⟨n, rfl⟩ := hC
    have he := ha.eval x
    rw [hx] at he
    obtain ⟨r', hr', hf⟩ := he.float
    have he := ha.eval y
    rw [hy] at he
    obtain ⟨s', hs', hf'⟩ := he.float
    obtain ⟨v, m, hv, hrun⟩ := run_fop (P := P) (w0.drewN n) op ho t k r' s'
    have hg : (eqGuard op t x y (.float k r') (.float k s')).run P (w0.drewN n) = .ok () (w0.drewN n) := by cases op <;> simp [isArith] at ho <;> rfl
    unfold likeAt
    simp only [execOp, hr', hs']
    simp only [Sem.run_bind, hg, hrun, Result.andThen_ok, Sem.run_pure]
    exact ⟨⟨n + m, by rw [World.drewN_drewN]⟩, VEq.of_feq (hv.trans (by rw [fop_congr hf hf']; exact FEq.refl _ _))⟩) hK
/-- a call on two floats whose answer is no float -/
theorem like_call2 {f : FuncId} {x y : Operand} {ts : Array TypeId} {fn : Func} {k : FloatKind} {r s : Nat} {v : Value} (hw : Region.wanted ⟨d, .call { callee := .value (.func f), args := #[x, y], argTypes := ts }, ty, pos, af, g⟩ (yielded ops a.tmps) = true)
    (hx : a.eval x = .float k r) (hy : a.eval y = .float k s) (hf : P.funcs[f]? = some fn) (hname : (fn.name == "runtime.NumGoroutine") = false) (hb : fn.body.isNone = false)
    (hc : ∀ r' s' w, FEq k r' r → FEq k s' s → Calls P f #[.float k r', .float k s'] w (Ret v w))
    (hK : wpLike P ops (fun w' => ∃ n, w' = w0.drewN n) Q rest (a.put d v)) : wpLike P ops (fun w' => ∃ n, w' = w0.drewN n) Q (⟨d, .call { callee := .value (.func f), args := #[x, y], argTypes := ts }, ty, pos, af, g⟩ :: rest) a :=
  wpLike_want hw _ (fun w hC a' ha => by
    obtain ⟨n, rfl⟩ := hC
    have he := ha.eval x
    rw [hx] at he
    obtain ⟨r', hr', hf1⟩ := he.float
    have he := ha.eval y
    rw [hy] at he
    obtain ⟨s', hs', hf2⟩ := he.float
    have h1 : fn.name ≠ "runtime.NumGoroutine" := by simpa using hname
    have h2 : fn.body ≠ none := by intro e; rw [e] at hb; cases hb
    have hrun : (execOp a'.eval ⟨d, .call { callee := .value (.func f), args := #[x, y], argTypes := ts }, ty, pos, af, g⟩).run P (w0.drewN n) = .ok (.enter f #[.float k r', .float k s']) (w0.drewN n) := by
      have hfe : a'.eval (.func f) = .func (.func f) #[] #[] := rfl
      simp [execOp, resolve, invoke, callFunc, Deferred.ofValue, hfe, hr', hs', hf, h1, h2]
    unfold likeAt
    rw [hrun]
    refine ⟨⟨n, rfl⟩, (hc r' s' _ hf1 hf2).mono ?_⟩
    rintro e w'' ⟨rfl, m, rfl⟩
    exact ⟨v, rfl, VEq.refl v, n + m, by rw [World.drewN_drewN]⟩) hK
/-- complex128(z) of a complex64 -/
theorem like_wideC {src dst : TypeId} {x : Operand} {r s : Nat} (hw : Region.wanted ⟨d, .convert src dst x, ty, pos, af, g⟩ (yielded ops a.tmps) = true)
    (hx : a.eval x = .complex .f32 r s)
    (hrun : ∀ (w : World) (r' s' : Nat), ∃ v u n, FEq .f64 v (fwide r') ∧ FEq .f64 u (fwide s') ∧ (convert src dst (.complex .f32 r' s')).run P w = .ok (.complex .f64 v u) (w.drewN n))
    (hK : wpLike P ops (fun w' => ∃ n, w' = w0.drewN n) Q rest (a.put d (.complex .f64 (fwide r) (fwide s)))) : wpLike P ops (fun w' => ∃ n, w' = w0.drewN n) Q (⟨d, .convert src dst x, ty, pos, af, g⟩ :: rest) a :=
  wpLike_want hw _ (fun w hC a' ha => by
    obtain ⟨n, rfl⟩ := hC
    have he := ha.eval x
    rw [hx] at he
    obtain ⟨r', s', hr', hf, hf'⟩ := he.complex
    obtain ⟨v, u, m, hv, hu, hrun⟩ := hrun (w0.drewN n) r' s'
    unfold likeAt
    simp only [execOp, hr']
    simp only [Sem.run_bind, hrun, Result.andThen_ok, Sem.run_pure]
    exact ⟨⟨n + m, by rw [World.drewN_drewN]⟩, VEq.of_feqC (hv.trans (by rw [fwide_congr hf]; exact FEq.refl _ _)) (hu.trans (by rw [fwide_congr hf']; exact FEq.refl _ _))⟩) hK
/-- a call on two complex numbers whose answer is no float -/
theorem like_callC2 {f : FuncId} {x y : Operand} {ts : Array TypeId} {fn : Func} {k : FloatKind} {r s p q : Nat} {v : Value} (hw : Region.wanted ⟨d, .call { callee := .value (.func f), args := #[x, y], argTypes := ts }, ty, pos, af, g⟩ (yielded ops a.tmps) = true)
    (hx : a.eval x = .complex k r p) (hy : a.eval y = .complex k s q) (hf : P.funcs[f]? = some fn) (hname : (fn.name == "runtime.NumGoroutine") = false) (hb : fn.body.isNone = false)
    (hc : ∀ r' p' s' q' w, FEq k r' r → FEq k p' p → FEq k s' s → FEq k q' q → Calls P f #[.complex k r' p', .complex k s' q'] w (Ret v w))
    (hK : wpLike P ops (fun w' => ∃ n, w' = w0.drewN n) Q rest (a.put d v)) : wpLike P ops (fun w' => ∃ n, w' = w0.drewN n) Q (⟨d, .call { callee := .value (.func f), args := #[x, y], argTypes := ts }, ty, pos, af, g⟩ :: rest) a :=
  wpLike_want hw _ (fun w hC a' ha => by
    obtain ⟨n, rfl⟩ := hC
    have he := ha.eval x
    rw [hx] at he
    obtain ⟨r', p', hr', hf1, hf1'⟩ := he.complex
    have he := ha.eval y
    rw [hy] at he
    obtain ⟨s', q', hs', hf2, hf2'⟩ := he.complex
    have h1 : fn.name ≠ "runtime.NumGoroutine" := by simpa using hname
    have h2 : fn.body ≠ none := by intro e; rw [e] at hb; cases hb
    have hrun : (execOp a'.eval ⟨d, .call { callee := .value (.func f), args := #[x, y], argTypes := ts }, ty, pos, af, g⟩).run P (w0.drewN n) = .ok (.enter f #[.complex k r' p', .complex k s' q']) (w0.drewN n) := by
      have hfe : a'.eval (.func f) = .func (.func f) #[] #[] := rfl
      simp [execOp, resolve, invoke, callFunc, Deferred.ofValue, hfe, hr', hs', hf, h1, h2]
    unfold likeAt
    rw [hrun]
    refine ⟨⟨n, rfl⟩, (hc r' p' s' q' _ hf1 hf1' hf2 hf2').mono ?_⟩
    rintro e w'' ⟨rfl, m, rfl⟩
    exact ⟨v, rfl, VEq.refl v, n + m, by rw [World.drewN_drewN]⟩) hK
end

/-! ### Behind the region: the frame, written out again -/
def LEq : List Value → List Value → Prop
  | [], [] => True
  | u :: us, v :: vs => VEq u v ∧ LEq us vs
  | _, _ => False
theorem LEq.cons {l : List Value} {v : Value} {vs : List Value} (h : LEq l (v :: vs)) : ∃ u us, l = u :: us ∧ VEq u v ∧ LEq us vs := by
  cases l with
  | nil => exact h.elim
  | cons u us => exact ⟨u, us, rfl, h.1, h.2⟩
theorem LEq.nil {l : List Value} (h : LEq l []) : l = [] := by
  cases l with
  | nil => rfl
  | cons u us => exact h.elim
theorem LEq.of : ∀ (l' l : List Value), l'.length = l.length → (∀ (i : Nat) (u v : Value), l'[i]? = some u → l[i]? = some v → VEq u v) → LEq l' l
  | [], [], _, _ => trivial
  | u :: us, v :: vs, hl, h => ⟨h 0 u v rfl rfl, LEq.of us vs (by simpa using hl) fun i x y hx hy => h (i + 1) x y (by simpa using hx) (by simpa using hy)⟩
  | [], _ :: _, hl, _ => by simp at hl
  | _ :: _, [], hl, _ => by simp at hl
theorem AEq.lit {a' : Act} {l : List Value} (h : AEq a' ⟨l.toArray, []⟩) : ∃ l', a' = ⟨l'.toArray, []⟩ ∧ LEq l' l := by
  obtain ⟨tmps, defers⟩ := a'
  obtain ⟨h1, h2, h3⟩ := h
  simp only at h1
  subst h1
  refine ⟨tmps.toList, by simp, LEq.of _ _ (by simpa using h2) fun i u v hu hv => h3 i u v ?_ ?_⟩
  · simpa using hu
  · simpa using hv
end Go.Proofs.Flc
