/-
  A region that draws its order, walked once: each operation leaves a value of which a fact holds that later operations keep. Over any program. No condition.
-/
import Derived.Deep.RegionHeld3
namespace Go.Colm
set_option linter.unusedVariables false
section
variable {P : Program} {ops : Array Oper} {Q : Exit → Act → World → Prop} {md : Region.Mode}

/-- The values of the operations from number i on, laid into the frame. -/
def putAll (vs : Nat → Value) : Nat → List Oper → Act → Act
  | _, [], a => a
  | i, o :: r, a => putAll vs (i + 1) r (a.put o.dst (vs i))
theorem put_defs (a : Act) (d : Option Tmp) (v : Value) : (a.put d v).defers = a.defers := by cases d <;> rfl
theorem put_size (a : Act) (d : Option Tmp) (v : Value) : (a.put d v).tmps.size = a.tmps.size := by cases d <;> simp [Act.put]
theorem put_same (a : Act) (d : Tmp) (v : Value) (h : d < a.tmps.size) : (a.put (some d) v).tmps[d]? = some v := by simp [Act.put, h]
theorem put_other (a : Act) (d : Option Tmp) (v : Value) (t : Tmp) (h : d ≠ some t) : (a.put d v).tmps[t]? = a.tmps[t]? := by
  cases d with
  | none => rfl
  | some d =>
    have hd : d ≠ t := fun e => h (by rw [e])
    simp [Act.put, Array.getElem?_setIfInBounds_ne hd]
theorem putAll_defs (vs : Nat → Value) : ∀ (l : List Oper) (i : Nat) (a : Act), (putAll vs i l a).defers = a.defers
  | [], _, _ => rfl
  | o :: r, i, a => by rw [putAll, putAll_defs vs r, put_defs]
theorem putAll_size (vs : Nat → Value) : ∀ (l : List Oper) (i : Nat) (a : Act), (putAll vs i l a).tmps.size = a.tmps.size
  | [], _, _ => rfl
  | o :: r, i, a => by rw [putAll, putAll_size vs r, put_size]
theorem putAll_other (vs : Nat → Value) (t : Tmp) : ∀ (l : List Oper) (i : Nat) (a : Act), (∀ o ∈ l, o.dst ≠ some t) → (putAll vs i l a).tmps[t]? = a.tmps[t]?
  | [], _, _, _ => rfl
  | o :: r, i, a, h => by rw [putAll, putAll_other vs t r _ _ (fun o ho => h o (by simp [ho])), put_other _ _ _ _ (h o (by simp))]
theorem putAll_at (vs : Nat → Value) (t : Tmp) : ∀ (l : List Oper) (i k : Nat) (a : Act) (o : Oper), l[k]? = some o → o.dst = some t → (∀ j o', l[j]? = some o' → o'.dst = some t → j = k) → t < a.tmps.size → (putAll vs i l a).tmps[t]? = some (vs (i + k))
  | [], i, k, a, o, h, _, _, _ => by simp at h
  | x :: r, i, 0, a, o, h, hd, hu, ht => by
    obtain rfl : x = o := by simpa using h
    rw [putAll, putAll_other vs t r, hd, put_same _ _ _ ht]
    · simp
    · intro o' ho' e
      obtain ⟨j, hj⟩ := List.mem_iff_getElem?.1 ho'
      have := hu (j + 1) o' (by simpa using hj) e
      omega
  | x :: r, i, k + 1, a, o, h, hd, hu, ht => by
    rw [putAll, putAll_at vs t r (i + 1) k _ o (by simpa using h) hd (fun j o' hj e => by have := hu (j + 1) o' (by simpa using hj) e; omega) (by rw [put_size]; exact ht)]
    rw [show i + 1 + k = i + (k + 1) by omega]

/-- Each slot is written by at most one operation, and lies in the frame. -/
def OneEach (ops : Array Oper) (n : Nat) : Prop := ∀ (i j : Nat) (oi oj : Oper) (t : Tmp), ops[i]? = some oi → ops[j]? = some oj → oi.dst = some t → oj.dst = some t → i = j ∧ t < n
/-- What holds while the operations of L have been carried out. -/
structure Midst (md : Region.Mode) (ops : Array Oper) (a0 : Act) (F : Nat → Value → World → Prop) (L : Array Bool) (a : Act) (w : World) : Prop where
  closed : ∀ (j : Nat) (o : Oper), ops[j]? = some o → L.getD j false = true → ∀ e ∈ o.after, Region.binds md e = true → L.getD e.on false = true
  defs : a.defers = a0.defers
  size : a.tmps.size = a0.tmps.size
  other : ∀ t, (∀ j o, ops[j]? = some o → o.dst = some t → L.getD j false = false) → a.tmps[t]? = a0.tmps[t]?
  done : ∀ j o, ops[j]? = some o → L.getD j false = true → ∃ v, (∀ t, o.dst = some t → a.tmps[t]? = some v) ∧ F j v w

theorem getD_set (L : Array Bool) (i j : Nat) (h : i < L.size) : (L.setIfInBounds i true).getD j false = (decide (i = j) || L.getD j false) := by
  by_cases e : i = j
  · subst e
    simp [h]
  · simp [Array.getElem?_setIfInBounds_ne e, e]
theorem Midst.step {a0 : Act} {F : Nat → Value → World → Prop} {L : Array Bool} {a : Act} {w w' : World} {i : Nat} {o : Oper} {v : Value} (h : Midst md ops a0 F L a w) (hone : OneEach ops a0.tmps.size) (ho : ops[i]? = some o) (hi : i < L.size)
    (hk : ∀ j u, F j u w → F j u w') (hv : F i v w') (hp : ∀ e ∈ o.after, Region.binds md e = true → L.getD e.on false = true) : Midst md ops a0 F (L.setIfInBounds i true) (a.put o.dst v) w' := by
  refine ⟨fun j oj hj hL e he hb => ?_, by rw [put_defs]; exact h.defs, by rw [put_size]; exact h.size, fun t ht => ?_, fun j oj hj hL => ?_⟩
  · rw [getD_set _ _ _ hi] at hL ⊢
    by_cases e2 : i = j
    · subst e2
      obtain rfl : o = oj := by rw [ho] at hj; exact Option.some.inj hj
      rw [hp e he hb, Bool.or_true]
    · rw [h.closed j oj hj (by simpa [e2] using hL) e he hb, Bool.or_true]
  · rw [put_other]
    · refine h.other t fun j oj hj hd => ?_
      have := ht j oj hj hd
      rw [getD_set _ _ _ hi] at this
      simp at this
      simpa using this.2
    · intro e
      have := ht i o ho e
      rw [getD_set _ _ _ hi] at this
      simp at this
  · rw [getD_set _ _ _ hi] at hL
    by_cases e : i = j
    · subst e
      obtain rfl : o = oj := by rw [ho] at hj; exact Option.some.inj hj
      refine ⟨v, fun t ht => ?_, hv⟩
      rw [ht]
      exact put_same _ _ _ (by rw [h.size]; exact (hone i i o o t ho ho ht ht).2)
    · obtain ⟨u, hu, hf⟩ := h.done j oj hj (by simpa [e] using hL)
      refine ⟨u, fun t ht => ?_, hk _ _ hf⟩
      rw [put_other]
      · exact hu t ht
      · intro e2
        exact e (hone i j o oj t ho hj e2 ht).1
theorem Midst.close {a0 : Act} {F : Nat → Value → World → Prop} {L : Array Bool} {a : Act} {w : World} (h : Midst md ops a0 F L a w) (hone : OneEach ops a0.tmps.size) (hall : ∀ j, j < ops.size → L.getD j false = true) :
    ∃ vs : Nat → Value, (∀ j, j < ops.size → F j (vs j) w) ∧ a = putAll vs 0 ops.toList a0 := by
  have hex : ∀ j : Nat, ∃ v, ∀ o : Oper, ops[j]? = some o → (∀ t, o.dst = some t → a.tmps[t]? = some v) ∧ F j v w := fun j => by
    cases hj : ops[j]? with
    | none => exact ⟨undef, fun o e => by cases e⟩
    | some o =>
      obtain ⟨v, h1, h2⟩ := h.done j o hj (hall j (Array.getElem?_eq_some_iff.1 hj).1)
      exact ⟨v, fun o' e => by cases e; exact ⟨h1, h2⟩⟩
  obtain ⟨vs, hvs⟩ : ∃ vs : Nat → Value, ∀ j o, ops[j]? = some o → (∀ t, o.dst = some t → a.tmps[t]? = some (vs j)) ∧ F j (vs j) w := ⟨fun j => Classical.choose (hex j), fun j => Classical.choose_spec (hex j)⟩
  refine ⟨vs, fun j hj => (hvs j _ (Array.getElem?_eq_getElem hj)).2, ?_⟩
  clear hex
  obtain ⟨tm, df⟩ := a
  have hd := h.defs
  have hs := h.size
  dsimp only at hd hs
  have e1 : (putAll vs 0 ops.toList a0).defers = df := by rw [putAll_defs, hd]
  have e2 : (putAll vs 0 ops.toList a0).tmps = tm := by
    apply Array.ext_getElem?
    intro t
    by_cases hw : ∃ (j : Nat) (o : Oper), ops[j]? = some o ∧ o.dst = some t
    · obtain ⟨j, o, hj, ht⟩ := hw
      rw [putAll_at _ t ops.toList 0 j a0 o (by simpa using hj) ht (fun k o' hk e => (hone k j o' o t (by simpa using hk) hj e ht).1) (hone j j o o t hj hj ht ht).2]
      rw [Nat.zero_add]
      exact ((hvs j o hj).1 t ht).symm
    · rw [putAll_other]
      · refine (h.other t fun j o hj ht => absurd ⟨j, o, hj, ht⟩ hw).symm
      · intro o ho e
        obtain ⟨j, hj⟩ := List.mem_iff_getElem?.1 ho
        exact hw ⟨j, o, by simpa using hj, e⟩
  rw [← e1, ← e2]
/-- **A region, walked once.** Each operation, carried out whenever all it waits for has been, leaves a value with its fact; facts that hold stay. -/
theorem wpAny_facts {a0 : Act} {F : Nat → Value → World → Prop} {R : World → World → Prop} (hone : OneEach ops a0.tmps.size) (hafter : ∀ (i : Nat) (o : Oper), ops[i]? = some o → ∀ e ∈ o.after, e.on < i)
    (htrans : ∀ a b c, R a b → R b c → R a c) (hstab : ∀ j u w w', R w w' → F j u w → F j u w') {w0 : World}
    (hstep : ∀ (i : Nat) (o : Oper), ops[i]? = some o → ∀ (L : Array Bool) (a : Act) (w : World), Midst md ops a0 F L a w → L.getD i false = false → (∀ e ∈ o.after, Region.binds md e = true → L.getD e.on false = true) → R w0 w →
      wpOp P ops Q i (fun a' w' => ∃ v, a' = a.put o.dst v ∧ F i v w' ∧ R w w') a w)
    (hend : ∀ vs w, (∀ j, j < ops.size → F j (vs j) w) → R w0 w → Q .normal (putAll vs 0 ops.toList a0) w) :
    ∀ (fuel : Nat) (L : Array Bool) (a : Act) (w : World), L.size = ops.size → (L.toList.count false ≤ fuel) → Midst md ops a0 F L a w → R w0 w → wpAny P md ops Q fuel L a w := by
  have hready : ∀ L : Array Bool, L.size = ops.size → Region.ready md ops L = [] → ∀ j, j < ops.size → L.getD j false = true := by
    intro L hL hr j
    induction j using Nat.strongRecOn with
    | ind j ih =>
      intro hj
      cases hd : L.getD j false with
      | true => rfl
      | false =>
        have hjl : j < L.size := by omega
        have : j ∈ Region.ready md ops L := mem_ready.2 ⟨by simp [hjl] at hd ⊢; exact hd, ops[j], Array.getElem?_eq_getElem hj, fun e he _ => by
          have h1 := hafter j _ (Array.getElem?_eq_getElem hj) e he
          exact ih e.on h1 (by omega)⟩
        rw [hr] at this
        cases this
  have hfin : ∀ (L : Array Bool) (a : Act) (w : World), L.size = ops.size → Midst md ops a0 F L a w → R w0 w → Region.ready md ops L = [] → Q .normal a w := fun L a w hL hm hw hr => by
    obtain ⟨vs, h1, rfl⟩ := hm.close hone (hready L hL hr)
    exact hend vs w h1 hw
  intro fuel
  induction fuel with
  | zero =>
    intro L a w hL hc hm hw
    have hr : Region.ready md ops L = [] := by
      rw [List.eq_nil_iff_forall_not_mem]
      intro j hj
      obtain ⟨h1, o, ho, _⟩ := mem_ready.1 hj
      have hjl : j < L.size := by rw [hL]; exact (Array.getElem?_eq_some_iff.1 ho).1
      have : false ∈ L.toList := by
        simp [hjl] at h1
        rw [← h1]
        exact Array.getElem_mem_toList hjl
      have := List.count_pos_iff.2 this
      omega
    exact ⟨hr, hfin L a w hL hm hw hr⟩
  | succ fuel ih =>
    intro L a w hL hc hm hw
    refine ⟨hfin L a w hL hm hw, fun i hi => ?_⟩
    obtain ⟨h1, o, ho, h2⟩ := mem_ready.1 hi
    have hil : i < L.size := by rw [hL]; exact (Array.getElem?_eq_some_iff.1 ho).1
    refine wpOp_mono ?_ (hstep i o ho L a w hm (by simpa [hil] using h1) h2 hw)
    rintro a' w' ⟨v, rfl, hf, hr⟩
    refine ih _ _ _ (by simpa using hL) ?_ (hm.step hone ho hil (fun j u => hstab j u w w' hr) hf h2) (htrans _ _ _ hw hr)
    have h3 : L[i] = false := by simpa [hil] using h1
    rw [Array.toList_setIfInBounds]
    have h4 := List.count_set (l := L.toList) (i := i) (a := true) (b := false) (by simpa using hil)
    have h5 : (L.toList[i]'(by simpa using hil) == false) = true := by simpa using h3
    have h6 : 0 < L.toList.count false := List.count_pos_iff.2 (by
      have h7 : L.toList[i]'(by simpa using hil) = false := by simpa using h3
      rw [← h7]
      exact List.getElem_mem _)
    rw [h4, if_pos h5, if_neg (by decide)]
    omega
/-- The checks on a region that is written out, as Bools (for 'kernel_rfl'). -/
def dstsOf (ops : Array Oper) : List Tmp := ops.toList.filterMap (·.dst)
def oneEachB (ops : Array Oper) (n : Nat) : Bool := (List.range ops.size).all fun i => match (ops[i]?).bind (·.dst) with
  | none => true
  | some t => decide (t < n) && (List.range ops.size).all fun j => decide (i = j) || !((ops[j]?).bind (·.dst) == some t)
theorem oneEach_of {ops : Array Oper} {n : Nat} (h : oneEachB ops n = true) : OneEach ops n := fun i j oi oj t hi hj hdi hdj => by
  have li := (Array.getElem?_eq_some_iff.1 hi).1
  have lj := (Array.getElem?_eq_some_iff.1 hj).1
  have h1 := List.all_eq_true.1 h i (List.mem_range.2 li)
  rw [hi] at h1
  simp only [Option.bind_some, hdi, Bool.and_eq_true, decide_eq_true_eq] at h1
  have h2 := List.all_eq_true.1 h1.2 j (List.mem_range.2 lj)
  rw [hj] at h2
  simp only [Option.bind_some, hdj, beq_self_eq_true, Bool.not_true, Bool.or_false, decide_eq_true_eq] at h2
  exact ⟨h2, h1.1⟩
def afterB (ops : Array Oper) : Bool := (List.range ops.size).all fun i => match ops[i]? with
  | none => true
  | some o => o.after.toList.all fun e => decide (e.on < i)
theorem after_of {ops : Array Oper} (h : afterB ops = true) : ∀ (i : Nat) (o : Oper), ops[i]? = some o → ∀ e ∈ o.after, e.on < i := fun i o hi e he => by
  have li := (Array.getElem?_eq_some_iff.1 hi).1
  have h1 := List.all_eq_true.1 h i (List.mem_range.2 li)
  rw [hi] at h1
  simpa using List.all_eq_true.1 h1 e (by simpa using he)
/-- One operation's part: whenever it may come up it leaves a value with its fact. -/
def StepOK (P : Program) (ops : Array Oper) (Q : Exit → Act → World → Prop) (a0 : Act) (w0 : World) (F : Nat → Value → World → Prop) (R : World → World → Prop) (i : Nat) (o : Oper) : Prop :=
  ∀ (L : Array Bool) (a : Act) (w : World), Midst .any ops a0 F L a w → L.getD i false = false → (∀ e ∈ o.after, Region.binds .any e = true → L.getD e.on false = true) → R w0 w →
    ∀ K : Act → World → Prop, (∀ v w', F i v w' → R w w' → K (a.put o.dst v) w') → if Region.wanted o (yielded ops a.tmps) = true then Oper.wp P o a w K Q else K (a.put o.dst undef) w
def StepsOK' (P : Program) (ops : Array Oper) (Q : Exit → Act → World → Prop) (a0 : Act) (w0 : World) (F : Nat → Value → World → Prop) (R : World → World → Prop) : Nat → List Oper → Prop
  | _, [] => True
  | i, o :: r => StepOK P ops Q a0 w0 F R i o ∧ StepsOK' P ops Q a0 w0 F R (i + 1) r
theorem StepsOK'.get {ops : Array Oper} {a0 : Act} {w0 : World} {F : Nat → Value → World → Prop} {R : World → World → Prop} : ∀ (l : List Oper) (i k : Nat) (o : Oper), StepsOK' P ops Q a0 w0 F R i l → l[k]? = some o → StepOK P ops Q a0 w0 F R (i + k) o
  | [], _, _, _, _, h => by simp at h
  | x :: r, i, 0, o, h, e => by
    obtain rfl : x = o := by simpa using e
    exact h.1
  | x :: r, i, k + 1, o, h, e => by
    have := StepsOK'.get r (i + 1) k o h.2 (by simpa using e)
    rwa [show i + 1 + k = i + (k + 1) by omega] at this
/-- The value that lies in a slot which an operation carried out has written. -/
theorem Midst.val {ops : Array Oper} {a0 : Act} {F : Nat → Value → World → Prop} {L : Array Bool} {a : Act} {w : World} (h : Midst md ops a0 F L a w) {j : Nat} {o : Oper} {t : Tmp} (hj : ops[j]? = some o) (hd : o.dst = some t) (hL : L.getD j false = true) :
    ∃ v, a.eval (.tmp t) = v ∧ F j v w := by
  obtain ⟨v, h1, h2⟩ := h.done j o hj hL
  refine ⟨v, ?_, h2⟩
  have := h1 t hd
  simp [Act.eval, Array.getD_eq_getD_getElem?, this]
/-- The value that lies in a slot which no operation of the region writes. -/
theorem Midst.old {ops : Array Oper} {a0 : Act} {F : Nat → Value → World → Prop} {L : Array Bool} {a : Act} {w : World} (h : Midst md ops a0 F L a w) {t : Tmp} (ht : (dstsOf ops).contains t = false) : a.eval (.tmp t) = a0.eval (.tmp t) := by
  have := h.other t fun j o hj hd => by
    have hm : t ∈ dstsOf ops := List.mem_filterMap.2 ⟨o, by
      have := List.mem_iff_getElem?.2 ⟨j, (by simpa using hj : ops.toList[j]? = some o)⟩
      exact this, hd⟩
    simp at ht
    exact absurd hm ht
  simp [Act.eval, Array.getD_eq_getD_getElem?, this]
/-- Does whoever writes slot t wait for operation number i? -/
def keepB (ops : Array Oper) (i : Nat) (t : Tmp) : Bool := (List.range ops.size).all fun j => match ops[j]? with
  | none => true
  | some o => !(o.dst == some t) || o.after.toList.any fun e => Region.binds .any e && decide (e.on = i)
/-- The value that lies in a slot which is written only behind operation number i. -/
theorem Midst.keep {ops : Array Oper} {a0 : Act} {F : Nat → Value → World → Prop} {L : Array Bool} {a : Act} {w : World} (h : Midst .any ops a0 F L a w) {i : Nat} {t : Tmp} (hn : L.getD i false = false) (ht : keepB ops i t = true) : a.eval (.tmp t) = a0.eval (.tmp t) := by
  have := h.other t fun j o hj hd => by
    cases hL : L.getD j false with
    | false => rfl
    | true =>
      have li := (Array.getElem?_eq_some_iff.1 hj).1
      have h1 := List.all_eq_true.1 ht j (List.mem_range.2 li)
      rw [hj] at h1
      simp only [hd, beq_self_eq_true, Bool.not_true, Bool.false_or, List.any_eq_true] at h1
      obtain ⟨e, he, hb⟩ := h1
      simp only [Bool.and_eq_true, decide_eq_true_eq] at hb
      have h2 := h.closed j o hj hL e (by simpa using he) hb.1
      rw [hb.2, hn] at h2
      cases h2
  simp [Act.eval, Array.getD_eq_getD_getElem?, this]
theorem Midst.val2 {ops : Array Oper} {a0 : Act} {F : Nat → Value → World → Prop} {L : Array Bool} {a : Act} {w : World} (h : Midst md ops a0 F L a w) {j : Nat} {o : Oper} {t : Tmp} (hj : ops[j]? = some o) (hd : o.dst = some t) (hL : L.getD j false = true) :
    ∃ v, a.tmps[t]? = some v ∧ F j v w := by
  obtain ⟨v, h1, h2⟩ := h.done j o hj hL
  exact ⟨v, h1 t hd, h2⟩
theorem Midst.keep2 {ops : Array Oper} {a0 : Act} {F : Nat → Value → World → Prop} {L : Array Bool} {a : Act} {w : World} (h : Midst .any ops a0 F L a w) {i : Nat} {t : Tmp} (hn : L.getD i false = false) (ht : keepB ops i t = true) : a.tmps[t]? = a0.tmps[t]? := by
  refine h.other t fun j o hj hd => ?_
  cases hL : L.getD j false with
  | false => rfl
  | true =>
    have li := (Array.getElem?_eq_some_iff.1 hj).1
    have h1 := List.all_eq_true.1 ht j (List.mem_range.2 li)
    rw [hj] at h1
    simp only [hd, beq_self_eq_true, Bool.not_true, Bool.false_or, List.any_eq_true] at h1
    obtain ⟨e, he, hb⟩ := h1
    simp only [Bool.and_eq_true, decide_eq_true_eq] at hb
    have h2 := h.closed j o hj hL e (by simpa using he) hb.1
    rw [hb.2, hn] at h2
    cases h2
theorem wp_region_facts {id : Nat} {a0 : Act} {w0 : World} {F : Nat → Value → World → Prop} {R : World → World → Prop} (hm : P.follows .mixedOrders = true) (hone : OneEach ops a0.tmps.size) (hafter : ∀ (i : Nat) (o : Oper), ops[i]? = some o → ∀ e ∈ o.after, e.on < i)
    (hrefl : ∀ w, R w w) (htrans : ∀ a b c, R a b → R b c → R a c) (hstab : ∀ j u w w', R w w' → F j u w → F j u w')
    (hstep : ∀ (i : Nat) (o : Oper), ops[i]? = some o → ∀ (L : Array Bool) (a : Act) (w : World), Midst .any ops a0 F L a w → L.getD i false = false → (∀ e ∈ o.after, Region.binds .any e = true → L.getD e.on false = true) → R w0.drew w →
      wpOp P ops Q i (fun a' w' => ∃ v, a' = a.put o.dst v ∧ F i v w' ∧ R w w') a w)
    (hend : ∀ vs w, (∀ j, j < ops.size → F j (vs j) w) → R w0.drew w → Q .normal (putAll vs 0 ops.toList a0) w) : (Code.region id ops true).wp P Q a0 w0 :=
  wp_region_any hm (wpAny_facts hone hafter htrans hstab hstep hend ops.size (Array.replicate ops.size false) a0 _ (by simp) (by simp) ⟨fun j o ho hL => by
    have : j < ops.size := (Array.getElem?_eq_some_iff.1 ho).1
    simp [this] at hL, rfl, rfl, fun _ _ => rfl, fun j o ho hL => by
    have : j < ops.size := (Array.getElem?_eq_some_iff.1 ho).1
    simp [this] at hL⟩ (hrefl _))
/-- The same, the operations' parts one behind the other. -/
theorem wp_region_steps {id : Nat} {a0 : Act} {w0 : World} (F : Nat → Value → World → Prop) (R : World → World → Prop) (hm : P.follows .mixedOrders = true) {n : Nat} (hn : a0.tmps.size = n) (hone : oneEachB ops n = true) (hafter : afterB ops = true)
    (hrefl : ∀ w, R w w) (htrans : ∀ a b c, R a b → R b c → R a c) (hstab : ∀ j u w w', R w w' → F j u w → F j u w')
    (hstep : StepsOK' P ops Q a0 w0.drew F R 0 ops.toList)
    (hend : ∀ vs w, (∀ j, j < ops.size → F j (vs j) w) → R w0.drew w → Q .normal (putAll vs 0 ops.toList a0) w) : (Code.region id ops true).wp P Q a0 w0 :=
  wp_region_facts hm (oneEach_of (by rw [hn]; exact hone)) (after_of hafter) hrefl htrans hstab (fun i o ho L a w h1 h0 h2 h3 => by
    have hs := StepsOK'.get ops.toList 0 i o hstep (by simpa using ho)
    rw [Nat.zero_add] at hs
    exact wpOp_step ho fun K' hK => hs L a w h1 h0 h2 h3 K' fun v w' hf hr => hK _ _ ⟨v, rfl, hf, hr⟩) hend
theorem steps_nil {ops : Array Oper} {a0 : Act} {w0 : World} {F : Nat → Value → World → Prop} {R : World → World → Prop} {i : Nat} : StepsOK' P ops Q a0 w0 F R i [] := trivial
theorem steps_cons {ops : Array Oper} {a0 : Act} {w0 : World} {F : Nat → Value → World → Prop} {R : World → World → Prop} {i : Nat} {o : Oper} {r : List Oper} (h : StepOK P ops Q a0 w0 F R i o) (h2 : StepsOK' P ops Q a0 w0 F R (i + 1) r) : StepsOK' P ops Q a0 w0 F R i (o :: r) := ⟨h, h2⟩
/-- An operation that just yields a value. -/
theorem stepV {o : Oper} {a : Act} {w w' : World} {K : Act → World → Prop} {v : Value} (hg : o.guard = none) (hrun : (execOp a.eval o).run P w = .ok (.value v) w') (h : K (a.put o.dst v) w') :
    if Region.wanted o (yielded ops a.tmps) = true then Oper.wp P o a w K Q else K (a.put o.dst undef) w := by
  rw [if_pos (by simp [Region.wanted, hg])]
  unfold Oper.wp
  rw [hrun]
  exact h
theorem stepC {o : Oper} {a : Act} {w : World} {K : Act → World → Prop} (hg : o.guard = none) (f : FuncId) (args : Array Value) (hrun : (execOp a.eval o).run P w = .ok (.enter f args) w) (T : Value → World → Prop)
    (hc : Calls P f args w fun e w' => ∃ v, e = .returned v ∧ T v w') (h : ∀ v w', T v w' → K (a.put o.dst v) w') :
    if Region.wanted o (yielded ops a.tmps) = true then Oper.wp P o a w K Q else K (a.put o.dst undef) w := by
  rw [if_pos (by simp [Region.wanted, hg])]
  unfold Oper.wp
  rw [hrun, Oper.upon_enter]
  refine hc.mono fun e w' hh => ?_
  obtain ⟨v, rfl, ht⟩ := hh
  exact h v w' ht
end
end Go.Colm
