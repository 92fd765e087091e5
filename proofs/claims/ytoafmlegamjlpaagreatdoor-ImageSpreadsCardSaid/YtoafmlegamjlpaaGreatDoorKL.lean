/-
  A region that draws its order, walked once: each operation leaves a value of which a fact holds that later operations keep. Over any program. No condition.
  The walks of class Size, Pad, Place, and of slab's parts: of, size, live. No condition but what the mirrors ask.
-/
import Derived.Deep.RegionHeld3
import Derived.Test.YtoafmlegamjlpaaGreatDoorKH
import Derived.Deep.RegionLaw
import Derived.Deep.AppendLies
namespace Go.Colm
set_option linter.unusedVariables false
section
variable {P : Program} {ops : Array Oper} {Q : Exit → Act → World → Prop} {md : Region.Mode}

/-- The values of the operations from number i on, laid into the frame. -/
def putAll (vs : Nat → Value) : Nat → List Oper → Act → Act
  | _, [], a => a
  | i, o :: r, a => putAll vs (i + 1) r (a.put o.dst (vs i))
theorem put_defs (a : Act) (d : Option Tmp) (v : Value) : (a.put d v).defers = a.defers := by cases d <;> rfl
theorem put_size (a : Act) (d : Option Tmp) (v : Value) : (a.put d v).tmps.size = a.tmps.size := by cases d <;> simp [Act.put]
theorem put_same (a : Act) (d : Tmp) (v : Value) (h : d < a.tmps.size) : (a.put (some d) v).tmps[d]? = some v := by simp [Act.put, h]
theorem put_other (a : Act) (d : Option Tmp) (v : Value) (t : Tmp) (h : d ≠ some t) : (a.put d v).tmps[t]? = a.tmps[t]? := by
  cases d with
  | none => rfl
  | some d =>
    have hd : d ≠ t := fun e => h (by rw [e])
    simp [Act.put, Array.getElem?_setIfInBounds_ne hd]
theorem putAll_defs (vs : Nat → Value) : ∀ (l : List Oper) (i : Nat) (a : Act), (putAll vs i l a).defers = a.defers
  | [], _, _ => rfl
  | o :: r, i, a => by rw [putAll, putAll_defs vs r, put_defs]
theorem putAll_size (vs : Nat → Value) : ∀ (l : List Oper) (i : Nat) (a : Act), (putAll vs i l a).tmps.size = a.tmps.size
  | [], _, _ => rfl
  | o :: r, i, a => by rw [putAll, putAll_size vs r, put_size]
theorem putAll_other (vs : Nat → Value) (t : Tmp) : ∀ (l : List Oper) (i : Nat) (a : Act), (∀ o ∈ l, o.dst ≠ some t) → (putAll vs i l a).tmps[t]? = a.tmps[t]?
  | [], _, _, _ => rfl
  | o :: r, i, a, h => by rw [putAll, putAll_other vs t r _ _ (fun o ho => h o (by simp [ho])), put_other _ _ _ _ (h o (by simp))]
theorem putAll_at (vs : Nat → Value) (t : Tmp) : ∀ (l : List Oper) (i k : Nat) (a : Act) (o : Oper), l[k]? = some o → o.dst = some t → (∀ j o', l[j]? = some o' → o'.dst = some t → j = k) → t < a.tmps.size → (putAll vs i l a).tmps[t]? = some (vs (i + k))
  | [], i, k, a, o, h, _, _, _ => by simp at h
  | x :: r, i, 0, a, o, h, hd, hu, ht => by
    obtain rfl : x = o := by simpa using h
    rw [putAll, putAll_other vs t r, hd, put_same _ _ _ ht]
    · simp
    · intro o' ho' e
      obtain ⟨j, hj⟩ := List.mem_iff_getElem?.1 ho'
      have := hu (j + 1) o' (by simpa using hj) e
      omega
  | x :: r, i, k + 1, a, o, h, hd, hu, ht => by
    rw [putAll, putAll_at vs t r (i + 1) k _ o (by simpa using h) hd (fun j o' hj e => by have := hu (j + 1) o' (by simpa using hj) e; omega) (by rw [put_size]; exact ht)]
    rw [show i + 1 + k = i + (k + 1) by omega]

/-- Each slot is written by at most one operation, and lies in the frame. -/
def OneEach (ops : Array Oper) (n : Nat) : Prop := ∀ (i j : Nat) (oi oj : Oper) (t : Tmp), ops[i]? = some oi → ops[j]? = some oj → oi.dst = some t → oj.dst = some t → i = j ∧ t < n
/-- What holds while the operations of L have been carried out. -/
structure Midst (md : Region.Mode) (ops : Array Oper) (a0 : Act) (F : Nat → Value → World → Prop) (L : Array Bool) (a : Act) (w : World) : Prop where
  closed : ∀ (j : Nat) (o : Oper), ops[j]? = some o → L.getD j false = true → ∀ e ∈ o.after, Region.binds md e = true → L.getD e.on false = true
  defs : a.defers = a0.defers
  size : a.tmps.size = a0.tmps.size
  other : ∀ t, (∀ j o, ops[j]? = some o → o.dst = some t → L.getD j false = false) → a.tmps[t]? = a0.tmps[t]?
  done : ∀ j o, ops[j]? = some o → L.getD j false = true → ∃ v, (∀ t, o.dst = some t → a.tmps[t]? = some v) ∧ F j v w

theorem getD_set (L : Array Bool) (i j : Nat) (h : i < L.size) : (L.setIfInBounds i true).getD j false = (decide (i = j) || L.getD j false) := by
  by_cases e : i = j
  · subst e
    simp [h]
  · simp [Array.getElem?_setIfInBounds_ne e, e]
theorem Midst.step {a0 : Act} {F : Nat → Value → World → Prop} {L : Array Bool} {a : Act} {w w' : World} {i : Nat} {o : Oper} {v : Value} (h : Midst md ops a0 F L a w) (hone : OneEach ops a0.tmps.size) (ho : ops[i]? = some o) (hi : i < L.size)
    (hk : ∀ j u, F j u w → F j u w') (hv : F i v w') (hp : ∀ e ∈ o.after, Region.binds md e = true → L.getD e.on false = true) : Midst md ops a0 F (L.setIfInBounds i true) (a.put o.dst v) w' := by
  refine ⟨fun j oj hj hL e he hb => ?_, by rw [put_defs]; exact h.defs, by rw [put_size]; exact h.size, fun t ht => ?_, fun j oj hj hL => ?_⟩
  · rw [getD_set _ _ _ hi] at hL ⊢
    by_cases e2 : i = j
    · subst e2
      obtain rfl : o = oj := by rw [ho] at hj; exact Option.some.inj hj
      rw [hp e he hb, Bool.or_true]
    · rw [h.closed j oj hj (by simpa [e2] using hL) e he hb, Bool.or_true]
  · rw [put_other]
    · refine h.other t fun j oj hj hd => ?_
      have := ht j oj hj hd
      rw [getD_set _ _ _ hi] at this
      simp at this
      simpa using this.2
    · intro e
      have := ht i o ho e
      rw [getD_set _ _ _ hi] at this
      simp at this
  · rw [getD_set _ _ _ hi] at hL
    by_cases e : i = j
    · subst e
      obtain rfl : o = oj := by rw [ho] at hj; exact Option.some.inj hj
      refine ⟨v, fun t ht => ?_, hv⟩
      rw [ht]
      exact put_same _ _ _ (by rw [h.size]; exact (hone i i o o t ho ho ht ht).2)
    · obtain ⟨u, hu, hf⟩ := h.done j oj hj (by simpa [e] using hL)
      refine ⟨u, fun t ht => ?_, hk _ _ hf⟩
      rw [put_other]
      · exact hu t ht
      · intro e2
        exact e (hone i j o oj t ho hj e2 ht).1
theorem Midst.close {a0 : Act} {F : Nat → Value → World → Prop} {L : Array Bool} {a : Act} {w : World} (h : Midst md ops a0 F L a w) (hone : OneEach ops a0.tmps.size) (hall : ∀ j, j < ops.size → L.getD j false = true) :
    ∃ vs : Nat → Value, (∀ j, j < ops.size → F j (vs j) w) ∧ a = putAll vs 0 ops.toList a0 := by
  have hex : ∀ j : Nat, ∃ v, ∀ o : Oper, ops[j]? = some o → (∀ t, o.dst = some t → a.tmps[t]? = some v) ∧ F j v w := fun j => by
    cases hj : ops[j]? with
    | none => exact ⟨undef, fun o e => by cases e⟩
    | some o =>
      obtain ⟨v, h1, h2⟩ := h.done j o hj (hall j (Array.getElem?_eq_some_iff.1 hj).1)
      exact ⟨v, fun o' e => by cases e; exact ⟨h1, h2⟩⟩
  obtain ⟨vs, hvs⟩ : ∃ vs : Nat → Value, ∀ j o, ops[j]? = some o → (∀ t, o.dst = some t → a.tmps[t]? = some (vs j)) ∧ F j (vs j) w := ⟨fun j => Classical.choose (hex j), fun j => Classical.choose_spec (hex j)⟩
  refine ⟨vs, fun j hj => (hvs j _ (Array.getElem?_eq_getElem hj)).2, ?_⟩
  clear hex
  obtain ⟨tm, df⟩ := a
  have hd := h.defs
  have hs := h.size
  dsimp only at hd hs
  have e1 : (putAll vs 0 ops.toList a0).defers = df := by rw [putAll_defs, hd]
  have e2 : (putAll vs 0 ops.toList a0).tmps = tm := by
    apply Array.ext_getElem?
    intro t
    by_cases hw : ∃ (j : Nat) (o : Oper), ops[j]? = some o ∧ o.dst = some t
    · obtain ⟨j, o, hj, ht⟩ := hw
      rw [putAll_at _ t ops.toList 0 j a0 o (by simpa using hj) ht (fun k o' hk e => (hone k j o' o t (by simpa using hk) hj e ht).1) (hone j j o o t hj hj ht ht).2]
      rw [Nat.zero_add]
      exact ((hvs j o hj).1 t ht).symm
    · rw [putAll_other]
      · refine (h.other t fun j o hj ht => absurd ⟨j, o, hj, ht⟩ hw).symm
      · intro o ho e
        obtain ⟨j, hj⟩ := List.mem_iff_getElem?.1 ho
        exact hw ⟨j, o, by simpa using hj, e⟩
  rw [← e1, ← e2]
/-- **A region, walked once.** Each operation, carried out whenever all it waits for has been, leaves a value with its fact; facts that hold stay. -/
theorem wpAny_facts {a0 : Act} {F : Nat → Value → World → Prop} {R : World → World → Prop} (hone : OneEach ops a0.tmps.size) (hafter : ∀ (i : Nat) (o : Oper), ops[i]? = some o → ∀ e ∈ o.after, e.on < i)
    (htrans : ∀ a b c, R a b → R b c → R a c) (hstab : ∀ j u w w', R w w' → F j u w → F j u w') {w0 : World}
    (hstep : ∀ (i : Nat) (o : Oper), ops[i]? = some o → ∀ (L : Array Bool) (a : Act) (w : World), Midst md ops a0 F L a w → L.getD i false = false → (∀ e ∈ o.after, Region.binds md e = true → L.getD e.on false = true) → R w0 w →
      wpOp P ops Q i (fun a' w' => ∃ v, a' = a.put o.dst v ∧ F i v w' ∧ R w w') a w)
    (hend : ∀ vs w, (∀ j, j < ops.size → F j (vs j) w) → R w0 w → Q .normal (putAll vs 0 ops.toList a0) w) :
    ∀ (fuel : Nat) (L : Array Bool) (a : Act) (w : World), L.size = ops.size → (L.toList.count false ≤ fuel) → Midst md ops a0 F L a w → R w0 w → wpAny P md ops Q fuel L a w := by
  have hready : ∀ L : Array Bool, L.size = ops.size → Region.ready md ops L = [] → ∀ j, j < ops.size → L.getD j false = true := by
    intro L hL hr j
    induction j using Nat.strongRecOn with
    | ind j ih =>
      intro hj
      cases hd : L.getD j false with
      | true => rfl
      | false =>
        have hjl : j < L.size := by omega
        have : j ∈ Region.ready md ops L := mem_ready.2 ⟨by simp [hjl] at hd ⊢; exact hd, ops[j], Array.getElem?_eq_getElem hj, fun e he _ => by
          have h1 := hafter j _ (Array.getElem?_eq_getElem hj) e he
          exact ih e.on h1 (by omega)⟩
        rw [hr] at this
        cases this
  have hfin : ∀ (L : Array Bool) (a : Act) (w : World), L.size = ops.size → Midst md ops a0 F L a w → R w0 w → Region.ready md ops L = [] → Q .normal a w := fun L a w hL hm hw hr => by
    obtain ⟨vs, h1, rfl⟩ := hm.close hone (hready L hL hr)
    exact hend vs w h1 hw
  intro fuel
  induction fuel with
  | zero =>
    intro L a w hL hc hm hw
    have hr : Region.ready md ops L = [] := by
      rw [List.eq_nil_iff_forall_not_mem]
      intro j hj
      obtain ⟨h1, o, ho, _⟩ := mem_ready.1 hj
      have hjl : j < L.size := by rw [hL]; exact (Array.getElem?_eq_some_iff.1 ho).1
      have : false ∈ L.toList := by
        simp [hjl] at h1
        rw [← h1]
        exact Array.getElem_mem_toList hjl
      have := List.count_pos_iff.2 this
      omega
    exact ⟨hr, hfin L a w hL hm hw hr⟩
  | succ fuel ih =>
    intro L a w hL hc hm hw
    refine ⟨hfin L a w hL hm hw, fun i hi => ?_⟩
    obtain ⟨h1, o, ho, h2⟩ := mem_ready.1 hi
    have hil : i < L.size := by rw [hL]; exact (Array.getElem?_eq_some_iff.1 ho).1
    refine wpOp_mono ?_ (hstep i o ho L a w hm (by simpa [hil] using h1) h2 hw)
    rintro a' w' ⟨v, rfl, hf, hr⟩
    refine ih _ _ _ (by simpa using hL) ?_ (hm.step hone ho hil (fun j u => hstab j u w w' hr) hf h2) (htrans _ _ _ hw hr)
    have h3 : L[i] = false := by simpa [hil] using h1
    rw [Array.toList_setIfInBounds]
    have h4 := List.count_set (l := L.toList) (i := i) (a := true) (b := false) (by simpa using hil)
    have h5 : (L.toList[i]'(by simpa using hil) == false) = true := by simpa using h3
    have h6 : 0 < L.toList.count false := List.count_pos_iff.2 (by
      have h7 : L.toList[i]'(by simpa using hil) = false := by simpa using h3
      rw [← h7]
      exact List.getElem_mem _)
    rw [h4, if_pos h5, if_neg (by decide)]
    omega
/-- The checks on a region that is written out, as Bools (for 'kernel_rfl'). -/
def dstsOf (ops : Array Oper) : List Tmp := ops.toList.filterMap (·.dst)
def oneEachB (ops : Array Oper) (n : Nat) : Bool := (List.range ops.size).all fun i => match (ops[i]?).bind (·.dst) with
  | none => true
  | some t => decide (t < n) && (List.range ops.size).all fun j => decide (i = j) || !((ops[j]?).bind (·.dst) == some t)
theorem oneEach_of {ops : Array Oper} {n : Nat} (h : oneEachB ops n = true) : OneEach ops n := fun i j oi oj t hi hj hdi hdj => by
  have li := (Array.getElem?_eq_some_iff.1 hi).1
  have lj := (Array.getElem?_eq_some_iff.1 hj).1
  have h1 := List.all_eq_true.1 h i (List.mem_range.2 li)
  rw [hi] at h1
  simp only [Option.bind_some, hdi, Bool.and_eq_true, decide_eq_true_eq] at h1
  have h2 := List.all_eq_true.1 h1.2 j (List.mem_range.2 lj)
  rw [hj] at h2
  simp only [Option.bind_some, hdj, beq_self_eq_true, Bool.not_true, Bool.or_false, decide_eq_true_eq] at h2
  exact ⟨h2, h1.1⟩
def afterB (ops : Array Oper) : Bool := (List.range ops.size).all fun i => match ops[i]? with
  | none => true
  | some o => o.after.toList.all fun e => decide (e.on < i)
theorem after_of {ops : Array Oper} (h : afterB ops = true) : ∀ (i : Nat) (o : Oper), ops[i]? = some o → ∀ e ∈ o.after, e.on < i := fun i o hi e he => by
  have li := (Array.getElem?_eq_some_iff.1 hi).1
  have h1 := List.all_eq_true.1 h i (List.mem_range.2 li)
  rw [hi] at h1
  simpa using List.all_eq_true.1 h1 e (by simpa using he)
/-- One operation's part: whenever it may come up it leaves a value with its fact. -/
def StepOK (P : Program) (ops : Array Oper) (Q : Exit → Act → World → Prop) (a0 : Act) (w0 : World) (F : Nat → Value → World → Prop) (R : World → World → Prop) (i : Nat) (o : Oper) : Prop :=
  ∀ (L : Array Bool) (a : Act) (w : World), Midst .any ops a0 F L a w → L.getD i false = false → (∀ e ∈ o.after, Region.binds .any e = true → L.getD e.on false = true) → R w0 w →
    ∀ K : Act → World → Prop, (∀ v w', F i v w' → R w w' → K (a.put o.dst v) w') → if Region.wanted o (yielded ops a.tmps) = true then Oper.wp P o a w K Q else K (a.put o.dst undef) w
def StepsOK' (P : Program) (ops : Array Oper) (Q : Exit → Act → World → Prop) (a0 : Act) (w0 : World) (F : Nat → Value → World → Prop) (R : World → World → Prop) : Nat → List Oper → Prop
  | _, [] => True
  | i, o :: r => StepOK P ops Q a0 w0 F R i o ∧ StepsOK' P ops Q a0 w0 F R (i + 1) r
theorem StepsOK'.get {ops : Array Oper} {a0 : Act} {w0 : World} {F : Nat → Value → World → Prop} {R : World → World → Prop} : ∀ (l : List Oper) (i k : Nat) (o : Oper), StepsOK' P ops Q a0 w0 F R i l → l[k]? = some o → StepOK P ops Q a0 w0 F R (i + k) o
  | [], _, _, _, _, h => by simp at h
  | x :: r, i, 0, o, h, e => by
    obtain rfl : x = o := by simpa using e
    exact h.1
  | x :: r, i, k + 1, o, h, e => by
    have := StepsOK'.get r (i + 1) k o h.2 (by simpa using e)
    rwa [show i + 1 + k = i + (k + 1) by omega] at this
/-- The value that lies in a slot which an operation carried out has written. -/
theorem Midst.val {ops : Array Oper} {a0 : Act} {F : Nat → Value → World → Prop} {L : Array Bool} {a : Act} {w : World} (h : Midst md ops a0 F L a w) {j : Nat} {o : Oper} {t : Tmp} (hj : ops[j]? = some o) (hd : o.dst = some t) (hL : L.getD j false = true) :
    ∃ v, a.eval (.tmp t) = v ∧ F j v w := by
  obtain ⟨v, h1, h2⟩ := h.done j o hj hL
  refine ⟨v, ?_, h2⟩
  have := h1 t hd
  simp [Act.eval, Array.getD_eq_getD_getElem?, this]
/-- The value that lies in a slot which no operation of the region writes. -/
theorem Midst.old {ops : Array Oper} {a0 : Act} {F : Nat → Value → World → Prop} {L : Array Bool} {a : Act} {w : World} (h : Midst md ops a0 F L a w) {t : Tmp} (ht : (dstsOf ops).contains t = false) : a.eval (.tmp t) = a0.eval (.tmp t) := by
  have := h.other t fun j o hj hd => by
    have hm : t ∈ dstsOf ops := List.mem_filterMap.2 ⟨o, by
      have := List.mem_iff_getElem?.2 ⟨j, (by simpa using hj : ops.toList[j]? = some o)⟩
      exact this, hd⟩
    simp at ht
    exact absurd hm ht
  simp [Act.eval, Array.getD_eq_getD_getElem?, this]
/-- Does whoever writes slot t wait for operation number i? -/
def keepB (ops : Array Oper) (i : Nat) (t : Tmp) : Bool := (List.range ops.size).all fun j => match ops[j]? with
  | none => true
  | some o => !(o.dst == some t) || o.after.toList.any fun e => Region.binds .any e && decide (e.on = i)
/-- The value that lies in a slot which is written only behind operation number i. -/
theorem Midst.keep {ops : Array Oper} {a0 : Act} {F : Nat → Value → World → Prop} {L : Array Bool} {a : Act} {w : World} (h : Midst .any ops a0 F L a w) {i : Nat} {t : Tmp} (hn : L.getD i false = false) (ht : keepB ops i t = true) : a.eval (.tmp t) = a0.eval (.tmp t) := by
  have := h.other t fun j o hj hd => by
    cases hL : L.getD j false with
    | false => rfl
    | true =>
      have li := (Array.getElem?_eq_some_iff.1 hj).1
      have h1 := List.all_eq_true.1 ht j (List.mem_range.2 li)
      rw [hj] at h1
      simp only [hd, beq_self_eq_true, Bool.not_true, Bool.false_or, List.any_eq_true] at h1
      obtain ⟨e, he, hb⟩ := h1
      simp only [Bool.and_eq_true, decide_eq_true_eq] at hb
      have h2 := h.closed j o hj hL e (by simpa using he) hb.1
      rw [hb.2, hn] at h2
      cases h2
  simp [Act.eval, Array.getD_eq_getD_getElem?, this]
theorem Midst.val2 {ops : Array Oper} {a0 : Act} {F : Nat → Value → World → Prop} {L : Array Bool} {a : Act} {w : World} (h : Midst md ops a0 F L a w) {j : Nat} {o : Oper} {t : Tmp} (hj : ops[j]? = some o) (hd : o.dst = some t) (hL : L.getD j false = true) :
    ∃ v, a.tmps[t]? = some v ∧ F j v w := by
  obtain ⟨v, h1, h2⟩ := h.done j o hj hL
  exact ⟨v, h1 t hd, h2⟩
theorem Midst.keep2 {ops : Array Oper} {a0 : Act} {F : Nat → Value → World → Prop} {L : Array Bool} {a : Act} {w : World} (h : Midst .any ops a0 F L a w) {i : Nat} {t : Tmp} (hn : L.getD i false = false) (ht : keepB ops i t = true) : a.tmps[t]? = a0.tmps[t]? := by
  refine h.other t fun j o hj hd => ?_
  cases hL : L.getD j false with
  | false => rfl
  | true =>
    have li := (Array.getElem?_eq_some_iff.1 hj).1
    have h1 := List.all_eq_true.1 ht j (List.mem_range.2 li)
    rw [hj] at h1
    simp only [hd, beq_self_eq_true, Bool.not_true, Bool.false_or, List.any_eq_true] at h1
    obtain ⟨e, he, hb⟩ := h1
    simp only [Bool.and_eq_true, decide_eq_true_eq] at hb
    have h2 := h.closed j o hj hL e (by simpa using he) hb.1
    rw [hb.2, hn] at h2
    cases h2
theorem wp_region_facts {id : Nat} {a0 : Act} {w0 : World} {F : Nat → Value → World → Prop} {R : World → World → Prop} (hm : P.follows .mixedOrders = true) (hone : OneEach ops a0.tmps.size) (hafter : ∀ (i : Nat) (o : Oper), ops[i]? = some o → ∀ e ∈ o.after, e.on < i)
    (hrefl : ∀ w, R w w) (htrans : ∀ a b c, R a b → R b c → R a c) (hstab : ∀ j u w w', R w w' → F j u w → F j u w')
    (hstep : ∀ (i : Nat) (o : Oper), ops[i]? = some o → ∀ (L : Array Bool) (a : Act) (w : World), Midst .any ops a0 F L a w → L.getD i false = false → (∀ e ∈ o.after, Region.binds .any e = true → L.getD e.on false = true) → R w0.drew w →
      wpOp P ops Q i (fun a' w' => ∃ v, a' = a.put o.dst v ∧ F i v w' ∧ R w w') a w)
    (hend : ∀ vs w, (∀ j, j < ops.size → F j (vs j) w) → R w0.drew w → Q .normal (putAll vs 0 ops.toList a0) w) : (Code.region id ops true).wp P Q a0 w0 :=
  wp_region_any hm (wpAny_facts hone hafter htrans hstab hstep hend ops.size (Array.replicate ops.size false) a0 _ (by simp) (by simp) ⟨fun j o ho hL => by
    have : j < ops.size := (Array.getElem?_eq_some_iff.1 ho).1
    simp [this] at hL, rfl, rfl, fun _ _ => rfl, fun j o ho hL => by
    have : j < ops.size := (Array.getElem?_eq_some_iff.1 ho).1
    simp [this] at hL⟩ (hrefl _))
/-- The same, the operations' parts one behind the other. -/
theorem wp_region_steps {id : Nat} {a0 : Act} {w0 : World} (F : Nat → Value → World → Prop) (R : World → World → Prop) (hm : P.follows .mixedOrders = true) {n : Nat} (hn : a0.tmps.size = n) (hone : oneEachB ops n = true) (hafter : afterB ops = true)
    (hrefl : ∀ w, R w w) (htrans : ∀ a b c, R a b → R b c → R a c) (hstab : ∀ j u w w', R w w' → F j u w → F j u w')
    (hstep : StepsOK' P ops Q a0 w0.drew F R 0 ops.toList)
    (hend : ∀ vs w, (∀ j, j < ops.size → F j (vs j) w) → R w0.drew w → Q .normal (putAll vs 0 ops.toList a0) w) : (Code.region id ops true).wp P Q a0 w0 :=
  wp_region_facts hm (oneEach_of (by rw [hn]; exact hone)) (after_of hafter) hrefl htrans hstab (fun i o ho L a w h1 h0 h2 h3 => by
    have hs := StepsOK'.get ops.toList 0 i o hstep (by simpa using ho)
    rw [Nat.zero_add] at hs
    exact wpOp_step ho fun K' hK => hs L a w h1 h0 h2 h3 K' fun v w' hf hr => hK _ _ ⟨v, rfl, hf, hr⟩) hend
theorem steps_nil {ops : Array Oper} {a0 : Act} {w0 : World} {F : Nat → Value → World → Prop} {R : World → World → Prop} {i : Nat} : StepsOK' P ops Q a0 w0 F R i [] := trivial
theorem steps_cons {ops : Array Oper} {a0 : Act} {w0 : World} {F : Nat → Value → World → Prop} {R : World → World → Prop} {i : Nat} {o : Oper} {r : List Oper} (h : StepOK P ops Q a0 w0 F R i o) (h2 : StepsOK' P ops Q a0 w0 F R (i + 1) r) : StepsOK' P ops Q a0 w0 F R i (o :: r) := ⟨h, h2⟩
/-- An operation that just yields a value. -/
theorem stepV {o : Oper} {a : Act} {w w' : World} {K : Act → World → Prop} {v : Value} (hg : o.guard = none) (hrun : (execOp a.eval o).run P w = .ok (.value v) w') (h : K (a.put o.dst v) w') :
    if Region.wanted o (yielded ops a.tmps) = true then Oper.wp P o a w K Q else K (a.put o.dst undef) w := by
  rw [if_pos (by simp [Region.wanted, hg])]
  unfold Oper.wp
  rw [hrun]
  exact h
/-- An operation that yields none. -/
theorem stepU {o : Oper} {a : Act} {w w' : World} {K : Act → World → Prop} (hg : o.guard = none) (hrun : (execOp a.eval o).run P w = .ok .skip w') (h : K (a.put o.dst undef) w') :
    if Region.wanted o (yielded ops a.tmps) = true then Oper.wp P o a w K Q else K (a.put o.dst undef) w := by
  rw [if_pos (by simp [Region.wanted, hg])]
  unfold Oper.wp
  rw [hrun]
  exact h
theorem stepC {o : Oper} {a : Act} {w : World} {K : Act → World → Prop} (hg : o.guard = none) (f : FuncId) (args : Array Value) (hrun : (execOp a.eval o).run P w = .ok (.enter f args) w) (T : Value → World → Prop)
    (hc : Calls P f args w fun e w' => ∃ v, e = .returned v ∧ T v w') (h : ∀ v w', T v w' → K (a.put o.dst v) w') :
    if Region.wanted o (yielded ops a.tmps) = true then Oper.wp P o a w K Q else K (a.put o.dst undef) w := by
  rw [if_pos (by simp [Region.wanted, hg])]
  unfold Oper.wp
  rw [hrun, Oper.upon_enter]
  refine hc.mono fun e w' hh => ?_
  obtain ⟨v, rfl, ht⟩ := hh
  exact h v w' ht
end
end Go.Colm
namespace Go.Cap
def slabAtM (m : Mm) (s : Nat) : Nat := baseC m.slabs m.slots + s * 1024
end Go.Cap
namespace Go.Proofs.YtoafmlegamjlpaaGreatDoor
open Go.RowKit Go.Colm Go.Cap Go.Maps
set_option linter.unusedVariables false
set_option linter.unusedSimpArgs false
theorem step_call {P : Program} {ops : Array Oper} {o : Oper} {a : Act} {w : World} {K : Act → World → Prop} {Q : Exit → Act → World → Prop} {E : Prop} (hg : o.guard = none) (f : FuncId) (args : Array Value) (hrun : (execOp a.eval o).run P w = .ok (.enter f args) w)
    (v : Value) (R : World → Prop) (hc : Calls P f args w fun e w' => e = .returned v ∧ R w') (h : ∀ w', R w' → K (a.put o.dst v) w') :
    if Region.wanted o (yielded ops a.tmps) = true then Oper.wp P o a w K Q else E := by
  have hw : Region.wanted o (yielded ops a.tmps) = true := by simp [Region.wanted, hg]
  rw [if_pos hw]
  unfold Oper.wp
  rw [hrun, Oper.upon_enter]
  refine hc.mono fun e w' hh => ?_
  obtain ⟨rfl, hR⟩ := hh
  exact h w' hR
theorem step_callg {P : Program} {ops : Array Oper} {o : Oper} {a : Act} {w : World} {K : Act → World → Prop} {Q : Exit → Act → World → Prop} {E : Prop} (hw : Region.wanted o (yielded ops a.tmps) = true) (f : FuncId) (args : Array Value) (hrun : (execOp a.eval o).run P w = .ok (.enter f args) w)
    (v : Value) (R : World → Prop) (hc : Calls P f args w fun e w' => e = .returned v ∧ R w') (h : ∀ w', R w' → K (a.put o.dst v) w') :
    if Region.wanted o (yielded ops a.tmps) = true then Oper.wp P o a w K Q else E := by
  rw [if_pos hw]
  unfold Oper.wp
  rw [hrun, Oper.upon_enter]
  refine hc.mono fun e w' hh => ?_
  obtain ⟨rfl, hR⟩ := hh
  exact h w' hR
theorem step_call2 {P : Program} {ops : Array Oper} {o : Oper} {a : Act} {w : World} {K : Act → World → Prop} {Q : Exit → Act → World → Prop} {E : Prop} (hg : o.guard = none) (f : FuncId) (args : Array Value) (hrun : (execOp a.eval o).run P w = .ok (.enter f args) w)
    (R : Value → World → Prop) (hc : Calls P f args w fun e w' => ∃ v, e = .returned v ∧ R v w') (h : ∀ v w', R v w' → K (a.put o.dst v) w') :
    if Region.wanted o (yielded ops a.tmps) = true then Oper.wp P o a w K Q else E := by
  have hw : Region.wanted o (yielded ops a.tmps) = true := by simp [Region.wanted, hg]
  rw [if_pos hw]
  unfold Oper.wp
  rw [hrun, Oper.upon_enter]
  refine hc.mono fun e w' hh => ?_
  obtain ⟨v, rfl, hR⟩ := hh
  exact h v w' hR
def sizeCl (c : Nat) : Nat := if 1 ≤ c ∧ c ≤ 9 then szAt c else 0
def padCl (c : Nat) : Nat := if 1 ≤ c ∧ c ≤ 9 then 1024 % szAt c else 0
theorem szAt_pos {c : Nat} (h : 1 ≤ c ∧ c ≤ 9) : 32 ≤ szAt c ∧ szAt c ≤ 512 ∧ szAt c % 16 = 0 := by
  obtain ⟨h1, h2⟩ := h
  have : c = 1 ∨ c = 2 ∨ c = 3 ∨ c = 4 ∨ c = 5 ∨ c = 6 ∨ c = 7 ∨ c = 8 ∨ c = 9 := by omega
  rcases this with rfl | rfl | rfl | rfl | rfl | rfl | rfl | rfl | rfl <;> decide
theorem blocksC_le (c : Nat) : blocksC c ≤ 32 ∧ blocksC c * sizeCl c ≤ 1024 := by
  unfold blocksC sizeCl
  split
  · rename_i h
    obtain ⟨h1, h2⟩ := h
    have : c = 1 ∨ c = 2 ∨ c = 3 ∨ c = 4 ∨ c = 5 ∨ c = 6 ∨ c = 7 ∨ c = 8 ∨ c = 9 := by omega
    rcases this with rfl | rfl | rfl | rfl | rfl | rfl | rfl | rfl | rfl <;> decide
  · simp
set_option maxHeartbeats 800000 in
theorem size_cl (c : Nat) (w : World) (hs : Sz w) : Calls Tryz.prog 221 #[.int .i64 (c : Int)] w fun e w' => e = .returned (.int .i64 (sizeCl c : Nat)) ∧ w' = w := by
  have HS := Lib.hid hs
  clear hs
  go_enter Tryz.func221, Tryz.ntmps221
  go_wp2_with fail
  refine (is_any _ _).mono ?_
  rintro e w1 ⟨rfl, rfl⟩
  by_cases h : 1 ≤ c ∧ c ≤ 9
  · have hc := HS.out c (by omega)
    have hd : decide ((1 : Int) ≤ (c : Int) ∧ (c : Int) ≤ 9) = true := by simp; omega
    have HZ : Hid (sizeCl c = szAt c) := Lib.hid (by rw [sizeCl, if_pos h])
    obtain ⟨h1, h2⟩ := h
    rw [hd]
    go_wp2
    go_ret
    exact ⟨ret_int (by rw [HZ.out]), rfl⟩
  · have hd : decide ((1 : Int) ≤ (c : Int) ∧ (c : Int) ≤ 9) = false := by simp; omega
    rw [hd]
    go_wp2
    go_ret
    exact ⟨ret_int (by rw [sizeCl, if_neg h]; rfl), rfl⟩
set_option maxHeartbeats 800000 in
theorem pad_cl (c : Nat) (w : World) (hs : Sz w) : Calls Tryz.prog 222 #[.int .i64 (c : Int)] w fun e w' => e = .returned (.int .i64 (padCl c : Nat)) ∧ w' = w := by
  have HS := Lib.hid hs
  clear hs
  go_enter Tryz.func222, Tryz.ntmps222
  go_wp2_with fail
  refine (is_any _ _).mono ?_
  rintro e w1 ⟨rfl, rfl⟩
  by_cases h : 1 ≤ c ∧ c ≤ 9
  · have hc := HS.out c (by omega)
    have hd : decide ((1 : Int) ≤ (c : Int) ∧ (c : Int) ≤ 9) = true := by simp; omega
    have HZ : Hid (padCl c = 1024 % szAt c) := Lib.hid (by rw [padCl, if_pos h])
    have hz := szAt_pos h
    obtain ⟨h1, h2⟩ := h
    obtain ⟨z, hzz⟩ : ∃ z, z = szAt c := ⟨_, rfl⟩
    rw [← hzz] at hc HZ hz
    have hne : ¬ ((z : Int) = 0) := by omega
    clear hzz
    rw [hd]
    go_wp2
    go_ret
    exact ⟨ret_int (by rw [HZ.out]; first | rfl | simp | omega), rfl⟩
  · have hd : decide ((1 : Int) ≤ (c : Int) ∧ (c : Int) ≤ 9) = false := by simp; omega
    rw [hd]
    go_wp2
    go_ret
    exact ⟨ret_int (by rw [padCl, if_neg h]; rfl), rfl⟩
set_option maxHeartbeats 1600000 in
theorem place_cl (c i : Nat) (w : World) (hs : Sz w) (hi : i < blocksC c) : Calls Tryz.prog 269 #[.int .i64 (c : Int), .int .i64 (i : Int)] w fun e w' => e = .returned (.tuple #[.int .i64 ((i * sizeCl c : Nat) : Int), .int .i64 0]) ∧ w' = w := by
  have hc9 : 1 ≤ c ∧ c ≤ 9 := Classical.byContradiction fun h => by rw [blocksC, if_neg h] at hi; omega
  have hle := blocksC_le c
  have HB := Lib.hid (fun W (h : Sz W) => blocks_any c W h)
  have HS := Lib.hid hs
  have hc := hs c (by omega)
  have hd : decide ((1 : Int) ≤ (c : Int) ∧ (c : Int) ≤ 9) = true := by simp; omega
  have HZ : Hid (sizeCl c = szAt c) := Lib.hid (by rw [sizeCl, if_pos hc9])
  have hz := szAt_pos hc9
  obtain ⟨z, hzz⟩ : ∃ z, z = szAt c := ⟨_, rfl⟩
  rw [← hzz] at hc HZ hz
  rw [HZ.out]
  obtain ⟨b, hb⟩ : ∃ b, b = blocksC c := ⟨_, rfl⟩
  rw [← hb] at hi HB hle
  obtain ⟨h1, h2⟩ := hc9
  have hb32 := hle.1
  have hmul : i * z ≤ 32 * 512 := Nat.mul_le_mul (by omega) (by omega)
  have hmi : ((i * z : Nat) : Int) = (i : Int) * (z : Int) := Int.natCast_mul _ _
  have HM := Lib.hid hmi
  have HM2 : Hid (0 ≤ (i : Int) * (z : Int) ∧ (i : Int) * (z : Int) ≤ 16384) := Lib.hid (by rw [← hmi]; omega)
  have hd1 : decide ((i : Int) < 0) = false := by simp
  have hd2 : decide ((b : Int) ≤ (i : Int)) = false := by simp; omega
  have hd3 : decide (b ≤ i) = false := by simp; omega
  clear hs hzz hb hle hmi hmul
  go_enter Tryz.func269, Tryz.ntmps269
  go_wp2_with fail
  refine (is_any _ _).mono ?_
  rintro e w1 ⟨rfl, rfl⟩
  rw [hd]
  go_wp2_with fail
  refine (HB.out _ HS.out).mono ?_
  rintro e w2 ⟨rfl, rfl⟩
  have hmul := HM2.out
  go_wp2_with fail
  go_ret2
  rw [HM.out]
  exact ⟨rfl, rfl⟩
/-- A slab as it is. -/
def ptV (mb s a : Nat) (x : Sl) : Array Value := #[.pointer (some ⟨mb, 0, none⟩), .int .i64 (s : Int), .int .i64 (a : Int), .int .i64 (x.cls : Int), .int .i64 (x.live : Int), .int .u32 (x.free : Int), .int .i64 (x.next : Int), .int .i64 (x.prev : Int)]
section
variable {Λ : MLay} {μ : Mm} {w : World}
theorem HasM.own_not (h : HasM Λ μ w) {k : Nat} (hk : w.heap.size ≤ k) : ¬ MOwn Λ k := fun hw => by
  rcases hw with e | e | e
  · exact absurd (h.lt (.inr (.inl rfl))) (by omega)
  · exact absurd (h.lt (.inr (.inr (.inr (.inl rfl))))) (by omega)
  · exact absurd (h.lt (.inr (.inr (.inr (.inr (.inl rfl)))))) (by omega)
set_option maxHeartbeats 3200000 in
theorem psize_ok (mb s a : Nat) (x : Sl) (w : World) (hs : Sz w) : Calls Tryz.prog 271 #[.agg (ptV mb s a x)] w fun e w' => e = .returned (.int .i64 (sizeCl x.cls : Nat)) ∧ Below w.heap.size w w' := by
  obtain ⟨w0, hw0⟩ : ∃ w0, w0 = w.alloc (.cells (ptV mb s a x) 278) := ⟨_, rfl⟩
  have hb0 : Below w.heap.size w w0 := by rw [hw0]; exact (Below.refl _ w).alloc (Nat.le_refl _) _
  have hr0 : Whole w0 w.heap.size 278 (ptV mb s a x) := by rw [hw0]; exact Whole.new w _ _
  have r3 := hr0.cell 3
  simp only [ptV, List.getElem?_toArray, List.getElem?_cons_zero, List.getElem?_cons_succ] at r3
  have HB0 := Lib.hid hb0
  have HSZ := Lib.hid (size_cl x.cls w0 (hs.below hb0))
  unfold ptV at hw0 ⊢
  clear hr0 hb0 hs
  go_enter Tryz.func271, Tryz.ntmps271
  go_upto_region 1 with fail
  rw [← hw0]
  clear hw0
  go_wp2_with fail
  refine HSZ.out.mono ?_
  rintro e w2 ⟨rfl, rfl⟩
  go_wp2_with fail
  go_ret
  exact ⟨rfl, HB0.out⟩
theorem whole_cells {w : World} {b : Nat} {T : TypeId} {c0 c1 c2 c3 c4 c5 c6 c7 : Value} (h : Whole w b T #[c0, c1, c2, c3, c4, c5, c6, c7]) : w.cell? ⟨b, 0, none⟩ = some c0 ∧ w.cell? ⟨b, 1, none⟩ = some c1 ∧ w.cell? ⟨b, 2, none⟩ = some c2 ∧ w.cell? ⟨b, 3, none⟩ = some c3 ∧ w.cell? ⟨b, 4, none⟩ = some c4 ∧ w.cell? ⟨b, 5, none⟩ = some c5 ∧ w.cell? ⟨b, 6, none⟩ = some c6 ∧ w.cell? ⟨b, 7, none⟩ = some c7 :=
  ⟨h.cell 0, h.cell 1, h.cell 2, h.cell 3, h.cell 4, h.cell 5, h.cell 6, h.cell 7⟩
theorem held8 {w W W2 : World} {p0 p1 p2 p3 p4 p5 p6 p7 : Addr} {u0 u1 u2 u3 u4 u5 u6 u7 : Value} (h : Below w.heap.size w W ∧ W.cell? p0 = some u0 ∧ W.cell? p1 = some u1 ∧ W.cell? p2 = some u2 ∧ W.cell? p3 = some u3 ∧ W.cell? p4 = some u4 ∧ W.cell? p5 = some u5 ∧ W.cell? p6 = some u6 ∧ W.cell? p7 = some u7) (k : Below W.heap.size W W2) : Below w.heap.size w W2 ∧ W2.cell? p0 = some u0 ∧ W2.cell? p1 = some u1 ∧ W2.cell? p2 = some u2 ∧ W2.cell? p3 = some u3 ∧ W2.cell? p4 = some u4 ∧ W2.cell? p5 = some u5 ∧ W2.cell? p6 = some u6 ∧ W2.cell? p7 = some u7 := by
  obtain ⟨h, c0, c1, c2, c3, c4, c5, c6, c7⟩ := h
  exact ⟨below_chain h k, cell_on c0 k, cell_on c1 k, cell_on c2 k, cell_on c3 k, cell_on c4 k, cell_on c5 k, cell_on c6 k, cell_on c7 k⟩
theorem held8_0 {w : World} {p0 p1 p2 p3 p4 p5 p6 p7 : Addr} {u0 u1 u2 u3 u4 u5 u6 u7 : Value} (c0 : w.cell? p0 = some u0) (c1 : w.cell? p1 = some u1) (c2 : w.cell? p2 = some u2) (c3 : w.cell? p3 = some u3) (c4 : w.cell? p4 = some u4) (c5 : w.cell? p5 = some u5) (c6 : w.cell? p6 = some u6) (c7 : w.cell? p7 = some u7) : Below w.heap.size w w.drew ∧ w.drew.cell? p0 = some u0 ∧ w.drew.cell? p1 = some u1 ∧ w.drew.cell? p2 = some u2 ∧ w.drew.cell? p3 = some u3 ∧ w.drew.cell? p4 = some u4 ∧ w.drew.cell? p5 = some u5 ∧ w.drew.cell? p6 = some u6 ∧ w.drew.cell? p7 = some u7 :=
  ⟨(Below.refl _ _).drew, c0, c1, c2, c3, c4, c5, c6, c7⟩
set_option maxHeartbeats 3200000 in
theorem plive_ok (h : HasM Λ μ w) (s a at_ : Nat) (x : Sl) (hc : 1 ≤ x.cls ∧ x.cls ≤ 9) (hat : at_ + sizeCl x.cls ≤ μ.size) : Calls Tryz.prog 235 #[.agg (ptV Λ.mb s a x), .int .i64 (at_ : Int)] w fun e w' => e = .returned (.bool (decide (μ.kindAt at_ (sizeCl x.cls) = 5))) ∧ Below w.heap.size w w' := by
  have hz := szAt_pos hc
  have hz0 : sizeCl x.cls = szAt x.cls := by rw [sizeCl, if_pos hc]
  obtain ⟨w0, hw0⟩ : ∃ w0, w0 = w.alloc (.cells (ptV Λ.mb s a x) 278) := ⟨_, rfl⟩
  have hb0 : Below w.heap.size w w0 := by rw [hw0]; exact (Below.refl _ w).alloc (Nat.le_refl _) _
  have hr0 : Whole w0 w.heap.size 278 (ptV Λ.mb s a x) := by rw [hw0]; exact Whole.new w _ _
  have HR0 := Lib.hid hr0
  have HB0 := Lib.hid hb0
  have HSZ := Lib.hid (fun W (hb : Below w.heap.size w W) => psize_ok Λ.mb s a x W (h.below hb).env.szs)
  have HKD := Lib.hid (fun W (hb : Below w.heap.size w W) => mkind_ok (h.below hb) at_ (sizeCl x.cls) (by omega) hat)
  clear hr0 hb0 hz hz0 hat
  obtain ⟨sz, hsz⟩ : ∃ sz, sz = sizeCl x.cls := ⟨_, rfl⟩
  rw [← hsz] at HSZ HKD ⊢
  obtain ⟨kv, hkv⟩ : ∃ kv, kv = μ.kindAt at_ sz := ⟨_, rfl⟩
  rw [← hkv] at HKD ⊢
  clear hsz hkv
  unfold ptV at hw0 HSZ ⊢
  go_enter Tryz.func235, Tryz.ntmps235
  go_upto_region 1 with fail
  rw [← hw0]
  clear hw0
  obtain ⟨x0, x1, x2, x3, x4, x5, x6, x7⟩ := whole_cells HR0.out
  go_wp2_with fail
  have hs0 := held8_0 x0 x1 x2 x3 x4 x5 x6 x7
  go_region_held3 (fun w' => Below w0.heap.size w0 w' ∧ w'.cell? ⟨w.heap.size, 0, none⟩ = some (.pointer (some ⟨Λ.mb, 0, none⟩)) ∧ w'.cell? ⟨w.heap.size, 1, none⟩ = some (.int .i64 (s : Int)) ∧ w'.cell? ⟨w.heap.size, 2, none⟩ = some (.int .i64 (a : Int)) ∧ w'.cell? ⟨w.heap.size, 3, none⟩ = some (.int .i64 (x.cls : Int)) ∧ w'.cell? ⟨w.heap.size, 4, none⟩ = some (.int .i64 (x.live : Int)) ∧ w'.cell? ⟨w.heap.size, 5, none⟩ = some (.int .u32 (x.free : Int)) ∧ w'.cell? ⟨w.heap.size, 6, none⟩ = some (.int .i64 (x.next : Int)) ∧ w'.cell? ⟨w.heap.size, 7, none⟩ = some (.int .i64 (x.prev : Int)))
    (first | exact hs0 | assumption | exact held8 (by assumption) (by assumption))
    (first
      | ((go_at_call 271; with_reducible refine (HSZ.out _ (below_chain HB0.out (And.left (by assumption)))).mono ?_); rintro e w2 ⟨rfl, hb2⟩)
      | ((go_at_call 270; with_reducible refine (HKD.out _ (below_chain HB0.out (And.left (by assumption)))).mono ?_); rintro e w2 ⟨rfl, rfl⟩))
  go_wp2_with fail
  go_ret
  exact ⟨ret_bool (Bool.eq_iff_iff.2 (by simp; omega)), below_chain HB0.out (And.left (by assumption))⟩
theorem place8 {w : World} {rb : Nat} {T : TypeId} {a0 a1 a2 a3 a4 a5 a6 a7 : Value} (h : Whole w rb T #[a0, a1, a2, a3, a4, a5, a6, a7]) (x0 x1 x2 x3 x4 x5 x6 x7 : Value) : Whole ((((((((w.setCell ⟨rb, 0, none⟩ x0).setCell ⟨rb, 1, none⟩ x1).setCell ⟨rb, 2, none⟩ x2).setCell ⟨rb, 3, none⟩ x3).setCell ⟨rb, 4, none⟩ x4).setCell ⟨rb, 5, none⟩ x5).setCell ⟨rb, 6, none⟩ x6).setCell ⟨rb, 7, none⟩ x7) rb T #[x0, x1, x2, x3, x4, x5, x6, x7] := by
  have h0 : Whole (w.setCell ⟨rb, 0, none⟩ x0) rb T #[x0, a1, a2, a3, a4, a5, a6, a7] := h.put 0 x0
  have h1 : Whole ((w.setCell ⟨rb, 0, none⟩ x0).setCell ⟨rb, 1, none⟩ x1) rb T #[x0, x1, a2, a3, a4, a5, a6, a7] := h0.put 1 x1
  have h2 : Whole (((w.setCell ⟨rb, 0, none⟩ x0).setCell ⟨rb, 1, none⟩ x1).setCell ⟨rb, 2, none⟩ x2) rb T #[x0, x1, x2, a3, a4, a5, a6, a7] := h1.put 2 x2
  have h3 : Whole ((((w.setCell ⟨rb, 0, none⟩ x0).setCell ⟨rb, 1, none⟩ x1).setCell ⟨rb, 2, none⟩ x2).setCell ⟨rb, 3, none⟩ x3) rb T #[x0, x1, x2, x3, a4, a5, a6, a7] := h2.put 3 x3
  have h4 : Whole (((((w.setCell ⟨rb, 0, none⟩ x0).setCell ⟨rb, 1, none⟩ x1).setCell ⟨rb, 2, none⟩ x2).setCell ⟨rb, 3, none⟩ x3).setCell ⟨rb, 4, none⟩ x4) rb T #[x0, x1, x2, x3, x4, a5, a6, a7] := h3.put 4 x4
  have h5 : Whole ((((((w.setCell ⟨rb, 0, none⟩ x0).setCell ⟨rb, 1, none⟩ x1).setCell ⟨rb, 2, none⟩ x2).setCell ⟨rb, 3, none⟩ x3).setCell ⟨rb, 4, none⟩ x4).setCell ⟨rb, 5, none⟩ x5) rb T #[x0, x1, x2, x3, x4, x5, a6, a7] := h4.put 5 x5
  have h6 : Whole (((((((w.setCell ⟨rb, 0, none⟩ x0).setCell ⟨rb, 1, none⟩ x1).setCell ⟨rb, 2, none⟩ x2).setCell ⟨rb, 3, none⟩ x3).setCell ⟨rb, 4, none⟩ x4).setCell ⟨rb, 5, none⟩ x5).setCell ⟨rb, 6, none⟩ x6) rb T #[x0, x1, x2, x3, x4, x5, x6, a7] := h5.put 6 x6
  have h7 : Whole ((((((((w.setCell ⟨rb, 0, none⟩ x0).setCell ⟨rb, 1, none⟩ x1).setCell ⟨rb, 2, none⟩ x2).setCell ⟨rb, 3, none⟩ x3).setCell ⟨rb, 4, none⟩ x4).setCell ⟨rb, 5, none⟩ x5).setCell ⟨rb, 6, none⟩ x6).setCell ⟨rb, 7, none⟩ x7) rb T #[x0, x1, x2, x3, x4, x5, x6, x7] := h6.put 7 x7
  exact h7
theorem whole_cells5 {w : World} {b : Nat} {T : TypeId} {c0 c1 c2 c3 c4 : Value} (h : Whole w b T #[c0, c1, c2, c3, c4]) : w.cell? ⟨b, 0, none⟩ = some c0 ∧ w.cell? ⟨b, 1, none⟩ = some c1 ∧ w.cell? ⟨b, 2, none⟩ = some c2 ∧ w.cell? ⟨b, 3, none⟩ = some c3 ∧ w.cell? ⟨b, 4, none⟩ = some c4 :=
  ⟨h.cell 0, h.cell 1, h.cell 2, h.cell 3, h.cell 4⟩
theorem whole_frozen8 {w : World} {b : Nat} {T : TypeId} {cs : Array Value} (h : Whole w b T cs) : w.frozen? ⟨b, 0, none⟩ = false ∧ w.frozen? ⟨b, 1, none⟩ = false ∧ w.frozen? ⟨b, 2, none⟩ = false ∧ w.frozen? ⟨b, 3, none⟩ = false ∧ w.frozen? ⟨b, 4, none⟩ = false ∧ w.frozen? ⟨b, 5, none⟩ = false ∧ w.frozen? ⟨b, 6, none⟩ = false ∧ w.frozen? ⟨b, 7, none⟩ = false :=
  ⟨h.frozen 0, h.frozen 1, h.frozen 2, h.frozen 3, h.frozen 4, h.frozen 5, h.frozen 6, h.frozen 7⟩
/-- Where a slab's head and its part lie. -/
def PO1 (Λ : MLay) (w : World) (μ : Mm) (sb rb : Nat) (x : Sl) (W : World) : Prop := MG Λ w μ W ∧ Whole W sb 224 #[.int .i64 (x.cls : Int), .int .i64 (x.live : Int), .int .u32 (x.free : Int), .int .i64 (x.next : Int), .int .i64 (x.prev : Int)] ∧ ∃ c0 c1 c2 c3 c4 c5 c6 c7, Whole W rb 278 #[c0, c1, c2, c3, c4, c5, c6, c7]
def PO2 (Λ : MLay) (w : World) (μ : Mm) (s rb : Nat) (x : Sl) (W : World) : Prop := MG Λ w μ W ∧ Whole W rb 278 (ptV Λ.mb s (slabAtM μ s) x)
def POR (Λ : MLay) (w : World) (μ : Mm) (s sb rb : Nat) (x : Sl) (a b : World) : Prop := (PO1 Λ w μ sb rb x a → PO1 Λ w μ sb rb x b) ∧ (PO2 Λ w μ s rb x a → PO2 Λ w μ s rb x b)
theorem POR.below {s sb rb : Nat} {x : Sl} {W W2 : World} (k : Below W.heap.size W W2) : POR Λ w μ s sb rb x W W2 :=
  ⟨fun ⟨h1, h2, c0, c1, c2, c3, c4, c5, c6, c7, h3⟩ => ⟨h1.below k, (k.block _ h2.lt).trans h2, c0, c1, c2, c3, c4, c5, c6, c7, (k.block _ h3.lt).trans h3⟩, fun ⟨h1, h2⟩ => ⟨h1.below k, (k.block _ h2.lt).trans h2⟩⟩
def ofF (Λ : MLay) (w : World) (μ : Mm) (s sb rb : Nat) (x : Sl) : Nat → Value → World → Prop
  | 0, v, _ => v = .pointer (some ⟨Λ.mb, 0, none⟩)
  | 1, v, _ => v = .int .i64 (s : Int)
  | 2, v, _ => v = .pointer (some ⟨Λ.mb, 0, none⟩)
  | 3, v, _ => v = .agg #[.int .i64 (μ.slabs : Int), .int .i64 (μ.slots : Int)]
  | 4, v, _ => v = .int .i64 (s : Int)
  | 5, v, _ => v = .int .i64 ((slabAtM μ s : Nat) : Int)
  | 6, v, _ => v = .agg #[.int .i64 (x.cls : Int), .int .i64 (x.live : Int), .int .u32 (x.free : Int), .int .i64 (x.next : Int), .int .i64 (x.prev : Int)]
  | 7, v, _ => v = .agg #[.pointer (some ⟨Λ.mb, 0, none⟩), .int .i64 (s : Int), .int .i64 ((slabAtM μ s : Nat) : Int), .int .i64 (x.cls : Int), .int .i64 (x.live : Int), .int .u32 (x.free : Int), .int .i64 (x.next : Int), .int .i64 (x.prev : Int)]
  | 8, _, W => PO2 Λ w μ s rb x W
  | _, _, _ => True
theorem ofF_stab (Λ : MLay) (w : World) (μ : Mm) (s sb rb : Nat) (x : Sl) : ∀ (j : Nat) (v : Value) (W W' : World), POR Λ w μ s sb rb x W W' → ofF Λ w μ s sb rb x j v W → ofF Λ w μ s sb rb x j v W'
  | 0, _, _, _, _, h => h
  | 1, _, _, _, _, h => h
  | 2, _, _, _, _, h => h
  | 3, _, _, _, _, h => h
  | 4, _, _, _, _, h => h
  | 5, _, _, _, _, h => h
  | 6, _, _, _, _, h => h
  | 7, _, _, _, _, h => h
  | 8, _, _, _, k, h => k.2 h
  | _ + 9, _, _, _, _, _ => trivial
set_option maxRecDepth 100000 in
set_option maxHeartbeats 6400000 in
theorem pof_ok (h : HasM Λ μ w) (s : Nat) (x : Sl) (hv : getM s μ = some x) : Calls Tryz.prog 232 #[.pointer (some ⟨Λ.mb, 0, none⟩), .int .i64 (s : Int)] w fun e w' => e = .returned (.agg (ptV Λ.mb s (slabAtM μ s) x)) ∧ MG Λ w μ w' := by
  have hss : s < μ.slabs := by
    unfold getM at hv
    obtain ⟨c, h1, hv⟩ := Option.bind_eq_some_iff.1 hv
    exact (partM_some h1).1
  obtain ⟨w0, hw0⟩ : ∃ w0, w0 = w.alloc (.cells #[.pointer none, .int .i64 0, .int .i64 0, .int .i64 0, .int .i64 0, .int .u32 0, .int .i64 0, .int .i64 0] 278) := ⟨_, rfl⟩
  have hb0 : Below w.heap.size w w0 := by rw [hw0]; exact (Below.refl _ w).alloc (Nat.le_refl _) _
  have hr0 : Whole w0 w.heap.size 278 #[.pointer none, .int .i64 0, .int .i64 0, .int .i64 0, .int .i64 0, .int .u32 0, .int .i64 0, .int .i64 0] := by rw [hw0]; exact Whole.new w _ _
  have HGE := Lib.hid (lget_ok (h.below hb0) s x hv)
  have HC := Lib.hid (fun W (hg : MG Λ w μ W) => config_any hg.has)
  have ha := fun W (hg : MG Λ w μ W) => slabAt_any μ.slabs μ.slots s W hg.has.env.szs h.ok hss
  change ∀ W, MG Λ w μ W → Calls Tryz.prog _ _ W (fun e w' => e = .returned (.int .i64 ((slabAtM μ s : Nat) : Int)) ∧ Below W.heap.size W w') at ha
  have HA := Lib.hid ha
  have HG0 : Hid (MG Λ w μ w0) := Lib.hid ((MG.refl h).below hb0)
  have HB0 := Lib.hid hb0
  have HR0 := Lib.hid hr0
  have HH := Lib.hid h
  clear hv ha hb0 hr0 hss
  go_enter Tryz.func232, Tryz.ntmps232
  go_upto_region 1 with fail
  rw [← hw0]
  clear hw0
  go_wp2_with fail
  refine HGE.out.mono ?_
  rintro e w1 ⟨rfl, hg1⟩
  unfold slV
  obtain ⟨w2, hw2⟩ : ∃ w2, w2 = w1.alloc (.cells #[.int .i64 (x.cls : Int), .int .i64 (x.live : Int), .int .u32 (x.free : Int), .int .i64 (x.next : Int), .int .i64 (x.prev : Int)] 224) := ⟨_, rfl⟩
  have hb2 : Below w1.heap.size w1 w2 := by rw [hw2]; exact (Below.refl _ _).alloc (Nat.le_refl _) _
  have hs2 : Whole w2 w1.heap.size 224 #[.int .i64 (x.cls : Int), .int .i64 (x.live : Int), .int .u32 (x.free : Int), .int .i64 (x.next : Int), .int .i64 (x.prev : Int)] := by rw [hw2]; exact Whole.new _ _ _
  have hg2 : MG Λ w μ w2 := (HG0.out.trans hg1).below hb2
  have hr2 := (hb2.block _ (Whole.lt (hg1.kept.whole HR0.out (HH.out.own_not (Nat.le_refl _))))).trans (hg1.kept.whole HR0.out (HH.out.own_not (Nat.le_refl _)))
  change Whole w2 w.heap.size _ _ at hr2
  have hlt : w.heap.size < w1.heap.size := Whole.lt (hg1.kept.whole HR0.out (HH.out.own_not (Nat.le_refl _)))
  have HPO : Hid (PO1 Λ w μ w1.heap.size w.heap.size x w2.drew) := Lib.hid ⟨hg2.below ((Below.refl _ _).drew), hs2, _, _, _, _, _, _, _, _, hr2⟩
  clear hb2 hg2 hg1 HGE hs2 hr2 HR0 HG0 HB0
  go_upto_region 2 with fail
  rw [← hw2]
  obtain ⟨sb, hsb⟩ : ∃ sb, sb = w1.heap.size := ⟨_, rfl⟩
  rw [← hsb] at HPO hlt ⊢
  clear hw2 hsb
  refine wp_region_steps (ofF Λ w μ s sb w.heap.size x) (POR Λ w μ s sb w.heap.size x) rfl (n := 21) rfl (by kernel_rfl) (by kernel_rfl) (fun w => ⟨id, id⟩) (fun _ _ _ h k => ⟨fun x => k.1 (h.1 x), fun x => k.2 (h.2 x)⟩) (ofF_stab _ _ _ _ _ _ _) ?_ ?_
  · refine steps_cons ?_ (steps_cons ?_ (steps_cons ?_ (steps_cons ?_ (steps_cons ?_ (steps_cons ?_ (steps_cons ?_ (steps_cons ?_ (steps_cons ?_ steps_nil))))))))
    · intro L9 a9 W9 hm hn hp hr K9 hK
      have e0 : a9.tmps[0]? = some (.pointer (some ⟨Λ.mb, 0, none⟩)) := (hm.keep2 hn (by rfl)).trans rfl
      exact stepV rfl (by go_simp) (hK _ _ rfl (POR.below (Below.refl _ _)))
    · intro L9 a9 W9 hm hn hp hr K9 hK
      have e1 : a9.tmps[1]? = some (.int .i64 (s : Int)) := (hm.keep2 hn (by rfl)).trans rfl
      exact stepV rfl (by go_simp) (hK _ _ rfl (POR.below (Below.refl _ _)))
    · intro L9 a9 W9 hm hn hp hr K9 hK
      have e0 : a9.tmps[0]? = some (.pointer (some ⟨Λ.mb, 0, none⟩)) := (hm.keep2 hn (by rfl)).trans rfl
      exact stepV rfl (by go_simp) (hK _ _ rfl (POR.below (Below.refl _ _)))
    · intro L9 a9 W9 hm hn hp hr K9 hK
      obtain ⟨v2, e15, hf2⟩ := hm.val2 (j := 2) (t := 15) rfl rfl (hp ⟨2, .data⟩ (by simp) rfl)
      obtain rfl : v2 = .pointer (some ⟨Λ.mb, 0, none⟩) := hf2
      exact stepC rfl 61 #[.pointer (some ⟨Λ.mb, 0, none⟩)] (by go_simp) (fun v w' => v = .agg #[.int .i64 (μ.slabs : Int), .int .i64 (μ.slots : Int)] ∧ Below W9.heap.size W9 w') ((HC.out W9 (hr.1 HPO.out).1).mono fun e w' h => ⟨_, h.1, rfl, h.2⟩) (fun v w' h => hK v w' h.1 (POR.below h.2))
    · intro L9 a9 W9 hm hn hp hr K9 hK
      have e1 : a9.tmps[1]? = some (.int .i64 (s : Int)) := (hm.keep2 hn (by rfl)).trans rfl
      exact stepV rfl (by go_simp) (hK _ _ rfl (POR.below (Below.refl _ _)))
    · intro L9 a9 W9 hm hn hp hr K9 hK
      obtain ⟨v3, e16, hf3⟩ := hm.val2 (j := 3) (t := 16) rfl rfl (hp ⟨3, .data⟩ (by simp) rfl)
      obtain rfl : v3 = .agg #[.int .i64 (μ.slabs : Int), .int .i64 (μ.slots : Int)] := hf3
      obtain ⟨v4, e17, hf4⟩ := hm.val2 (j := 4) (t := 17) rfl rfl (hp ⟨4, .data⟩ (by simp) rfl)
      obtain rfl : v4 = .int .i64 (s : Int) := hf4
      exact stepC rfl 261 #[.agg #[.int .i64 (μ.slabs : Int), .int .i64 (μ.slots : Int)], .int .i64 (s : Int)] (by go_simp) (fun v w' => v = .int .i64 ((slabAtM μ s : Nat) : Int) ∧ Below W9.heap.size W9 w') ((HA.out W9 (hr.1 HPO.out).1).mono fun e w' h => ⟨_, h.1, rfl, h.2⟩) (fun v w' h => hK v w' h.1 (POR.below h.2))
    · intro L9 a9 W9 hm hn hp hr K9 hK
      have e5 : a9.tmps[5]? = some (.pointer (some ⟨sb, 0, none⟩)) := (hm.keep2 hn (by rfl)).trans rfl
      obtain ⟨y0, y1, y2, y3, y4⟩ := whole_cells5 (hr.1 HPO.out).2.1
      exact stepV rfl (by go_simp) (hK _ _ rfl (POR.below (Below.refl _ _)))
    · intro L9 a9 W9 hm hn hp hr K9 hK
      obtain ⟨v0, e13, hf0⟩ := hm.val2 (j := 0) (t := 13) rfl rfl (hp ⟨0, .data⟩ (by simp) rfl)
      obtain rfl : v0 = .pointer (some ⟨Λ.mb, 0, none⟩) := hf0
      obtain ⟨v1, e14, hf1⟩ := hm.val2 (j := 1) (t := 14) rfl rfl (hp ⟨1, .data⟩ (by simp) rfl)
      obtain rfl : v1 = .int .i64 (s : Int) := hf1
      obtain ⟨v5, e18, hf5⟩ := hm.val2 (j := 5) (t := 18) rfl rfl (hp ⟨5, .data⟩ (by simp) rfl)
      obtain rfl : v5 = .int .i64 ((slabAtM μ s : Nat) : Int) := hf5
      obtain ⟨v6, e19, hf6⟩ := hm.val2 (j := 6) (t := 19) rfl rfl (hp ⟨6, .data⟩ (by simp) rfl)
      obtain rfl : v6 = .agg #[.int .i64 (x.cls : Int), .int .i64 (x.live : Int), .int .u32 (x.free : Int), .int .i64 (x.next : Int), .int .i64 (x.prev : Int)] := hf6
      exact stepV rfl (by go_simp) (hK _ _ rfl (POR.below (Below.refl _ _)))
    · intro L9 a9 W9 hm hn hp hr K9 hK
      have e4 : a9.tmps[4]? = some (.pointer (some ⟨w.heap.size, 0, none⟩)) := (hm.keep2 hn (by rfl)).trans rfl
      obtain ⟨v7, e20, hf7⟩ := hm.val2 (j := 7) (t := 20) rfl rfl (hp ⟨7, .data⟩ (by simp) rfl)
      obtain rfl : v7 = .agg #[.pointer (some ⟨Λ.mb, 0, none⟩), .int .i64 (s : Int), .int .i64 ((slabAtM μ s : Nat) : Int), .int .i64 (x.cls : Int), .int .i64 (x.live : Int), .int .u32 (x.free : Int), .int .i64 (x.next : Int), .int .i64 (x.prev : Int)] := hf7
      obtain ⟨hg, hs, c0, c1, c2, c3, c4, c5, c6, c7, hw⟩ := hr.1 HPO.out
      obtain ⟨f0, f1, f2, f3, f4, f5, f6, f7⟩ := whole_frozen8 hw
      obtain ⟨z0, z1, z2, z3, z4, z5, z6, z7⟩ := whole_cells hw
      have hnew := place8 hw (.pointer (some ⟨Λ.mb, 0, none⟩)) (.int .i64 (s : Int)) (.int .i64 ((slabAtM μ s : Nat) : Int)) (.int .i64 (x.cls : Int)) (.int .i64 (x.live : Int)) (.int .u32 (x.free : Int)) (.int .i64 (x.next : Int)) (.int .i64 (x.prev : Int))
      have hgn : ∀ (W : World) (i : Nat) (u : Value), MG Λ w μ W → MG Λ w μ (W.setCell ⟨w.heap.size, i, none⟩ u) := fun W i u h => h.box HH.out (Nat.le_refl _) u
      have hG8 := hgn _ 7 (.int .i64 (x.prev : Int)) (hgn _ 6 (.int .i64 (x.next : Int)) (hgn _ 5 (.int .u32 (x.free : Int)) (hgn _ 4 (.int .i64 (x.live : Int)) (hgn _ 3 (.int .i64 (x.cls : Int)) (hgn _ 2 (.int .i64 ((slabAtM μ s : Nat) : Int)) (hgn _ 1 (.int .i64 (s : Int)) (hgn _ 0 (.pointer (some ⟨Λ.mb, 0, none⟩)) hg)))))))
      have hsn : ∀ (W : World) (i : Nat) (u : Value), Whole W sb 224 #[.int .i64 (x.cls : Int), .int .i64 (x.live : Int), .int .u32 (x.free : Int), .int .i64 (x.next : Int), .int .i64 (x.prev : Int)] → Whole (W.setCell ⟨w.heap.size, i, none⟩ u) sb 224 #[.int .i64 (x.cls : Int), .int .i64 (x.live : Int), .int .u32 (x.free : Int), .int .i64 (x.next : Int), .int .i64 (x.prev : Int)] := fun W i u h => ((Kept.refl (fun k => k = w.heap.size) W).setCell (p := ⟨w.heap.size, i, none⟩) (.inl rfl) u).whole h (by omega)
      have hS8 := hsn _ 7 (.int .i64 (x.prev : Int)) (hsn _ 6 (.int .i64 (x.next : Int)) (hsn _ 5 (.int .u32 (x.free : Int)) (hsn _ 4 (.int .i64 (x.live : Int)) (hsn _ 3 (.int .i64 (x.cls : Int)) (hsn _ 2 (.int .i64 ((slabAtM μ s : Nat) : Int)) (hsn _ 1 (.int .i64 (s : Int)) (hsn _ 0 (.pointer (some ⟨Λ.mb, 0, none⟩)) hs)))))))
      obtain ⟨w8, hw8⟩ : ∃ w8, w8 = ((((((((W9.setCell ⟨w.heap.size, 0, none⟩ (.pointer (some ⟨Λ.mb, 0, none⟩))).setCell ⟨w.heap.size, 1, none⟩ (.int .i64 (s : Int))).setCell ⟨w.heap.size, 2, none⟩ (.int .i64 ((slabAtM μ s : Nat) : Int))).setCell ⟨w.heap.size, 3, none⟩ (.int .i64 (x.cls : Int))).setCell ⟨w.heap.size, 4, none⟩ (.int .i64 (x.live : Int))).setCell ⟨w.heap.size, 5, none⟩ (.int .u32 (x.free : Int))).setCell ⟨w.heap.size, 6, none⟩ (.int .i64 (x.next : Int))).setCell ⟨w.heap.size, 7, none⟩ (.int .i64 (x.prev : Int))) := ⟨_, rfl⟩
      rw [← hw8] at hnew hG8 hS8
      refine stepU (w' := w8) rfl (by rw [hw8]; go_simp) (hK undef _ ⟨hG8, hnew⟩ ⟨fun _ => ⟨hG8, hS8, _, _, _, _, _, _, _, _, hnew⟩, fun _ => ⟨hG8, hnew⟩⟩)
  · intro vs w3 hF hR
    have h8 : PO2 Λ w μ s w.heap.size x w3 := hF 8 (by decide)
    have H8 := Lib.hid h8
    clear hF h8 hR HPO HC HA HH
    simp only [putAll, Act.put, List.setIfInBounds_toArray, List.set_cons_zero, List.set_cons_succ, Nat.zero_add, Nat.reduceAdd]
    go_wp2_with fail
    refine bodyPost_ret (results_cell_row rfl _ _ w.heap.size 278 _ (0, 0) _ rfl H8.out.2 Tryz.underlying278 rfl (by kernel_rfl)) rfl ?_
    exact ⟨rfl, H8.out.1⟩
end
end Go.Proofs.YtoafmlegamjlpaaGreatDoor
