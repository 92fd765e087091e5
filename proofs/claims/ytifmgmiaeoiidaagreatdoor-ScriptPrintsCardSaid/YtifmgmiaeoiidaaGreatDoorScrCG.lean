/-
  The reference's Print, and the law's walk (a region that draws, walked once; ScrCE; ScrCF).
-/
import Derived.Deep.RegionHeld3
import Derived.Test.YtifmgmiaeoiidaaGreatDoorScrCD
import Derived.Deep.CutBlock
import Derived.Deep.DeepCutAuto
namespace Go.Colm
set_option linter.unusedVariables false
section
variable {P : Program} {ops : Array Oper} {Q : Exit → Act → World → Prop} {md : Region.Mode}

/-- The values of the operations from number i on, laid into the frame. -/
def putAll (vs : Nat → Value) : Nat → List Oper → Act → Act
  | _, [], a => a
  | i, o :: r, a => putAll vs (i + 1) r (a.put o.dst (vs i))
theorem put_defs (a : Act) (d : Option Tmp) (v : Value) : (a.put d v).defers = a.defers := by cases d <;> rfl
theorem put_size (a : Act) (d : Option Tmp) (v : Value) : (a.put d v).tmps.size = a.tmps.size := by cases d <;> simp [Act.put]
theorem put_same (a : Act) (d : Tmp) (v : Value) (h : d < a.tmps.size) : (a.put (some d) v).tmps[d]? = some v := by simp [Act.put, h]
theorem put_other (a : Act) (d : Option Tmp) (v : Value) (t : Tmp) (h : d ≠ some t) : (a.put d v).tmps[t]? = a.tmps[t]? := by
  cases d with
  | none => rfl
  | some d =>
    have hd : d ≠ t := fun e => h (by rw [e])
    simp [Act.put, Array.getElem?_setIfInBounds_ne hd]
theorem putAll_defs (vs : Nat → Value) : ∀ (l : List Oper) (i : Nat) (a : Act), (putAll vs i l a).defers = a.defers
  | [], _, _ => rfl
  | o :: r, i, a => by rw [putAll, putAll_defs vs r, put_defs]
theorem putAll_size (vs : Nat → Value) : ∀ (l : List Oper) (i : Nat) (a : Act), (putAll vs i l a).tmps.size = a.tmps.size
  | [], _, _ => rfl
  | o :: r, i, a => by rw [putAll, putAll_size vs r, put_size]
theorem putAll_other (vs : Nat → Value) (t : Tmp) : ∀ (l : List Oper) (i : Nat) (a : Act), (∀ o ∈ l, o.dst ≠ some t) → (putAll vs i l a).tmps[t]? = a.tmps[t]?
  | [], _, _, _ => rfl
  | o :: r, i, a, h => by rw [putAll, putAll_other vs t r _ _ (fun o ho => h o (by simp [ho])), put_other _ _ _ _ (h o (by simp))]
theorem putAll_at (vs : Nat → Value) (t : Tmp) : ∀ (l : List Oper) (i k : Nat) (a : Act) (o : Oper), l[k]? = some o → o.dst = some t → (∀ j o', l[j]? = some o' → o'.dst = some t → j = k) → t < a.tmps.size → (putAll vs i l a).tmps[t]? = some (vs (i + k))
  | [], i, k, a, o, h, _, _, _ => by simp at h
  | x :: r, i, 0, a, o, h, hd, hu, ht => by
    obtain rfl : x = o := by simpa using h
    rw [putAll, putAll_other vs t r, hd, put_same _ _ _ ht]
    · simp
    · intro o' ho' e
      obtain ⟨j, hj⟩ := List.mem_iff_getElem?.1 ho'
      have := hu (j + 1) o' (by simpa using hj) e
      omega
  | x :: r, i, k + 1, a, o, h, hd, hu, ht => by
    rw [putAll, putAll_at vs t r (i + 1) k _ o (by simpa using h) hd (fun j o' hj e => by have := hu (j + 1) o' (by simpa using hj) e; omega) (by rw [put_size]; exact ht)]
    rw [show i + 1 + k = i + (k + 1) by omega]

/-- Each slot is written by at most one operation, and lies in the frame. -/
def OneEach (ops : Array Oper) (n : Nat) : Prop := ∀ (i j : Nat) (oi oj : Oper) (t : Tmp), ops[i]? = some oi → ops[j]? = some oj → oi.dst = some t → oj.dst = some t → i = j ∧ t < n
/-- What holds while the operations of L have been carried out. -/
structure Midst (md : Region.Mode) (ops : Array Oper) (a0 : Act) (F : Nat → Value → World → Prop) (L : Array Bool) (a : Act) (w : World) : Prop where
  closed : ∀ (j : Nat) (o : Oper), ops[j]? = some o → L.getD j false = true → ∀ e ∈ o.after, Region.binds md e = true → L.getD e.on false = true
  defs : a.defers = a0.defers
  size : a.tmps.size = a0.tmps.size
  other : ∀ t, (∀ j o, ops[j]? = some o → o.dst = some t → L.getD j false = false) → a.tmps[t]? = a0.tmps[t]?
  done : ∀ j o, ops[j]? = some o → L.getD j false = true → ∃ v, (∀ t, o.dst = some t → a.tmps[t]? = some v) ∧ F j v w

theorem getD_set (L : Array Bool) (i j : Nat) (h : i < L.size) : (L.setIfInBounds i true).getD j false = (decide (i = j) || L.getD j false) := by
  by_cases e : i = j
  · subst e
    simp [h]
  · simp [Array.getElem?_setIfInBounds_ne e, e]
theorem Midst.step {a0 : Act} {F : Nat → Value → World → Prop} {L : Array Bool} {a : Act} {w w' : World} {i : Nat} {o : Oper} {v : Value} (h : Midst md ops a0 F L a w) (hone : OneEach ops a0.tmps.size) (ho : ops[i]? = some o) (hi : i < L.size)
    (hk : ∀ j u, F j u w → F j u w') (hv : F i v w') (hp : ∀ e ∈ o.after, Region.binds md e = true → L.getD e.on false = true) : Midst md ops a0 F (L.setIfInBounds i true) (a.put o.dst v) w' := by
  refine ⟨fun j oj hj hL e he hb => ?_, by rw [put_defs]; exact h.defs, by rw [put_size]; exact h.size, fun t ht => ?_, fun j oj hj hL => ?_⟩
  · rw [getD_set _ _ _ hi] at hL ⊢
    by_cases e2 : i = j
    · subst e2
      obtain rfl : o = oj := by rw [ho] at hj; exact Option.some.inj hj
      rw [hp e he hb, Bool.or_true]
    · rw [h.closed j oj hj (by simpa [e2] using hL) e he hb, Bool.or_true]
  · rw [put_other]
    · refine h.other t fun j oj hj hd => ?_
      have := ht j oj hj hd
      rw [getD_set _ _ _ hi] at this
      simp at this
      simpa using this.2
    · intro e
      have := ht i o ho e
      rw [getD_set _ _ _ hi] at this
      simp at this
  · rw [getD_set _ _ _ hi] at hL
    by_cases e : i = j
    · subst e
      obtain rfl : o = oj := by rw [ho] at hj; exact Option.some.inj hj
      refine ⟨v, fun t ht => ?_, hv⟩
      rw [ht]
      exact put_same _ _ _ (by rw [h.size]; exact (hone i i o o t ho ho ht ht).2)
    · obtain ⟨u, hu, hf⟩ := h.done j oj hj (by simpa [e] using hL)
      refine ⟨u, fun t ht => ?_, hk _ _ hf⟩
      rw [put_other]
      · exact hu t ht
      · intro e2
        exact e (hone i j o oj t ho hj e2 ht).1
theorem Midst.close {a0 : Act} {F : Nat → Value → World → Prop} {L : Array Bool} {a : Act} {w : World} (h : Midst md ops a0 F L a w) (hone : OneEach ops a0.tmps.size) (hall : ∀ j, j < ops.size → L.getD j false = true) :
    ∃ vs : Nat → Value, (∀ j, j < ops.size → F j (vs j) w) ∧ a = putAll vs 0 ops.toList a0 := by
  have hex : ∀ j : Nat, ∃ v, ∀ o : Oper, ops[j]? = some o → (∀ t, o.dst = some t → a.tmps[t]? = some v) ∧ F j v w := fun j => by
    cases hj : ops[j]? with
    | none => exact ⟨undef, fun o e => by cases e⟩
    | some o =>
      obtain ⟨v, h1, h2⟩ := h.done j o hj (hall j (Array.getElem?_eq_some_iff.1 hj).1)
      exact ⟨v, fun o' e => by cases e; exact ⟨h1, h2⟩⟩
  obtain ⟨vs, hvs⟩ : ∃ vs : Nat → Value, ∀ j o, ops[j]? = some o → (∀ t, o.dst = some t → a.tmps[t]? = some (vs j)) ∧ F j (vs j) w := ⟨fun j => Classical.choose (hex j), fun j => Classical.choose_spec (hex j)⟩
  refine ⟨vs, fun j hj => (hvs j _ (Array.getElem?_eq_getElem hj)).2, ?_⟩
  clear hex
  obtain ⟨tm, df⟩ := a
  have hd := h.defs
  have hs := h.size
  dsimp only at hd hs
  have e1 : (putAll vs 0 ops.toList a0).defers = df := by rw [putAll_defs, hd]
  have e2 : (putAll vs 0 ops.toList a0).tmps = tm := by
    apply Array.ext_getElem?
    intro t
    by_cases hw : ∃ (j : Nat) (o : Oper), ops[j]? = some o ∧ o.dst = some t
    · obtain ⟨j, o, hj, ht⟩ := hw
      rw [putAll_at _ t ops.toList 0 j a0 o (by simpa using hj) ht (fun k o' hk e => (hone k j o' o t (by simpa using hk) hj e ht).1) (hone j j o o t hj hj ht ht).2]
      rw [Nat.zero_add]
      exact ((hvs j o hj).1 t ht).symm
    · rw [putAll_other]
      · refine (h.other t fun j o hj ht => absurd ⟨j, o, hj, ht⟩ hw).symm
      · intro o ho e
        obtain ⟨j, hj⟩ := List.mem_iff_getElem?.1 ho
        exact hw ⟨j, o, by simpa using hj, e⟩
  rw [← e1, ← e2]
/-- **A region, walked once.** Each operation, carried out whenever all it waits for has been, leaves a value with its fact; facts that hold stay. -/
theorem wpAny_facts {a0 : Act} {F : Nat → Value → World → Prop} {R : World → World → Prop} (hone : OneEach ops a0.tmps.size) (hafter : ∀ (i : Nat) (o : Oper), ops[i]? = some o → ∀ e ∈ o.after, e.on < i)
    (htrans : ∀ a b c, R a b → R b c → R a c) (hstab : ∀ j u w w', R w w' → F j u w → F j u w') {w0 : World}
    (hstep : ∀ (i : Nat) (o : Oper), ops[i]? = some o → ∀ (L : Array Bool) (a : Act) (w : World), Midst md ops a0 F L a w → L.getD i false = false → (∀ e ∈ o.after, Region.binds md e = true → L.getD e.on false = true) → R w0 w →
      wpOp P ops Q i (fun a' w' => ∃ v, a' = a.put o.dst v ∧ F i v w' ∧ R w w') a w)
    (hend : ∀ vs w, (∀ j, j < ops.size → F j (vs j) w) → R w0 w → Q .normal (putAll vs 0 ops.toList a0) w) :
    ∀ (fuel : Nat) (L : Array Bool) (a : Act) (w : World), L.size = ops.size → (L.toList.count false ≤ fuel) → Midst md ops a0 F L a w → R w0 w → wpAny P md ops Q fuel L a w := by
  have hready : ∀ L : Array Bool, L.size = ops.size → Region.ready md ops L = [] → ∀ j, j < ops.size → L.getD j false = true := by
    intro L hL hr j
    induction j using Nat.strongRecOn with
    | ind j ih =>
      intro hj
      cases hd : L.getD j false with
      | true => rfl
      | false =>
        have hjl : j < L.size := by omega
        have : j ∈ Region.ready md ops L := mem_ready.2 ⟨by simp [hjl] at hd ⊢; exact hd, ops[j], Array.getElem?_eq_getElem hj, fun e he _ => by
          have h1 := hafter j _ (Array.getElem?_eq_getElem hj) e he
          exact ih e.on h1 (by omega)⟩
        rw [hr] at this
        cases this
  have hfin : ∀ (L : Array Bool) (a : Act) (w : World), L.size = ops.size → Midst md ops a0 F L a w → R w0 w → Region.ready md ops L = [] → Q .normal a w := fun L a w hL hm hw hr => by
    obtain ⟨vs, h1, rfl⟩ := hm.close hone (hready L hL hr)
    exact hend vs w h1 hw
  intro fuel
  induction fuel with
  | zero =>
    intro L a w hL hc hm hw
    have hr : Region.ready md ops L = [] := by
      rw [List.eq_nil_iff_forall_not_mem]
      intro j hj
      obtain ⟨h1, o, ho, _⟩ := mem_ready.1 hj
      have hjl : j < L.size := by rw [hL]; exact (Array.getElem?_eq_some_iff.1 ho).1
      have : false ∈ L.toList := by
        simp [hjl] at h1
        rw [← h1]
        exact Array.getElem_mem_toList hjl
      have := List.count_pos_iff.2 this
      omega
    exact ⟨hr, hfin L a w hL hm hw hr⟩
  | succ fuel ih =>
    intro L a w hL hc hm hw
    refine ⟨hfin L a w hL hm hw, fun i hi => ?_⟩
    obtain ⟨h1, o, ho, h2⟩ := mem_ready.1 hi
    have hil : i < L.size := by rw [hL]; exact (Array.getElem?_eq_some_iff.1 ho).1
    refine wpOp_mono ?_ (hstep i o ho L a w hm (by simpa [hil] using h1) h2 hw)
    rintro a' w' ⟨v, rfl, hf, hr⟩
    refine ih _ _ _ (by simpa using hL) ?_ (hm.step hone ho hil (fun j u => hstab j u w w' hr) hf h2) (htrans _ _ _ hw hr)
    have h3 : L[i] = false := by simpa [hil] using h1
    rw [Array.toList_setIfInBounds]
    have h4 := List.count_set (l := L.toList) (i := i) (a := true) (b := false) (by simpa using hil)
    have h5 : (L.toList[i]'(by simpa using hil) == false) = true := by simpa using h3
    have h6 : 0 < L.toList.count false := List.count_pos_iff.2 (by
      have h7 : L.toList[i]'(by simpa using hil) = false := by simpa using h3
      rw [← h7]
      exact List.getElem_mem _)
    rw [h4, if_pos h5, if_neg (by decide)]
    omega
/-- The checks on a region that is written out, as Bools (for 'kernel_rfl'). -/
def dstsOf (ops : Array Oper) : List Tmp := ops.toList.filterMap (·.dst)
def oneEachB (ops : Array Oper) (n : Nat) : Bool := (List.range ops.size).all fun i => match (ops[i]?).bind (·.dst) with
  | none => true
  | some t => decide (t < n) && (List.range ops.size).all fun j => decide (i = j) || !((ops[j]?).bind (·.dst) == some t)
theorem oneEach_of {ops : Array Oper} {n : Nat} (h : oneEachB ops n = true) : OneEach ops n := fun i j oi oj t hi hj hdi hdj => by
  have li := (Array.getElem?_eq_some_iff.1 hi).1
  have lj := (Array.getElem?_eq_some_iff.1 hj).1
  have h1 := List.all_eq_true.1 h i (List.mem_range.2 li)
  rw [hi] at h1
  simp only [Option.bind_some, hdi, Bool.and_eq_true, decide_eq_true_eq] at h1
  have h2 := List.all_eq_true.1 h1.2 j (List.mem_range.2 lj)
  rw [hj] at h2
  simp only [Option.bind_some, hdj, beq_self_eq_true, Bool.not_true, Bool.or_false, decide_eq_true_eq] at h2
  exact ⟨h2, h1.1⟩
def afterB (ops : Array Oper) : Bool := (List.range ops.size).all fun i => match ops[i]? with
  | none => true
  | some o => o.after.toList.all fun e => decide (e.on < i)
theorem after_of {ops : Array Oper} (h : afterB ops = true) : ∀ (i : Nat) (o : Oper), ops[i]? = some o → ∀ e ∈ o.after, e.on < i := fun i o hi e he => by
  have li := (Array.getElem?_eq_some_iff.1 hi).1
  have h1 := List.all_eq_true.1 h i (List.mem_range.2 li)
  rw [hi] at h1
  simpa using List.all_eq_true.1 h1 e (by simpa using he)
/-- One operation's part: whenever it may come up it leaves a value with its fact. -/
def StepOK (P : Program) (ops : Array Oper) (Q : Exit → Act → World → Prop) (a0 : Act) (w0 : World) (F : Nat → Value → World → Prop) (R : World → World → Prop) (i : Nat) (o : Oper) : Prop :=
  ∀ (L : Array Bool) (a : Act) (w : World), Midst .any ops a0 F L a w → L.getD i false = false → (∀ e ∈ o.after, Region.binds .any e = true → L.getD e.on false = true) → R w0 w →
    ∀ K : Act → World → Prop, (∀ v w', F i v w' → R w w' → K (a.put o.dst v) w') → if Region.wanted o (yielded ops a.tmps) = true then Oper.wp P o a w K Q else K (a.put o.dst undef) w
def StepsOK' (P : Program) (ops : Array Oper) (Q : Exit → Act → World → Prop) (a0 : Act) (w0 : World) (F : Nat → Value → World → Prop) (R : World → World → Prop) : Nat → List Oper → Prop
  | _, [] => True
  | i, o :: r => StepOK P ops Q a0 w0 F R i o ∧ StepsOK' P ops Q a0 w0 F R (i + 1) r
theorem StepsOK'.get {ops : Array Oper} {a0 : Act} {w0 : World} {F : Nat → Value → World → Prop} {R : World → World → Prop} : ∀ (l : List Oper) (i k : Nat) (o : Oper), StepsOK' P ops Q a0 w0 F R i l → l[k]? = some o → StepOK P ops Q a0 w0 F R (i + k) o
  | [], _, _, _, _, h => by simp at h
  | x :: r, i, 0, o, h, e => by
    obtain rfl : x = o := by simpa using e
    exact h.1
  | x :: r, i, k + 1, o, h, e => by
    have := StepsOK'.get r (i + 1) k o h.2 (by simpa using e)
    rwa [show i + 1 + k = i + (k + 1) by omega] at this
/-- The value that lies in a slot which an operation carried out has written. -/
theorem Midst.val {ops : Array Oper} {a0 : Act} {F : Nat → Value → World → Prop} {L : Array Bool} {a : Act} {w : World} (h : Midst md ops a0 F L a w) {j : Nat} {o : Oper} {t : Tmp} (hj : ops[j]? = some o) (hd : o.dst = some t) (hL : L.getD j false = true) :
    ∃ v, a.eval (.tmp t) = v ∧ F j v w := by
  obtain ⟨v, h1, h2⟩ := h.done j o hj hL
  refine ⟨v, ?_, h2⟩
  have := h1 t hd
  simp [Act.eval, Array.getD_eq_getD_getElem?, this]
/-- The value that lies in a slot which no operation of the region writes. -/
theorem Midst.old {ops : Array Oper} {a0 : Act} {F : Nat → Value → World → Prop} {L : Array Bool} {a : Act} {w : World} (h : Midst md ops a0 F L a w) {t : Tmp} (ht : (dstsOf ops).contains t = false) : a.eval (.tmp t) = a0.eval (.tmp t) := by
  have := h.other t fun j o hj hd => by
    have hm : t ∈ dstsOf ops := List.mem_filterMap.2 ⟨o, by
      have := List.mem_iff_getElem?.2 ⟨j, (by simpa using hj : ops.toList[j]? = some o)⟩
      exact this, hd⟩
    simp at ht
    exact absurd hm ht
  simp [Act.eval, Array.getD_eq_getD_getElem?, this]
/-- Does whoever writes slot t wait for operation number i? -/
def keepB (ops : Array Oper) (i : Nat) (t : Tmp) : Bool := (List.range ops.size).all fun j => match ops[j]? with
  | none => true
  | some o => !(o.dst == some t) || o.after.toList.any fun e => Region.binds .any e && decide (e.on = i)
/-- The value that lies in a slot which is written only behind operation number i. -/
theorem Midst.keep {ops : Array Oper} {a0 : Act} {F : Nat → Value → World → Prop} {L : Array Bool} {a : Act} {w : World} (h : Midst .any ops a0 F L a w) {i : Nat} {t : Tmp} (hn : L.getD i false = false) (ht : keepB ops i t = true) : a.eval (.tmp t) = a0.eval (.tmp t) := by
  have := h.other t fun j o hj hd => by
    cases hL : L.getD j false with
    | false => rfl
    | true =>
      have li := (Array.getElem?_eq_some_iff.1 hj).1
      have h1 := List.all_eq_true.1 ht j (List.mem_range.2 li)
      rw [hj] at h1
      simp only [hd, beq_self_eq_true, Bool.not_true, Bool.false_or, List.any_eq_true] at h1
      obtain ⟨e, he, hb⟩ := h1
      simp only [Bool.and_eq_true, decide_eq_true_eq] at hb
      have h2 := h.closed j o hj hL e (by simpa using he) hb.1
      rw [hb.2, hn] at h2
      cases h2
  simp [Act.eval, Array.getD_eq_getD_getElem?, this]
theorem Midst.val2 {ops : Array Oper} {a0 : Act} {F : Nat → Value → World → Prop} {L : Array Bool} {a : Act} {w : World} (h : Midst md ops a0 F L a w) {j : Nat} {o : Oper} {t : Tmp} (hj : ops[j]? = some o) (hd : o.dst = some t) (hL : L.getD j false = true) :
    ∃ v, a.tmps[t]? = some v ∧ F j v w := by
  obtain ⟨v, h1, h2⟩ := h.done j o hj hL
  exact ⟨v, h1 t hd, h2⟩
theorem Midst.keep2 {ops : Array Oper} {a0 : Act} {F : Nat → Value → World → Prop} {L : Array Bool} {a : Act} {w : World} (h : Midst .any ops a0 F L a w) {i : Nat} {t : Tmp} (hn : L.getD i false = false) (ht : keepB ops i t = true) : a.tmps[t]? = a0.tmps[t]? := by
  refine h.other t fun j o hj hd => ?_
  cases hL : L.getD j false with
  | false => rfl
  | true =>
    have li := (Array.getElem?_eq_some_iff.1 hj).1
    have h1 := List.all_eq_true.1 ht j (List.mem_range.2 li)
    rw [hj] at h1
    simp only [hd, beq_self_eq_true, Bool.not_true, Bool.false_or, List.any_eq_true] at h1
    obtain ⟨e, he, hb⟩ := h1
    simp only [Bool.and_eq_true, decide_eq_true_eq] at hb
    have h2 := h.closed j o hj hL e (by simpa using he) hb.1
    rw [hb.2, hn] at h2
    cases h2
theorem wp_region_facts {id : Nat} {a0 : Act} {w0 : World} {F : Nat → Value → World → Prop} {R : World → World → Prop} (hm : P.follows .mixedOrders = true) (hone : OneEach ops a0.tmps.size) (hafter : ∀ (i : Nat) (o : Oper), ops[i]? = some o → ∀ e ∈ o.after, e.on < i)
    (hrefl : ∀ w, R w w) (htrans : ∀ a b c, R a b → R b c → R a c) (hstab : ∀ j u w w', R w w' → F j u w → F j u w')
    (hstep : ∀ (i : Nat) (o : Oper), ops[i]? = some o → ∀ (L : Array Bool) (a : Act) (w : World), Midst .any ops a0 F L a w → L.getD i false = false → (∀ e ∈ o.after, Region.binds .any e = true → L.getD e.on false = true) → R w0.drew w →
      wpOp P ops Q i (fun a' w' => ∃ v, a' = a.put o.dst v ∧ F i v w' ∧ R w w') a w)
    (hend : ∀ vs w, (∀ j, j < ops.size → F j (vs j) w) → R w0.drew w → Q .normal (putAll vs 0 ops.toList a0) w) : (Code.region id ops true).wp P Q a0 w0 :=
  wp_region_any hm (wpAny_facts hone hafter htrans hstab hstep hend ops.size (Array.replicate ops.size false) a0 _ (by simp) (by simp) ⟨fun j o ho hL => by
    have : j < ops.size := (Array.getElem?_eq_some_iff.1 ho).1
    simp [this] at hL, rfl, rfl, fun _ _ => rfl, fun j o ho hL => by
    have : j < ops.size := (Array.getElem?_eq_some_iff.1 ho).1
    simp [this] at hL⟩ (hrefl _))
/-- The same, the operations' parts one behind the other. -/
theorem wp_region_steps {id : Nat} {a0 : Act} {w0 : World} (F : Nat → Value → World → Prop) (R : World → World → Prop) (hm : P.follows .mixedOrders = true) {n : Nat} (hn : a0.tmps.size = n) (hone : oneEachB ops n = true) (hafter : afterB ops = true)
    (hrefl : ∀ w, R w w) (htrans : ∀ a b c, R a b → R b c → R a c) (hstab : ∀ j u w w', R w w' → F j u w → F j u w')
    (hstep : StepsOK' P ops Q a0 w0.drew F R 0 ops.toList)
    (hend : ∀ vs w, (∀ j, j < ops.size → F j (vs j) w) → R w0.drew w → Q .normal (putAll vs 0 ops.toList a0) w) : (Code.region id ops true).wp P Q a0 w0 :=
  wp_region_facts hm (oneEach_of (by rw [hn]; exact hone)) (after_of hafter) hrefl htrans hstab (fun i o ho L a w h1 h0 h2 h3 => by
    have hs := StepsOK'.get ops.toList 0 i o hstep (by simpa using ho)
    rw [Nat.zero_add] at hs
    exact wpOp_step ho fun K' hK => hs L a w h1 h0 h2 h3 K' fun v w' hf hr => hK _ _ ⟨v, rfl, hf, hr⟩) hend
theorem steps_nil {ops : Array Oper} {a0 : Act} {w0 : World} {F : Nat → Value → World → Prop} {R : World → World → Prop} {i : Nat} : StepsOK' P ops Q a0 w0 F R i [] := trivial
theorem steps_cons {ops : Array Oper} {a0 : Act} {w0 : World} {F : Nat → Value → World → Prop} {R : World → World → Prop} {i : Nat} {o : Oper} {r : List Oper} (h : StepOK P ops Q a0 w0 F R i o) (h2 : StepsOK' P ops Q a0 w0 F R (i + 1) r) : StepsOK' P ops Q a0 w0 F R i (o :: r) := ⟨h, h2⟩
/-- An operation that just yields a value. -/
theorem stepV {o : Oper} {a : Act} {w w' : World} {K : Act → World → Prop} {v : Value} (hg : o.guard = none) (hrun : (execOp a.eval o).run P w = .ok (.value v) w') (h : K (a.put o.dst v) w') :
    if Region.wanted o (yielded ops a.tmps) = true then Oper.wp P o a w K Q else K (a.put o.dst undef) w := by
  rw [if_pos (by simp [Region.wanted, hg])]
  unfold Oper.wp
  rw [hrun]
  exact h
theorem stepC {o : Oper} {a : Act} {w : World} {K : Act → World → Prop} (hg : o.guard = none) (f : FuncId) (args : Array Value) (hrun : (execOp a.eval o).run P w = .ok (.enter f args) w) (T : Value → World → Prop)
    (hc : Calls P f args w fun e w' => ∃ v, e = .returned v ∧ T v w') (h : ∀ v w', T v w' → K (a.put o.dst v) w') :
    if Region.wanted o (yielded ops a.tmps) = true then Oper.wp P o a w K Q else K (a.put o.dst undef) w := by
  rw [if_pos (by simp [Region.wanted, hg])]
  unfold Oper.wp
  rw [hrun, Oper.upon_enter]
  refine hc.mono fun e w' hh => ?_
  obtain ⟨v, rfl, ht⟩ := hh
  exact h v w' ht
end
end Go.Colm
namespace Go.Scrp
open Go.RowKit Go.Colm
set_option linter.unusedVariables false
/-- What the reference prints, so many deep. -/
def prR (deep : Nat) (l : List Opd) : List UInt8 × Int := if (outL deep l).2 = true then ([], 2) else ((outL deep l).1, 0)
theorem prR_bad {deep : Nat} {l : List Opd} (h : (outL deep l).2 = true) : prR deep l = ([], 2) := by rw [prR, if_pos h]
theorem prR_ok {deep : Nat} {l : List Opd} {t : List UInt8} (h : outL deep l = (t, false)) : prR deep l = (t, 0) := by
  rw [prR, h]
  rfl
theorem sum_le_cost {h : Hd} {l : List Opd} : sumL h.recs ≤ costS (.mk h l) ∧ h.name.length ≤ costS (.mk h l) ∧ costL l ≤ costS (.mk h l) := by
  rw [costS_mk]
  omega
theorem costL_get : ∀ (l : List Opd) (k : Nat) (hk : k < l.length), costS l[k] ≤ costL l
  | s :: r, 0, _ => by rw [costL_cons]; simp
  | s :: r, k + 1, hk => by
    have := costL_get r k (by simpa using hk)
    rw [costL_cons]
    simp only [List.getElem_cons_succ]
    omega
theorem litL_get : ∀ (l : List Opd) (k : Nat) (hk : k < l.length), litL l → litS l[k]
  | s :: r, 0, _, h => (litL_cons.1 h).1
  | s :: r, k + 1, hk, h => by
    have := litL_get r k (by simpa using hk) (litL_cons.1 h).2
    simpa using this
theorem OutSo.acc {deep k : Nat} {l : List Opd} {acc : List UInt8} {wf : Bool} (H : OutSo deep l k acc wf) : acc.length ≤ (outL deep l).1.length := by
  rw [H]
  simp
theorem OutSo.flag {deep k : Nat} {l : List Opd} {acc : List UInt8} (H : OutSo deep l k acc true) : (outL deep l).2 = true := by
  rw [H]
  rfl
theorem line_1 (d : Nat) (nam : List UInt8) (ty : Nat) (rs : List (List UInt8)) (lf n : Nat) (hw cd : Int) : lineT d (wordsT ⟨1, nam, ty, rs, lf, n, hw, cd⟩) = List.replicate (d - 1) 32 ++ ([112, 117, 116] ++ (32 :: (wordL nam ++ 32 :: (Lib.decDigits ty ++ 32 :: (Lib.decDigits lf ++ 32 :: setL rs))))) ++ [10] := by
  simp [lineT, wordsT, spellT, keyT, Lib.join_cons, tail_cons, tail_nil]
theorem line_2 (d : Nat) (nam : List UInt8) (ty : Nat) (rs : List (List UInt8)) (lf n : Nat) (hw cd : Int) : lineT d (wordsT ⟨2, nam, ty, rs, lf, n, hw, cd⟩) = List.replicate (d - 1) 32 ++ ([103, 101, 116] ++ (32 :: (wordL nam ++ 32 :: Lib.decDigits ty))) ++ [10] := by
  simp [lineT, wordsT, spellT, keyT, Lib.join_cons, tail_cons, tail_nil]
theorem line_4 (d : Nat) (nam : List UInt8) (ty : Nat) (rs : List (List UInt8)) (lf n : Nat) (hw cd : Int) : lineT d (wordsT ⟨4, nam, ty, rs, lf, n, hw, cd⟩) = List.replicate (d - 1) 32 ++ ([100, 101, 108, 101, 116, 101] ++ (32 :: (wordL nam ++ 32 :: Lib.decDigits ty))) ++ [10] := by
  simp [lineT, wordsT, spellT, keyT, Lib.join_cons, tail_cons, tail_nil]
theorem line_5 (d : Nat) (nam : List UInt8) (ty : Nat) (rs : List (List UInt8)) (lf n : Nat) (hw cd : Int) : lineT d (wordsT ⟨5, nam, ty, rs, lf, n, hw, cd⟩) = List.replicate (d - 1) 32 ++ ([116, 105, 99, 107] ++ (32 :: Lib.decDigits n)) ++ [10] := by
  simp [lineT, wordsT, spellT, keyT, Lib.join_cons, tail_cons, tail_nil]
theorem line_6 (d : Nat) (nam : List UInt8) (ty : Nat) (rs : List (List UInt8)) (lf n : Nat) (hw cd : Int) : lineT d (wordsT ⟨6, nam, ty, rs, lf, n, hw, cd⟩) = List.replicate (d - 1) 32 ++ ([115, 119, 101, 101, 112] ++ (32 :: Lib.decDigits n)) ++ [10] := by
  simp [lineT, wordsT, spellT, keyT, Lib.join_cons, tail_cons, tail_nil]
theorem line_7 (d : Nat) (nam : List UInt8) (ty : Nat) (rs : List (List UInt8)) (lf n : Nat) (hw cd : Int) : lineT d (wordsT ⟨7, nam, ty, rs, lf, n, hw, cd⟩) = List.replicate (d - 1) 32 ++ ([99, 111, 109, 112, 97, 99, 116] ++ ([])) ++ [10] := by
  simp [lineT, wordsT, spellT, keyT, Lib.join_cons, tail_nil]
theorem line_8 (d : Nat) (nam : List UInt8) (ty : Nat) (rs : List (List UInt8)) (lf n : Nat) (hw cd : Int) : lineT d (wordsT ⟨8, nam, ty, rs, lf, n, hw, cd⟩) = List.replicate (d - 1) 32 ++ ([115, 116, 97, 116, 115] ++ ([])) ++ [10] := by
  simp [lineT, wordsT, spellT, keyT, Lib.join_cons, tail_nil]
theorem line_3 (d : Nat) (nam : List UInt8) (ty : Nat) (rs : List (List UInt8)) (lf n : Nat) (hw cd : Int) : lineT d (wordsT ⟨3, nam, ty, rs, lf, n, hw, cd⟩) = List.replicate (d - 1) 32 ++ ([118, 105, 101, 119] ++ 32 :: (wordL nam ++ 32 :: (Lib.decDigits ty ++ 32 :: (endT hw ++ 32 :: (Lib.itoa cd ++ [32, 123]))))) ++ [10] := by
  simp [lineT, wordsT, spellT, keyT, Lib.join_cons, tail_cons, tail_nil]
theorem line_shut (d : Nat) : lineT d [[125]] = List.replicate (d - 1) 32 ++ [125, 10] := by
  simp [lineT, Lib.join_one]
end Go.Scrp
namespace Go.Proofs.YtifmgmiaeoiidaaGreatDoor
open Go.RowKit Go.Colm Go.Scrp
set_option linter.unusedVariables false

theorem lit_size (a : Array UInt8) : (ByteArray.mk a).size = a.size := rfl
theorem str_of {a : ByteArray} {l : List UInt8} (h : a.data.toList = l) : a = ⟨l.toArray⟩ := by
  subst h
  exact (bytes_eq a).symm
/-- Steps are printed right by the reference, whatever the world. -/
def PrintOK (l : List Opd) : Prop :=
  ∀ (N : Nat → Prop) (A : Option Addr) (c deep : Nat) (w : World), OpdsAt N w A 0 l → l.length ≤ maxLen → litL l → costL l ≤ 1048576 → 1 ≤ deep → deep ≤ 21 →
    Calls Tryz.prog 14 #[.slice A l.length c, .int .i64 (deep : Int)] w fun e w' =>
      e = .returned (.tuple #[.string ⟨(prR deep l).1.toArray⟩, .int .i64 (prR deep l).2]) ∧ Below w.heap.size w w'
theorem rsignedq_any (n : Int) (ic : ByteArray) (hic : ic = ⟨(Lib.itoa n).toArray⟩) (h1 : -9223372036854775808 ≤ n) (h2 : n ≤ 9223372036854775807) (w : World) : Calls Tryz.prog 31 #[.int .i64 n] w fun e w' => e = .returned (.string ic) ∧ Below w.heap.size w w' := by
  rw [hic]
  exact rsignedp_any n h1 h2 w
/-- What the operations of a view's line leave. -/
def viewF (S1 KY B T2 en ic : ByteArray) (u : Nat) (cd : Int) (g : Nat) : Nat → Value → World → Prop
  | 0, v, _ => v = .string (S1)
  | 1, v, _ => v = .string (S1 ++ ⟨#[118, 105, 101, 119]⟩)
  | 2, v, _ => v = .string (KY)
  | 3, v, _ => v = .string ((S1 ++ ⟨#[118, 105, 101, 119]⟩) ++ KY)
  | 4, v, _ => v = .string (((S1 ++ ⟨#[118, 105, 101, 119]⟩) ++ KY) ++ ⟨#[32]⟩)
  | 5, v, w => ∃ h, v = .slice (some ⟨h, 0, none⟩) 2 2 ∧ w.cell? ⟨h, u, none⟩ = some (.string en)
  | 6, v, _ => v = .pointer (some ⟨g, 7, none⟩)
  | 7, v, _ => v = .int .i64 (u : Int)
  | 8, v, w => ∃ h, v = .pointer (some ⟨h, u, none⟩) ∧ w.cell? ⟨h, u, none⟩ = some (.string en)
  | 9, v, _ => v = .string (en)
  | 10, v, _ => v = .string ((((S1 ++ ⟨#[118, 105, 101, 119]⟩) ++ KY) ++ ⟨#[32]⟩) ++ en)
  | 11, v, _ => v = .string (((((S1 ++ ⟨#[118, 105, 101, 119]⟩) ++ KY) ++ ⟨#[32]⟩) ++ en) ++ ⟨#[32]⟩)
  | 12, v, _ => v = .pointer (some ⟨g, 8, none⟩)
  | 13, v, _ => v = .int .i64 cd
  | 14, v, _ => v = .string (ic)
  | 15, v, _ => v = .string ((((((S1 ++ ⟨#[118, 105, 101, 119]⟩) ++ KY) ++ ⟨#[32]⟩) ++ en) ++ ⟨#[32]⟩) ++ ic)
  | 16, v, _ => v = .string (((((((S1 ++ ⟨#[118, 105, 101, 119]⟩) ++ KY) ++ ⟨#[32]⟩) ++ en) ++ ⟨#[32]⟩) ++ ic) ++ ⟨#[32, 123, 10]⟩)
  | 17, v, _ => v = .string (T2)
  | 18, v, _ => v = .string ((((((((S1 ++ ⟨#[118, 105, 101, 119]⟩) ++ KY) ++ ⟨#[32]⟩) ++ en) ++ ⟨#[32]⟩) ++ ic) ++ ⟨#[32, 123, 10]⟩) ++ T2)
  | 19, v, _ => v = .string (B)
  | 20, v, _ => v = .string (((((((((S1 ++ ⟨#[118, 105, 101, 119]⟩) ++ KY) ++ ⟨#[32]⟩) ++ en) ++ ⟨#[32]⟩) ++ ic) ++ ⟨#[32, 123, 10]⟩) ++ T2) ++ B)
  | 21, v, _ => v = .string ((((((((((S1 ++ ⟨#[118, 105, 101, 119]⟩) ++ KY) ++ ⟨#[32]⟩) ++ en) ++ ⟨#[32]⟩) ++ ic) ++ ⟨#[32, 123, 10]⟩) ++ T2) ++ B) ++ ⟨#[125]⟩)
  | 22, v, _ => v = .string ((((((((((S1 ++ ⟨#[118, 105, 101, 119]⟩) ++ KY) ++ ⟨#[32]⟩) ++ en) ++ ⟨#[32]⟩) ++ ic) ++ ⟨#[32, 123, 10]⟩) ++ T2) ++ B) ++ ⟨#[125]⟩)
  | _, _, _ => True
theorem viewF_stab (S1 KY B T2 en ic : ByteArray) (u : Nat) (cd : Int) (g : Nat) : ∀ (j : Nat) (v : Value) (w w' : World), Below w.heap.size w w' → viewF S1 KY B T2 en ic u cd g j v w → viewF S1 KY B T2 en ic u cd g j v w'
  | 0, _, _, _, _, h => h
  | 1, _, _, _, _, h => h
  | 2, _, _, _, _, h => h
  | 3, _, _, _, _, h => h
  | 4, _, _, _, _, h => h
  | 5, v, w, w', hb, ⟨h, e, hc⟩ => ⟨h, e, (hb.cell (lt_of_cell hc)).trans hc⟩
  | 6, _, _, _, _, h => h
  | 7, _, _, _, _, h => h
  | 8, v, w, w', hb, ⟨h, e, hc⟩ => ⟨h, e, (hb.cell (lt_of_cell hc)).trans hc⟩
  | 9, _, _, _, _, h => h
  | 10, _, _, _, _, h => h
  | 11, _, _, _, _, h => h
  | 12, _, _, _, _, h => h
  | 13, _, _, _, _, h => h
  | 14, _, _, _, _, h => h
  | 15, _, _, _, _, h => h
  | 16, _, _, _, _, h => h
  | 17, _, _, _, _, h => h
  | 18, _, _, _, _, h => h
  | 19, _, _, _, _, h => h
  | 20, _, _, _, _, h => h
  | 21, _, _, _, _, h => h
  | 22, _, _, _, _, h => h
  | _ + 23, _, _, _, _, _ => trivial
/-- What the loop carries. -/
def PrLoop (deep : Nat) (l : List Opd) (w : World) (k : Nat) (acc : List UInt8) (wr : World) : Prop := OutSo deep l k acc false ∧ Below w.heap.size w wr

set_option maxRecDepth 100000 in
set_option maxHeartbeats 4000000 in
theorem rprint_nil (A : Option Addr) (c deep : Nat) (w : World) (hd1 : 1 ≤ deep) (hd21 : deep ≤ 21) :
    Calls Tryz.prog 14 #[.slice A 0 c, .int .i64 (deep : Int)] w fun e w' =>
      e = .returned (.tuple #[.string ⟨(prR deep []).1.toArray⟩, .int .i64 (prR deep []).2]) ∧ Below w.heap.size w w' := by
  have HP : Hid (prR deep [] = ([], 0)) := Lib.hid (prR_ok (outL_nil deep))
  go_enter Tryz.func14, Tryz.ntmps14
  go_wp2_with fail
  go_loop [6, 7] (fun v i => ∃ (j : Nat) (B : ByteArray), 1 ≤ j ∧ j ≤ 21 ∧ i = .int .i64 (j : Int) ∧ v = .string B ∧ B.size ≤ j) (fun _ i => 21 - (intOf i).toNat)
  case atStart => exact ⟨1, ⟨#[]⟩, by omega, by omega, rfl, rfl, by decide⟩
  case round =>
    obtain ⟨j, B, hj1, hj2, rfl, rfl, hB⟩ := hrel
    by_cases hlt : j < deep
    · go_wp2_with fail
      go_round
      case rel => exact ⟨j + 1, _, by omega, by omega, by go_num, rfl, by rw [ByteArray.size_append]; show _ + 1 ≤ _; omega⟩
      case measure => simp [intOf]; omega
    · go_wp2_with fail
      go_loopw [8, 9] (fun s i wr => s = .string ⟨#[]⟩ ∧ i = .int .i64 0 ∧ wr = w) (fun _ _ _ => 0)
      case atStart => exact ⟨rfl, rfl, rfl⟩
      case round =>
        obtain ⟨rfl, rfl, rfl⟩ := hrel
        go_wp2_with fail
        go_ret2
        exact ⟨by rw [HP.out]; rfl, Below.refl _ _⟩

-- MAIN
set_option maxRecDepth 100000 in
set_option maxHeartbeats 16000000 in
theorem rprint_step {l : List Opd} (H : ∀ k (hk : k < l.length) h sub, l[k] = .mk h sub → PrintOK sub) : PrintOK l := by
  intro N A c deep w hS hlm hlit hcost hd1 hd21
  by_cases h0 : 0 < l.length
  rotate_left
  · have : l = [] := List.eq_nil_of_length_eq_zero (by omega)
    subst this
    exact rprint_nil A c deep w hd1 hd21
  have hlm' : l.length ≤ 9223372036854775807 := by unfold maxLen at hlm; omega
  by_cases h20 : 20 < deep
  · have HP : Hid (prR deep l = ([], 2)) := Lib.hid (prR_bad (by
      cases l with
      | nil => simp at h0
      | cons o r =>
        obtain ⟨h, sub⟩ := o
        rw [outL_bad (by unfold badT; rw [decide_eq_true h20]; rfl)]))
    clear hS hlit H
    go_enter Tryz.func14, Tryz.ntmps14
    go_wp2_with fail
    go_ret2
    exact ⟨by rw [HP.out]; rfl, Below.refl _ _⟩
  have hok : okL l := okL_of (cntL l + 1) l (by omega) A 0 hS
  have hol := out_len (cntL l + 1) l (by omega) deep hok hlit
  have HH := Lib.hid H
  have HS := Lib.hid hS
  have HLIT := Lib.hid hlit
  have HC0 : Hid (PrLoop deep l w 0 [] w) := Lib.hid ⟨OutSo.start _ _, Below.refl _ _⟩
  obtain ⟨BL, hBL⟩ : ∃ B : ByteArray, B = ⟨(List.replicate (deep - 1) (32 : UInt8)).toArray⟩ := ⟨_, rfl⟩
  have hblz : BL.size ≤ 20 := by rw [hBL, str_size, List.length_replicate]; omega
  have hstart : (⟨#[]⟩ : ByteArray) = ⟨(List.replicate (1 - 1) (32 : UInt8)).toArray⟩ := rfl
  have HBL := Lib.hid hBL
  have HSTART := Lib.hid hstart
  clear H hS hlit hok hBL hstart hlm
  go_enter Tryz.func14, Tryz.ntmps14
  go_wp2_with fail
  go_loop [6, 7] (fun v i => ∃ (j : Nat) (B : ByteArray), 1 ≤ j ∧ j ≤ deep ∧ i = .int .i64 (j : Int) ∧ v = .string B ∧ B.size ≤ 20 ∧ Hid (B = ⟨(List.replicate (j - 1) (32 : UInt8)).toArray⟩)) (fun _ i => 21 - (intOf i).toNat)
  case atStart => exact ⟨1, ⟨#[]⟩, by omega, by omega, rfl, rfl, by decide, HSTART⟩
  case round =>
    obtain ⟨j, B, hj1, hj2, rfl, rfl, hB, HB⟩ := hrel
    by_cases hlt : j < deep
    · have HN : Hid (B ++ (⟨#[32]⟩ : ByteArray) = ⟨(List.replicate (j + 1 - 1) (32 : UInt8)).toArray⟩) := Lib.hid (by
        rw [HB.out]
        refine (str_append _ [32]).trans ?_
        rw [show j + 1 - 1 = (j - 1) + 1 by omega, List.replicate_succ'])
      have hz : (B ++ (⟨#[32]⟩ : ByteArray)).size ≤ 20 := by rw [HN.out, str_size, List.length_replicate]; omega
      have HZ := Lib.hid hz
      clear hz
      go_wp2_with fail
      go_round
      case rel => exact ⟨j + 1, _, by omega, by omega, by go_num, rfl, HZ.out, HN⟩
      case measure => simp [intOf]; omega
    · have hjd : j = deep := by omega
      subst hjd
      have hBB : B = BL := by rw [HB.out, HBL.out]
      subst hBB
      clear HB HSTART hB
      go_wp2_with fail
      go_loopw [8, 9] (fun v i wr => ∃ (k : Nat) (acc : List UInt8), k ≤ l.length ∧ v = .string ⟨acc.toArray⟩ ∧ i = .int .i64 (k : Int) ∧ Hid (PrLoop j l w k acc wr)) (fun _ i _ => l.length - (intOf i).toNat)
      case atStart => exact ⟨0, [], Nat.zero_le _, rfl, rfl, HC0⟩
      case round =>
        obtain ⟨k, acc, hk, rfl, rfl, HC⟩ := hrel
        clear HC0
        have hacc := HC.out.1.acc
        have htz := str_size acc
        obtain ⟨T, hT⟩ : ∃ T : ByteArray, T = ⟨acc.toArray⟩ := ⟨_, rfl⟩
        rw [← hT] at htz ⊢
        have hTz : T.size ≤ 5242880 := by omega
        have HT := Lib.hid hT
        clear hT htz hacc
        by_cases hlt2 : k < l.length
        rotate_left
        · have hkl : k = l.length := by omega
          have HP : Hid (prR j l = (acc, 0)) := Lib.hid (prR_ok (OutSo.done HC.out.1 (by omega)))
          go_wp2_with fail
          go_ret2
          exact ⟨by rw [HP.out, HT.out]; rfl, HC.out.2⟩
        obtain ⟨bl, off, rfl, hst⟩ := (OpdsAt.turn (Turn.below HC.out.2) A 0 l HS.out).get l 0 k hlt2
        rw [Nat.zero_add] at hst
        have hlitk := litL_get l k hlt2 HLIT.out
        have hcostk := costL_get l k hlt2
        rcases hek : l[k] with ⟨h, sub⟩
        rw [hek] at hst hlitk hcostk
        obtain ⟨hok, _, c0, c1, c2, ⟨RA, rc, c3, ⟨hrc, hrc2⟩, hrecs⟩, c4, c5, ⟨SA, sc, c6, ⟨hsc, hsc2⟩, hsub⟩, c7, c8⟩ := opdAt_mk.1 hst
        obtain ⟨⟨hnl, hrl⟩, hsublit⟩ := litS_mk.1 hlitk
        have hsum := sum_le_cost (h := h) (l := sub)
        have hbs := bulk_sum h.recs
        have hown := fun W h1 h8 => ronly_any h sub.length RA SA rc sc W h1 h8
        have hHH := HH.out k hlt2 h sub hek
        have hSO : ∀ hb : badT j h sub.length = false, OutSo j l (k + 1) (acc ++ (outS j (.mk h sub)).1) (false || (outS j (.mk h sub)).2) := fun hb => HC.out.1.on hlt2 hek hb
        have hBD : badT j h sub.length = true → prR j l = ([], 2) := fun hb => prR_bad (by rw [OutSo.bad HC.out.1 hlt2 hek hb])
        have hbq : badT j h sub.length = (decide ((spellT h.kind).1 = []) || decide (endT h.how = []) || !ownT h sub.length) := by
          unfold badT
          rw [decide_eq_false h20]
          rfl
        obtain ⟨kd, nam, ty, rs, lf, n, hw, cd⟩ := h
        dsimp only [opV] at c0 c1 c2 c3 hrc hrecs c4 c5 c7 c8 hown hnl hrl hsum hbs hbq
        obtain ⟨ow, how⟩ : ∃ ow : Bool, ow = ownT ⟨kd, nam, ty, rs, lf, n, hw, cd⟩ sub.length := ⟨_, rfl⟩
        simp only [← how] at hown hbq
        obtain ⟨cs, hcs⟩ : ∃ cs : Array Value, cs = #[.int .i64 kd, .string ⟨nam.toArray⟩, .int .u16 (ty : Int), .slice RA rs.length rc, .int .u64 (lf : Int), .int .u64 (n : Int), .slice SA sub.length sc, .int .i64 hw, .int .i64 cd] := ⟨_, rfl⟩
        have hkp : Kp wr cs (wr.alloc (.cells #[.int .i64 kd, .string ⟨nam.toArray⟩, .int .u16 (ty : Int), .slice RA rs.length rc, .int .u64 (lf : Int), .int .u64 (n : Int), .slice SA sub.length sc, .int .i64 hw, .int .i64 cd] 48)) := by
          rw [hcs]
          exact ⟨(Below.refl _ _).alloc (Nat.le_refl _) _, Whole.new _ _ _⟩
        obtain ⟨wd, hwd⟩ : ∃ x : ByteArray, x = ⟨(wordL nam).toArray⟩ := ⟨_, rfl⟩
        obtain ⟨dt, hdt⟩ : ∃ x : ByteArray, x = ⟨(Lib.decDigits ty).toArray⟩ := ⟨_, rfl⟩
        obtain ⟨dl, hdl⟩ : ∃ x : ByteArray, x = ⟨(Lib.decDigits lf).toArray⟩ := ⟨_, rfl⟩
        obtain ⟨sr, hsr⟩ : ∃ x : ByteArray, x = ⟨(setL rs).toArray⟩ := ⟨_, rfl⟩
        obtain ⟨ic, hic⟩ : ∃ x : ByteArray, x = ⟨(Lib.itoa cd).toArray⟩ := ⟨_, rfl⟩
        obtain ⟨dn, hdn⟩ : ∃ x : ByteArray, x = ⟨(Lib.decDigits n).toArray⟩ := ⟨_, rfl⟩
        have hwdz : wd.size ≤ 1201 := by rw [hwd, str_size]; have := word_len nam; omega
        have hdtz : dt.size ≤ 20 := by rw [hdt, str_size]; exact dec_len (by have := hok.2.1; dsimp only at this; omega)
        have hdlz : dl.size ≤ 20 := by rw [hdl, str_size]; exact dec_len hok.2.2.1
        have hdnz : dn.size ≤ 20 := by rw [hdn, str_size]; exact dec_len hok.2.2.2.1
        have hicz : ic.size ≤ 21 := by rw [hic, str_size]; exact itoa_len hok.2.2.2.2.2
        have hsrz : sr.size ≤ 2097400 := by rw [hsr, str_size]; have := set_len rs; omega
        have hty := hok.2.1
        dsimp only at hty
        have hwr1 : IntKind.u64.wrap (ty : Int) = (ty : Int) := IntWalk.u64_in _ (by omega)
        have hword : ∀ W, Kp wr cs W → Calls Tryz.prog 11 #[.string ⟨nam.toArray⟩] W fun e w' => e = .returned (.string wd) ∧ Kp wr cs w' := fun W h => by
          refine (rword_any ⟨nam.toArray⟩ W (by rw [str_size]; omega)).mono ?_
          rintro e w' ⟨rfl, hb⟩
          exact ⟨by rw [hwd], h.next hb⟩
        have hdec : ∀ (x : Nat) (t : ByteArray), t = ⟨(Lib.decDigits x).toArray⟩ → x < 18446744073709551616 → ∀ W, Kp wr cs W → Calls Tryz.prog 28 #[.int .u64 (x : Int)] W fun e w' => e = .returned (.string t) ∧ Kp wr cs w' := fun x t ht hx W h => by
          refine (rdecimal_any x hx W).mono ?_
          rintro e w' ⟨rfl, hb⟩
          exact ⟨by rw [ht], h.next hb⟩
        have hset : ∀ W, Kp wr cs W → Calls Tryz.prog 30 #[.slice RA rs.length rc] W fun e w' => e = .returned (.string sr) ∧ Kp wr cs w' := fun W h => by
          refine (rrecs_any N rs RA rc W (RecsAt.turn (Turn.below h.below) hrecs) (by omega)).mono ?_
          rintro e w' ⟨rfl, hb⟩
          exact ⟨by rw [hsr], h.next hb⟩
        have hito : ∀ W, Kp wr cs W → Calls Tryz.prog 31 #[.int .i64 cd] W fun e w' => e = .returned (.string ic) ∧ Kp wr cs w' := fun W h => by
          refine (rsignedp_any cd hok.2.2.2.2.2.1 hok.2.2.2.2.2.2 W).mono ?_
          rintro e w' ⟨rfl, hb⟩
          exact ⟨by rw [hic], h.next hb⟩
        have honly : ∀ W, 1 ≤ kd → kd ≤ 8 → Kp wr cs W → Calls Tryz.prog 29 #[.agg #[.int .i64 kd, .string ⟨nam.toArray⟩, .int .u16 (ty : Int), .slice RA rs.length rc, .int .u64 (lf : Int), .int .u64 (n : Int), .slice SA sub.length sc, .int .i64 hw, .int .i64 cd]] W fun e w' => e = .returned (.bool ow) ∧ Kp wr cs w' := fun W h1 h8 h => by
          refine (hown W h1 h8).mono ?_
          rintro e w' ⟨rfl, hb⟩
          exact ⟨rfl, h.next hb⟩
        have hkey := fun (W : World) (h : Kp wr cs W) => (show W.cell? ⟨wr.heap.size, 1, none⟩ = some (.string ⟨nam.toArray⟩) ∧ W.cell? ⟨wr.heap.size, 2, none⟩ = some (.int .u16 (ty : Int)) from ⟨by have := h.whole.cell 1; rw [hcs] at this; exact this, by have := h.whole.cell 2; rw [hcs] at this; exact this⟩)
        have hall := fun (W : World) (h : Kp wr cs W) => (show Whole W wr.heap.size 48 #[.int .i64 kd, .string ⟨nam.toArray⟩, .int .u16 (ty : Int), .slice RA rs.length rc, .int .u64 (lf : Int), .int .u64 (n : Int), .slice SA sub.length sc, .int .i64 hw, .int .i64 cd] from by have := h.whole; rw [hcs] at this; exact this)
        have hprint : ∀ W, Kp wr cs W → Calls Tryz.prog 14 #[.slice SA sub.length sc, .int .i64 ((j : Int) + 1)] W fun e w' => e = .returned (.tuple #[.string ⟨(prR (j + 1) sub).1.toArray⟩, .int .i64 (prR (j + 1) sub).2]) ∧ Kp wr cs w' := fun W h => by
          have hh := hHH N SA sc (j + 1) W (OpdsAt.turn (Turn.below h.below) SA 0 sub hsub) (Nat.le_trans hsc hsc2) hsublit (by omega) (by omega) (by omega)
          rw [show ((j + 1 : Nat) : Int) = (j : Int) + 1 by omega] at hh
          refine hh.mono ?_
          rintro e w' ⟨rfl, hb⟩
          exact ⟨rfl, h.next hb⟩
        have hspl : (spellT kd).1 = [] ↔ ¬ (1 ≤ kd ∧ kd ≤ 8) := by
          constructor
          · intro e h
            have hk : kd = 1 ∨ kd = 2 ∨ kd = 3 ∨ kd = 4 ∨ kd = 5 ∨ kd = 6 ∨ kd = 7 ∨ kd = 8 := by omega
            rcases hk with rfl | rfl | rfl | rfl | rfl | rfl | rfl | rfl <;> revert e <;> decide
          · intro h
            rcases Classical.em ((spellT kd).1 = []) with e | e
            · exact e
            · exact absurd (by rcases spell_kinds e with rfl | rfl | rfl | rfl | rfl | rfl | rfl | rfl <;> omega) h
        have hend : endT hw = [] ↔ ¬ (0 ≤ hw ∧ hw ≤ 1) := by
          constructor
          · intro e h
            have hk : hw = 0 ∨ hw = 1 := by omega
            rcases hk with rfl | rfl <;> revert e <;> decide
          · intro h
            rcases Classical.em (endT hw = []) with e | e
            · exact e
            · exact absurd (by rcases end_how e with rfl | rfl <;> omega) h
        have htl := out_len (cntL sub + 1) sub (by omega) (j + 1) (okL_of (cntL sub + 1) sub (by omega) SA 0 hsub) hsublit
        have htl2 : (outL (j + 1) sub).1.length ≤ 5242880 := by omega
        have HKP := Lib.hid hkp
        have HCS := Lib.hid hcs
        have HWORD := Lib.hid hword
        have HDTY := Lib.hid (hdec ty dt hdt (by omega))
        have HDLF := Lib.hid (hdec lf dl hdl hok.2.2.1)
        have HDNN := Lib.hid (hdec n dn hdn hok.2.2.2.1)
        have HSET := Lib.hid hset
        have HITO := Lib.hid hito
        have HSGN := Lib.hid (fun W => rsignedq_any cd ic hic hok.2.2.2.2.2.1 hok.2.2.2.2.2.2 W)
        have HONLY := Lib.hid honly
        have HKEY := Lib.hid hkey
        have HALL := Lib.hid hall
        have HPRINT := Lib.hid hprint
        have HSO := Lib.hid hSO
        have HBD := Lib.hid hBD
        have HBQ := Lib.hid hbq
        have HSPL := Lib.hid hspl
        have HEND := Lib.hid hend
        have HWD := Lib.hid hwd
        have HDT := Lib.hid hdt
        have HDL := Lib.hid hdl
        have HSR := Lib.hid hsr
        have HIC := Lib.hid hic
        have HDN := Lib.hid hdn
        have hsl : sub.length ≤ 9223372036854775807 := by unfold maxLen at hsc2; omega
        clear hcs hkp hword hdec hset hito honly hkey hall hprint hSO hBD hbq hspl hend hwd hdt hdl hsr hic hdn htl how hown hHH hek hst hlitk hrecs hsub hsublit hok hsum hbs hcostk hnl hrl hrc hrc2 hsc hsc2 hol
        -- KEY
        have H0 := HKP.out.next (Below.refl _ _).drew
        have hS0 := HKEY.out _ H0
        have ka0 : ¬ (9223372036854775807 < 1 + wd.size) := by omega
        have ka1 : ¬ (9223372036854775807 < 1 + wd.size + 1) := by omega
        have ka2 : ¬ (9223372036854775807 < 1 + wd.size + 1 + dt.size) := by omega
        go_wp2_with fail
        go_region_held3 (fun W => W.cell? ⟨wr.heap.size, 1, none⟩ = some (.string ⟨nam.toArray⟩) ∧ W.cell? ⟨wr.heap.size, 2, none⟩ = some (.int .u16 (ty : Int)))
          (first | exact hS0 | exact HKEY.out _ (by assumption))
          (first
            | ((go_at_call 11; with_reducible refine (HWORD.out _ (by assumption)).mono ?_); rintro e w5 ⟨rfl, h5⟩)
            | ((go_at_call 28; with_reducible refine (HDTY.out _ (by assumption)).mono ?_); rintro e w5 ⟨rfl, h5⟩))
        have HK5 := Lib.hid h5
        have hA5 := HALL.out _ h5
        have x0 := hA5.cell 0
        have x1 := hA5.cell 1
        have x2 := hA5.cell 2
        have x3 := hA5.cell 3
        have x4 := hA5.cell 4
        have x5 := hA5.cell 5
        have x6 := hA5.cell 6
        have x7 := hA5.cell 7
        have x8 := hA5.cell 8
        dsimp at x0 x1 x2 x3 x4 x5 x6 x7 x8
        clear h5 H0 hS0 hA5 ka0 ka1 ka2
        by_cases hk1 : 1 ≤ kd ∧ kd ≤ 8
        rotate_left
        · have HP : Hid (prR j l = ([], 2)) := Lib.hid (HBD.out (by rw [HBQ.out, decide_eq_true (HSPL.out.2 hk1)]; rfl))
          have HF : Hid (Below w.heap.size w w5) := Lib.hid (below_chain HC.out.2 HK5.out.below)
          have hk2 : kd < 1 ∨ (1 ≤ kd ∧ 8 < kd) := by omega
          rcases hk2 with hk2 | ⟨hk2, hk3⟩
          all_goals
            clear hk1
            go_wp2_with fail
            go_ret2
            exact ⟨by rw [HP.out]; rfl, HF.out⟩
        obtain ⟨hka, hkb⟩ := hk1
        by_cases hh1 : 0 ≤ hw ∧ hw ≤ 1
        rotate_left
        · have HP : Hid (prR j l = ([], 2)) := Lib.hid (HBD.out (by rw [HBQ.out, decide_eq_true (HEND.out.2 hh1)]; simp))
          have HF : Hid (Below w.heap.size w w5) := Lib.hid (below_chain HC.out.2 HK5.out.below)
          have hk2 : hw < 0 ∨ (0 ≤ hw ∧ 1 < hw) := by omega
          rcases hk2 with hk2 | ⟨hk2, hk3⟩
          all_goals
            clear hh1
            go_wp2_with fail
            go_ret2
            exact ⟨by rw [HP.out]; rfl, HF.out⟩
        obtain ⟨hha, hhb⟩ := hh1
        have HON := Lib.hid (HONLY.out w5 hka hkb HK5.out)
        cases ow
        · have HP : Hid (prR j l = ([], 2)) := Lib.hid (HBD.out (by rw [HBQ.out]; simp))
          go_wp2_with fail
          refine HON.out.mono ?_
          rintro e w6 ⟨rfl, h6⟩
          have HF : Hid (Below w.heap.size w w6) := Lib.hid (below_chain HC.out.2 h6.below)
          clear h6
          go_wp2_with fail
          go_ret2
          exact ⟨by rw [HP.out]; rfl, HF.out⟩
        have hgood : badT j ⟨kd, nam, ty, rs, lf, n, hw, cd⟩ sub.length = false := by
          rw [HBQ.out, decide_eq_false (fun e => HSPL.out.1 e ⟨hka, hkb⟩), decide_eq_false (fun e => HEND.out.1 e ⟨hha, hhb⟩)]
          rfl
        have HSO2 := Lib.hid (HSO.out hgood)
        clear hgood HSO HBD HBQ HSPL HEND HONLY HWORD HDTY HKEY
        go_wp2_with fail
        refine HON.out.mono ?_
        rintro e w6 ⟨rfl, h6⟩
        have HK6 := Lib.hid h6
        have hA6 := HALL.out _ h6
        clear x0 x1 x2 x3 x4 x5 x6 x7 x8
        have x0 := hA6.cell 0
        have x2 := hA6.cell 2
        have x3 := hA6.cell 3
        have x4 := hA6.cell 4
        have x5 := hA6.cell 5
        have x6 := hA6.cell 6
        have x7 := hA6.cell 7
        have x8 := hA6.cell 8
        dsimp at x0 x2 x3 x4 x5 x6 x7 x8
        clear h6 hA6 HON HK5
        go_upto_block 4 with fail
        go_cut [8, 11, 12, 13] from 28 to 166 (fun v _ _ _ wx => ∃ (S : ByteArray) (acc2 : List UInt8), v = .string S ∧ S.size ≤ 20000000 ∧ Hid (S ++ (⟨#[10]⟩ : ByteArray) = ⟨acc2.toArray⟩) ∧ Hid (PrLoop j l w (k + 1) acc2 wx))
        case rest =>
          obtain ⟨S, acc2, rfl, hSz, HS2, HN⟩ := hcut
          clear x0 x2 x3 x4 x5 x6 x7 x8 HSO2 HK6
          go_wp2_with fail
          go_roundw
          case rel => exact ⟨k + 1, acc2, by omega, congrArg Value.string HS2.out, by go_num, HN⟩
          case measure => simp [intOf]; omega
        case first =>
        obtain ⟨S1, hS1⟩ : ∃ X : ByteArray, X = T ++ B := ⟨_, rfl⟩
        obtain ⟨KY, hKY⟩ : ∃ X : ByteArray, X = ⟨#[32]⟩ ++ wd ++ ⟨#[32]⟩ ++ dt := ⟨_, rfl⟩
        rw [← hS1, ← hKY]
        have hs1z : S1.size ≤ 5242900 := by rw [hS1, ByteArray.size_append]; omega
        have hkyz : KY.size ≤ 1223 := by rw [hKY]; simp only [ByteArray.size_append, lit_size, List.size_toArray, List.length_cons, List.length_nil]; omega
        have HS1 := Lib.hid hS1
        have HKY := Lib.hid hKY
        clear hS1 hKY hTz hblz hwdz hdtz
        have hkind : kd = 1 ∨ kd = 2 ∨ kd = 3 ∨ kd = 4 ∨ kd = 5 ∨ kd = 6 ∨ kd = 7 ∨ kd = 8 := by omega
        clear hka hkb
        rcases hkind with rfl | rfl | rfl | rfl | rfl | rfl | rfl | rfl
        · -- put
          have H0 := HK6.out.next (Below.refl _ _).drew
          have hS9 := fun (W : World) (h : Kp wr cs W) => (show W.cell? ⟨wr.heap.size, 4, none⟩ = some (.int .u64 (lf : Int)) ∧ W.cell? ⟨wr.heap.size, 3, none⟩ = some (.slice RA rs.length rc) from ⟨(HALL.out _ h).cell 4, (HALL.out _ h).cell 3⟩)
          have HS9 := Lib.hid hS9
          have hS0 := hS9 _ H0
          clear hS9
          have kp0 : ¬ (9223372036854775807 < S1.size + 3) := by omega
          have kp1 : ¬ (9223372036854775807 < S1.size + 3 + KY.size) := by omega
          have kp2 : ¬ (9223372036854775807 < S1.size + 3 + KY.size + 1) := by omega
          have kp3 : ¬ (9223372036854775807 < S1.size + 3 + KY.size + 1 + dl.size) := by omega
          have kp4 : ¬ (9223372036854775807 < S1.size + 3 + KY.size + 1 + dl.size + 1) := by omega
          have kp5 : ¬ (9223372036854775807 < S1.size + 3 + KY.size + 1 + dl.size + 1 + sr.size) := by omega
          go_wp2_with fail
          go_region_held3 (fun W => W.cell? ⟨wr.heap.size, 4, none⟩ = some (.int .u64 (lf : Int)) ∧ W.cell? ⟨wr.heap.size, 3, none⟩ = some (.slice RA rs.length rc))
            (first | exact hS0 | exact HS9.out _ (by assumption))
            (first
              | ((go_at_call 28; with_reducible refine (HDLF.out _ (by assumption)).mono ?_); rintro e w7 ⟨rfl, h7⟩)
              | ((go_at_call 30; with_reducible refine (HSET.out _ (by assumption)).mono ?_); rintro e w7 ⟨rfl, h7⟩))
          have HKN := Lib.hid h7
          clear h7 H0 hS0 kp0 kp1 kp2 kp3 kp4 kp5
          have HN : Hid (PrLoop j l w (k + 1) (acc ++ lineT j (wordsT ⟨1, nam, ty, rs, lf, n, hw, cd⟩)) w7) := Lib.hid ⟨by have := HSO2.out; rw [outS_plain (show (1 : Int) ≠ 3 by decide)] at this; exact this, below_chain HC.out.2 HKN.out.below⟩
          clear HSO2
          go_wp2_with fail
          go_meet
          refine ⟨_, _, rfl, ?_, Lib.hid (str_of (by rw [line_1, HS1.out, HKY.out, HT.out, HBL.out, HWD.out, HDT.out, HDL.out, HSR.out]; simp [ByteArray.data_append])), HN⟩
          simp only [ByteArray.size_append, lit_size, List.size_toArray, List.length_cons, List.length_nil]; omega
        · -- get
          have HKN := HK6
          have HN : Hid (PrLoop j l w (k + 1) (acc ++ lineT j (wordsT ⟨2, nam, ty, rs, lf, n, hw, cd⟩)) w6) := Lib.hid ⟨by have := HSO2.out; rw [outS_plain (show (2 : Int) ≠ 3 by decide)] at this; exact this, below_chain HC.out.2 HKN.out.below⟩
          clear HSO2
          go_wp2_with fail
          go_meet
          refine ⟨_, _, rfl, ?_, Lib.hid (str_of (by rw [line_2, HS1.out, HKY.out, HT.out, HBL.out, HWD.out, HDT.out]; simp [ByteArray.data_append])), HN⟩
          simp only [ByteArray.size_append, lit_size, List.size_toArray, List.length_cons, List.length_nil]; omega
        · -- view
          have hwe : hw = 0 ∨ hw = 1 := by omega
          clear hha hhb
          cases hfl : (outL (j + 1) sub).2
          rotate_left
          · have HPL : Hid (prR j l = ([], 2)) := Lib.hid (prR_bad (OutSo.flag (by have := HSO2.out; rw [outS_view rfl, hfl] at this; exact this)))
            have hp := HPRINT.out w6 HK6.out
            rw [prR_bad hfl] at hp
            dsimp only at hp
            have HP := Lib.hid hp
            clear hp hfl htl2 HSO2
            go_wp2_with fail
            refine HP.out.mono ?_
            rintro e w7 ⟨rfl, h7⟩
            have HF : Hid (Below w.heap.size w w7) := Lib.hid (below_chain HC.out.2 h7.below)
            clear h7
            go_wp2_with fail
            go_ret2
            exact ⟨by rw [HPL.out]; rfl, HF.out⟩
          obtain ⟨t, ht⟩ : ∃ t, t = (outL (j + 1) sub).1 := ⟨_, rfl⟩
          have hp := HPRINT.out w6 HK6.out
          rw [prR_ok (t := t) (by rw [ht, ← hfl])] at hp
          dsimp only at hp
          have hso := HSO2.out
          rw [outS_view rfl, hfl, ← ht] at hso
          rw [← ht] at htl2
          obtain ⟨T2, hT2⟩ : ∃ x : ByteArray, x = ⟨t.toArray⟩ := ⟨_, rfl⟩
          rw [← hT2] at hp
          have ht2z : T2.size ≤ 5242880 := by rw [hT2, str_size]; exact htl2
          have hblz : B.size ≤ 20 := by rw [HBL.out, str_size, List.length_replicate]; omega
          have HP := Lib.hid hp
          have HSO3 := Lib.hid hso
          have HT2 := Lib.hid hT2
          clear hp hfl htl2 HSO2 hso hT2 ht HSET HITO HDLF HDNN HPRINT hdlz hdnz hsrz hcost hlm' hsl hty hwr1 HLIT HS HH HCS
          obtain ⟨u, rfl⟩ : ∃ u : Nat, hw = (u : Int) := ⟨hw.toNat, by omega⟩
          have hu1 : u ≤ 1 := by omega
          have hu2 : (u : Int) < 2 := by omega
          have hu3 : (0 : Int) ≤ (u : Int) := by omega
          have hu4 : u < 2 := by omega
          obtain ⟨en, hen⟩ : ∃ x : ByteArray, x = ⟨(endT (u : Int)).toArray⟩ := ⟨_, rfl⟩
          have henz : en.size ≤ 6 := by
            rw [hen, str_size]
            rcases hwe with h | h <;> rw [h] <;> decide
          have harr : (#[Value.string ⟨#[114, 101, 116, 117, 114, 110]⟩, Value.string ⟨#[112, 97, 110, 105, 99]⟩] : Array Value)[u]? = some (.string en) := by
            rw [hen]
            rcases Nat.eq_zero_or_pos u with h | h
            · subst h; rfl
            · obtain rfl : u = 1 := by omega
              rfl
          have harr2 : ([Value.string ⟨#[114, 101, 116, 117, 114, 110]⟩, Value.string ⟨#[112, 97, 110, 105, 99]⟩] : List Value)[u]? = some (.string en) := by rw [← harr]; simp
          have hnew : ∀ W : World, (W.alloc (.cells #[Value.string ⟨#[114, 101, 116, 117, 114, 110]⟩, Value.string ⟨#[112, 97, 110, 105, 99]⟩] 9)).cell? ⟨W.heap.size, u, none⟩ = some (.string en) := fun W => by rw [← harr]; exact (Whole.new W 9 _).cell u
          have HEN := Lib.hid hen
          clear hwe hen
          go_wp2_with fail
          refine HP.out.mono ?_
          rintro e w7 ⟨rfl, h7⟩
          have HK7 := Lib.hid h7
          have hz7 := h7.whole.lt
          have hA7 := HALL.out _ h7
          clear x0 x2 x3 x4 x5 x6 x7 x8
          have x7 : w7.cell? ⟨wr.heap.size, 7, none⟩ = some (.int .i64 (u : Int)) := hA7.cell 7
          have x8 : w7.cell? ⟨wr.heap.size, 8, none⟩ = some (.int .i64 cd) := hA7.cell 8
          have hcell7 : ∀ W, Below w7.drew.heap.size w7.drew W → W.cell? ⟨wr.heap.size, 7, none⟩ = some (.int .i64 (u : Int)) := fun W hW => (HALL.out _ (HK7.out.next (below_chain (Below.refl _ _).drew hW))).cell 7
          have hcell8 : ∀ W, Below w7.drew.heap.size w7.drew W → W.cell? ⟨wr.heap.size, 8, none⟩ = some (.int .i64 cd) := fun W hW => (HALL.out _ (HK7.out.next (below_chain (Below.refl _ _).drew hW))).cell 8
          have hcall : ∀ W, Below w7.drew.heap.size w7.drew W → Calls Tryz.prog 31 #[.int .i64 cd] W fun e w' => e = .returned (.string ic) ∧ Below W.heap.size W w' := fun W _ => HSGN.out W
          have hz : S1.size + KY.size + B.size + T2.size + en.size + ic.size ≤ 1000000000 := by omega
          have HC7 := Lib.hid hcell7
          have HC8 := Lib.hid hcell8
          have HCA := Lib.hid hcall
          have HNW := Lib.hid hnew
          clear h7 hA7 HP HSGN HK6 x7 x8 hcell7 hcell8 hcall hnew harr harr2
          go_wp2_with fail
          have hcell7 := HC7.out
          have hcell8 := HC8.out
          have hcall := HCA.out
          have hnew := HNW.out
          refine wp_region_steps (viewF S1 KY B T2 en ic u cd wr.heap.size) (fun w w' => Below w.heap.size w w') rfl (n := 168) rfl (by kernel_rfl) (by kernel_rfl) (fun w => Below.refl _ _) (fun _ _ _ => below_chain) (viewF_stab S1 KY B T2 en ic u cd wr.heap.size) ?_ ?_
          rotate_left
          · intro vs w8 hF hb
            have h22 : vs 22 = .string ((((((((((S1 ++ ⟨#[118, 105, 101, 119]⟩) ++ KY) ++ ⟨#[32]⟩) ++ en) ++ ⟨#[32]⟩) ++ ic) ++ ⟨#[32, 123, 10]⟩) ++ T2) ++ B) ++ ⟨#[125]⟩) := hF 22 (by decide)
            have HK8 := Lib.hid (HK7.out.next (below_chain (Below.refl _ _).drew hb))
            have H22 := Lib.hid h22
            clear hF hb hcell7 hcell8 hcall hnew HC7 HC8 HCA HNW h22
            simp only [putAll, Act.put, List.setIfInBounds_toArray, List.set_cons_zero, List.set_cons_succ, Nat.zero_add, Nat.reduceAdd]
            rw [H22.out]
            go_wp2_with fail
            go_meet
            refine ⟨_, acc ++ (lineT j (wordsT ⟨3, nam, ty, rs, lf, n, (u : Int), cd⟩) ++ t ++ lineT j [[125]]), rfl, ?_, Lib.hid (str_of ?_), Lib.hid (And.intro HSO3.out (below_chain HC.out.2 HK8.out.below))⟩
            · simp only [ByteArray.size_append, lit_size, List.size_toArray, List.length_cons, List.length_nil]; omega
            · rw [line_3, line_shut, HS1.out, HKY.out, HT.out, HBL.out, HWD.out, HDT.out, HIC.out, HT2.out, HEN.out]; simp [ByteArray.data_append]
          refine steps_cons ?_ (steps_cons ?_ (steps_cons ?_ (steps_cons ?_ (steps_cons ?_ (steps_cons ?_ (steps_cons ?_ (steps_cons ?_ (steps_cons ?_ (steps_cons ?_ (steps_cons ?_ (steps_cons ?_ (steps_cons ?_ (steps_cons ?_ (steps_cons ?_ (steps_cons ?_ (steps_cons ?_ (steps_cons ?_ (steps_cons ?_ (steps_cons ?_ (steps_cons ?_ (steps_cons ?_ (steps_cons ?_ (steps_nil)))))))))))))))))))))))
          · -- 0
            intro L9 a9 W9 hm hn hp hr K9 hK
            have e8 : a9.tmps[8]? = some (.string S1) := (hm.keep2 hn (by rfl)).trans rfl
            exact stepV rfl (by go_simp) (hK _ _ rfl (Below.refl _ _))
          · -- 1
            intro L9 a9 W9 hm hn hp hr K9 hK
            obtain ⟨v0, e113, hf0⟩ := hm.val2 (j := 0) (t := 113) rfl rfl (hp ⟨0, .data⟩ (by simp) rfl)
            obtain rfl : v0 = .string (S1) := hf0
            have kz : ¬ 9223372036854775807 < (S1 ++ ⟨#[118, 105, 101, 119]⟩).size := by have := hz; simp only [ByteArray.size_append, lit_size, List.size_toArray, List.length_cons, List.length_nil]; omega
            simp only [ByteArray.size_append, lit_size, List.size_toArray, List.length_cons, List.length_nil] at kz
            exact stepV rfl (by go_simp) (hK _ _ rfl (Below.refl _ _))
          · -- 2
            intro L9 a9 W9 hm hn hp hr K9 hK
            have e11 : a9.tmps[11]? = some (.string KY) := (hm.keep2 hn (by rfl)).trans rfl
            exact stepV rfl (by go_simp) (hK _ _ rfl (Below.refl _ _))
          · -- 3
            intro L9 a9 W9 hm hn hp hr K9 hK
            obtain ⟨v1, e114, hf1⟩ := hm.val2 (j := 1) (t := 114) rfl rfl (hp ⟨1, .data⟩ (by simp) rfl)
            obtain rfl : v1 = .string (S1 ++ ⟨#[118, 105, 101, 119]⟩) := hf1
            obtain ⟨v2, e115, hf2⟩ := hm.val2 (j := 2) (t := 115) rfl rfl (hp ⟨2, .data⟩ (by simp) rfl)
            obtain rfl : v2 = .string (KY) := hf2
            have kz : ¬ 9223372036854775807 < ((S1 ++ ⟨#[118, 105, 101, 119]⟩) ++ KY).size := by have := hz; simp only [ByteArray.size_append, lit_size, List.size_toArray, List.length_cons, List.length_nil]; omega
            simp only [ByteArray.size_append, lit_size, List.size_toArray, List.length_cons, List.length_nil] at kz
            exact stepV rfl (by go_simp) (hK _ _ rfl (Below.refl _ _))
          · -- 4
            intro L9 a9 W9 hm hn hp hr K9 hK
            obtain ⟨v3, e116, hf3⟩ := hm.val2 (j := 3) (t := 116) rfl rfl (hp ⟨3, .data⟩ (by simp) rfl)
            obtain rfl : v3 = .string ((S1 ++ ⟨#[118, 105, 101, 119]⟩) ++ KY) := hf3
            have kz : ¬ 9223372036854775807 < (((S1 ++ ⟨#[118, 105, 101, 119]⟩) ++ KY) ++ ⟨#[32]⟩).size := by have := hz; simp only [ByteArray.size_append, lit_size, List.size_toArray, List.length_cons, List.length_nil]; omega
            simp only [ByteArray.size_append, lit_size, List.size_toArray, List.length_cons, List.length_nil] at kz
            exact stepV rfl (by go_simp) (hK _ _ rfl (Below.refl _ _))
          · -- 5
            intro L9 a9 W9 hm hn hp hr K9 hK
            refine stepV (v := .slice (some ⟨W9.heap.size, 0, none⟩) 2 2) (w' := W9.alloc (.cells #[Value.string ⟨#[114, 101, 116, 117, 114, 110]⟩, Value.string ⟨#[112, 97, 110, 105, 99]⟩] 9)) rfl (by go_simp) (hK _ _ ?_ ?_)
            rotate_left
            · exact (Below.refl _ _).alloc (Nat.le_refl _) _
            · exact ⟨W9.heap.size, rfl, hnew W9⟩
          · -- 6
            intro L9 a9 W9 hm hn hp hr K9 hK
            have e10 : a9.tmps[10]? = some (.pointer (some ⟨wr.heap.size, 0, none⟩)) := (hm.keep2 hn (by rfl)).trans rfl
            exact stepV rfl (by go_simp) (hK _ _ rfl (Below.refl _ _))
          · -- 7
            intro L9 a9 W9 hm hn hp hr K9 hK
            obtain ⟨v6, e119, hf6⟩ := hm.val2 (j := 6) (t := 119) rfl rfl (hp ⟨6, .data⟩ (by simp) rfl)
            obtain rfl : v6 = .pointer (some ⟨wr.heap.size, 7, none⟩) := hf6
            have x7 := hcell7 W9 hr
            exact stepV rfl (by go_simp) (hK _ _ rfl (Below.refl _ _))
          · -- 8
            intro L9 a9 W9 hm hn hp hr K9 hK
            obtain ⟨v5, e118, hf5⟩ := hm.val2 (j := 5) (t := 118) rfl rfl (hp ⟨5, .data⟩ (by simp) rfl)
            obtain ⟨g5, rfl, hc5⟩ : viewF S1 KY B T2 en ic u cd wr.heap.size 5 v5 W9 := hf5
            obtain ⟨v7, e120, hf7⟩ := hm.val2 (j := 7) (t := 120) rfl rfl (hp ⟨7, .data⟩ (by simp) rfl)
            obtain rfl : v7 = .int .i64 (u : Int) := hf7
            exact stepV rfl (by go_simp) (hK _ _ ⟨g5, rfl, hc5⟩ (Below.refl _ _))
          · -- 9
            intro L9 a9 W9 hm hn hp hr K9 hK
            obtain ⟨v8, e121, hf8⟩ := hm.val2 (j := 8) (t := 121) rfl rfl (hp ⟨8, .data⟩ (by simp) rfl)
            obtain ⟨g8, rfl, hc8⟩ : viewF S1 KY B T2 en ic u cd wr.heap.size 8 v8 W9 := hf8
            exact stepV rfl (by go_simp) (hK _ _ rfl (Below.refl _ _))
          · -- 10
            intro L9 a9 W9 hm hn hp hr K9 hK
            obtain ⟨v4, e117, hf4⟩ := hm.val2 (j := 4) (t := 117) rfl rfl (hp ⟨4, .data⟩ (by simp) rfl)
            obtain rfl : v4 = .string (((S1 ++ ⟨#[118, 105, 101, 119]⟩) ++ KY) ++ ⟨#[32]⟩) := hf4
            obtain ⟨v9, e122, hf9⟩ := hm.val2 (j := 9) (t := 122) rfl rfl (hp ⟨9, .data⟩ (by simp) rfl)
            obtain rfl : v9 = .string (en) := hf9
            have kz : ¬ 9223372036854775807 < ((((S1 ++ ⟨#[118, 105, 101, 119]⟩) ++ KY) ++ ⟨#[32]⟩) ++ en).size := by have := hz; simp only [ByteArray.size_append, lit_size, List.size_toArray, List.length_cons, List.length_nil]; omega
            simp only [ByteArray.size_append, lit_size, List.size_toArray, List.length_cons, List.length_nil] at kz
            exact stepV rfl (by go_simp) (hK _ _ rfl (Below.refl _ _))
          · -- 11
            intro L9 a9 W9 hm hn hp hr K9 hK
            obtain ⟨v10, e123, hf10⟩ := hm.val2 (j := 10) (t := 123) rfl rfl (hp ⟨10, .data⟩ (by simp) rfl)
            obtain rfl : v10 = .string ((((S1 ++ ⟨#[118, 105, 101, 119]⟩) ++ KY) ++ ⟨#[32]⟩) ++ en) := hf10
            have kz : ¬ 9223372036854775807 < (((((S1 ++ ⟨#[118, 105, 101, 119]⟩) ++ KY) ++ ⟨#[32]⟩) ++ en) ++ ⟨#[32]⟩).size := by have := hz; simp only [ByteArray.size_append, lit_size, List.size_toArray, List.length_cons, List.length_nil]; omega
            simp only [ByteArray.size_append, lit_size, List.size_toArray, List.length_cons, List.length_nil] at kz
            exact stepV rfl (by go_simp) (hK _ _ rfl (Below.refl _ _))
          · -- 12
            intro L9 a9 W9 hm hn hp hr K9 hK
            have e10 : a9.tmps[10]? = some (.pointer (some ⟨wr.heap.size, 0, none⟩)) := (hm.keep2 hn (by rfl)).trans rfl
            exact stepV rfl (by go_simp) (hK _ _ rfl (Below.refl _ _))
          · -- 13
            intro L9 a9 W9 hm hn hp hr K9 hK
            obtain ⟨v12, e125, hf12⟩ := hm.val2 (j := 12) (t := 125) rfl rfl (hp ⟨12, .data⟩ (by simp) rfl)
            obtain rfl : v12 = .pointer (some ⟨wr.heap.size, 8, none⟩) := hf12
            have x8 := hcell8 W9 hr
            exact stepV rfl (by go_simp) (hK _ _ rfl (Below.refl _ _))
          · -- 14
            intro L9 a9 W9 hm hn hp hr K9 hK
            obtain ⟨v13, e126, hf13⟩ := hm.val2 (j := 13) (t := 126) rfl rfl (hp ⟨13, .data⟩ (by simp) rfl)
            obtain rfl : v13 = .int .i64 cd := hf13
            exact stepC rfl 31 #[.int .i64 cd] (by go_simp) (fun v w' => v = .string ic ∧ Below W9.heap.size W9 w') ((hcall W9 hr).mono fun e w' h => ⟨_, h.1, rfl, h.2⟩) (fun v w' h => hK v w' h.1 h.2)
          · -- 15
            intro L9 a9 W9 hm hn hp hr K9 hK
            obtain ⟨v11, e124, hf11⟩ := hm.val2 (j := 11) (t := 124) rfl rfl (hp ⟨11, .data⟩ (by simp) rfl)
            obtain rfl : v11 = .string (((((S1 ++ ⟨#[118, 105, 101, 119]⟩) ++ KY) ++ ⟨#[32]⟩) ++ en) ++ ⟨#[32]⟩) := hf11
            obtain ⟨v14, e127, hf14⟩ := hm.val2 (j := 14) (t := 127) rfl rfl (hp ⟨14, .data⟩ (by simp) rfl)
            obtain rfl : v14 = .string (ic) := hf14
            have kz : ¬ 9223372036854775807 < ((((((S1 ++ ⟨#[118, 105, 101, 119]⟩) ++ KY) ++ ⟨#[32]⟩) ++ en) ++ ⟨#[32]⟩) ++ ic).size := by have := hz; simp only [ByteArray.size_append, lit_size, List.size_toArray, List.length_cons, List.length_nil]; omega
            simp only [ByteArray.size_append, lit_size, List.size_toArray, List.length_cons, List.length_nil] at kz
            exact stepV rfl (by go_simp) (hK _ _ rfl (Below.refl _ _))
          · -- 16
            intro L9 a9 W9 hm hn hp hr K9 hK
            obtain ⟨v15, e128, hf15⟩ := hm.val2 (j := 15) (t := 128) rfl rfl (hp ⟨15, .data⟩ (by simp) rfl)
            obtain rfl : v15 = .string ((((((S1 ++ ⟨#[118, 105, 101, 119]⟩) ++ KY) ++ ⟨#[32]⟩) ++ en) ++ ⟨#[32]⟩) ++ ic) := hf15
            have kz : ¬ 9223372036854775807 < (((((((S1 ++ ⟨#[118, 105, 101, 119]⟩) ++ KY) ++ ⟨#[32]⟩) ++ en) ++ ⟨#[32]⟩) ++ ic) ++ ⟨#[32, 123, 10]⟩).size := by have := hz; simp only [ByteArray.size_append, lit_size, List.size_toArray, List.length_cons, List.length_nil]; omega
            simp only [ByteArray.size_append, lit_size, List.size_toArray, List.length_cons, List.length_nil] at kz
            exact stepV rfl (by go_simp) (hK _ _ rfl (Below.refl _ _))
          · -- 17
            intro L9 a9 W9 hm hn hp hr K9 hK
            have e12 : a9.tmps[12]? = some (.string T2) := (hm.keep2 hn (by rfl)).trans rfl
            exact stepV rfl (by go_simp) (hK _ _ rfl (Below.refl _ _))
          · -- 18
            intro L9 a9 W9 hm hn hp hr K9 hK
            obtain ⟨v16, e129, hf16⟩ := hm.val2 (j := 16) (t := 129) rfl rfl (hp ⟨16, .data⟩ (by simp) rfl)
            obtain rfl : v16 = .string (((((((S1 ++ ⟨#[118, 105, 101, 119]⟩) ++ KY) ++ ⟨#[32]⟩) ++ en) ++ ⟨#[32]⟩) ++ ic) ++ ⟨#[32, 123, 10]⟩) := hf16
            obtain ⟨v17, e130, hf17⟩ := hm.val2 (j := 17) (t := 130) rfl rfl (hp ⟨17, .data⟩ (by simp) rfl)
            obtain rfl : v17 = .string (T2) := hf17
            have kz : ¬ 9223372036854775807 < ((((((((S1 ++ ⟨#[118, 105, 101, 119]⟩) ++ KY) ++ ⟨#[32]⟩) ++ en) ++ ⟨#[32]⟩) ++ ic) ++ ⟨#[32, 123, 10]⟩) ++ T2).size := by have := hz; simp only [ByteArray.size_append, lit_size, List.size_toArray, List.length_cons, List.length_nil]; omega
            simp only [ByteArray.size_append, lit_size, List.size_toArray, List.length_cons, List.length_nil] at kz
            exact stepV rfl (by go_simp) (hK _ _ rfl (Below.refl _ _))
          · -- 19
            intro L9 a9 W9 hm hn hp hr K9 hK
            have e6 : a9.tmps[6]? = some (.string B) := (hm.keep2 hn (by rfl)).trans rfl
            exact stepV rfl (by go_simp) (hK _ _ rfl (Below.refl _ _))
          · -- 20
            intro L9 a9 W9 hm hn hp hr K9 hK
            obtain ⟨v18, e131, hf18⟩ := hm.val2 (j := 18) (t := 131) rfl rfl (hp ⟨18, .data⟩ (by simp) rfl)
            obtain rfl : v18 = .string ((((((((S1 ++ ⟨#[118, 105, 101, 119]⟩) ++ KY) ++ ⟨#[32]⟩) ++ en) ++ ⟨#[32]⟩) ++ ic) ++ ⟨#[32, 123, 10]⟩) ++ T2) := hf18
            obtain ⟨v19, e132, hf19⟩ := hm.val2 (j := 19) (t := 132) rfl rfl (hp ⟨19, .data⟩ (by simp) rfl)
            obtain rfl : v19 = .string (B) := hf19
            have kz : ¬ 9223372036854775807 < (((((((((S1 ++ ⟨#[118, 105, 101, 119]⟩) ++ KY) ++ ⟨#[32]⟩) ++ en) ++ ⟨#[32]⟩) ++ ic) ++ ⟨#[32, 123, 10]⟩) ++ T2) ++ B).size := by have := hz; simp only [ByteArray.size_append, lit_size, List.size_toArray, List.length_cons, List.length_nil]; omega
            simp only [ByteArray.size_append, lit_size, List.size_toArray, List.length_cons, List.length_nil] at kz
            exact stepV rfl (by go_simp) (hK _ _ rfl (Below.refl _ _))
          · -- 21
            intro L9 a9 W9 hm hn hp hr K9 hK
            obtain ⟨v20, e133, hf20⟩ := hm.val2 (j := 20) (t := 133) rfl rfl (hp ⟨20, .data⟩ (by simp) rfl)
            obtain rfl : v20 = .string (((((((((S1 ++ ⟨#[118, 105, 101, 119]⟩) ++ KY) ++ ⟨#[32]⟩) ++ en) ++ ⟨#[32]⟩) ++ ic) ++ ⟨#[32, 123, 10]⟩) ++ T2) ++ B) := hf20
            have kz : ¬ 9223372036854775807 < ((((((((((S1 ++ ⟨#[118, 105, 101, 119]⟩) ++ KY) ++ ⟨#[32]⟩) ++ en) ++ ⟨#[32]⟩) ++ ic) ++ ⟨#[32, 123, 10]⟩) ++ T2) ++ B) ++ ⟨#[125]⟩).size := by have := hz; simp only [ByteArray.size_append, lit_size, List.size_toArray, List.length_cons, List.length_nil]; omega
            simp only [ByteArray.size_append, lit_size, List.size_toArray, List.length_cons, List.length_nil] at kz
            exact stepV rfl (by go_simp) (hK _ _ rfl (Below.refl _ _))
          · -- 22
            intro L9 a9 W9 hm hn hp hr K9 hK
            obtain ⟨v21, e134, hf21⟩ := hm.val2 (j := 21) (t := 134) rfl rfl (hp ⟨21, .data⟩ (by simp) rfl)
            obtain rfl : v21 = .string ((((((((((S1 ++ ⟨#[118, 105, 101, 119]⟩) ++ KY) ++ ⟨#[32]⟩) ++ en) ++ ⟨#[32]⟩) ++ ic) ++ ⟨#[32, 123, 10]⟩) ++ T2) ++ B) ++ ⟨#[125]⟩) := hf21
            exact stepV rfl (by go_simp) (hK _ _ rfl (Below.refl _ _))
        · -- delete
          have HKN := HK6
          have HN : Hid (PrLoop j l w (k + 1) (acc ++ lineT j (wordsT ⟨4, nam, ty, rs, lf, n, hw, cd⟩)) w6) := Lib.hid ⟨by have := HSO2.out; rw [outS_plain (show (4 : Int) ≠ 3 by decide)] at this; exact this, below_chain HC.out.2 HKN.out.below⟩
          clear HSO2
          go_wp2_with fail
          go_meet
          refine ⟨_, _, rfl, ?_, Lib.hid (str_of (by rw [line_4, HS1.out, HKY.out, HT.out, HBL.out, HWD.out, HDT.out]; simp [ByteArray.data_append])), HN⟩
          simp only [ByteArray.size_append, lit_size, List.size_toArray, List.length_cons, List.length_nil]; omega
        · -- tick
          have HD := Lib.hid (HDNN.out w6 HK6.out)
          go_wp2_with fail
          refine HD.out.mono ?_
          rintro e w7 ⟨rfl, h7⟩
          have HKN := Lib.hid h7
          clear h7
          have HN : Hid (PrLoop j l w (k + 1) (acc ++ lineT j (wordsT ⟨5, nam, ty, rs, lf, n, hw, cd⟩)) w7) := Lib.hid ⟨by have := HSO2.out; rw [outS_plain (show (5 : Int) ≠ 3 by decide)] at this; exact this, below_chain HC.out.2 HKN.out.below⟩
          clear HSO2
          go_wp2_with fail
          go_meet
          refine ⟨_, _, rfl, ?_, Lib.hid (str_of (by rw [line_5, HS1.out, HT.out, HBL.out, HDN.out]; simp [ByteArray.data_append])), HN⟩
          simp only [ByteArray.size_append, lit_size, List.size_toArray, List.length_cons, List.length_nil]; omega
        · -- sweep
          have HD := Lib.hid (HDNN.out w6 HK6.out)
          go_wp2_with fail
          refine HD.out.mono ?_
          rintro e w7 ⟨rfl, h7⟩
          have HKN := Lib.hid h7
          clear h7
          have HN : Hid (PrLoop j l w (k + 1) (acc ++ lineT j (wordsT ⟨6, nam, ty, rs, lf, n, hw, cd⟩)) w7) := Lib.hid ⟨by have := HSO2.out; rw [outS_plain (show (6 : Int) ≠ 3 by decide)] at this; exact this, below_chain HC.out.2 HKN.out.below⟩
          clear HSO2
          go_wp2_with fail
          go_meet
          refine ⟨_, _, rfl, ?_, Lib.hid (str_of (by rw [line_6, HS1.out, HT.out, HBL.out, HDN.out]; simp [ByteArray.data_append])), HN⟩
          simp only [ByteArray.size_append, lit_size, List.size_toArray, List.length_cons, List.length_nil]; omega
        · -- compact
          have HKN := HK6
          have HN : Hid (PrLoop j l w (k + 1) (acc ++ lineT j (wordsT ⟨7, nam, ty, rs, lf, n, hw, cd⟩)) w6) := Lib.hid ⟨by have := HSO2.out; rw [outS_plain (show (7 : Int) ≠ 3 by decide)] at this; exact this, below_chain HC.out.2 HKN.out.below⟩
          clear HSO2
          go_wp2_with fail
          go_meet
          refine ⟨_, _, rfl, ?_, Lib.hid (str_of (by rw [line_7, HS1.out, HT.out, HBL.out]; simp [ByteArray.data_append])), HN⟩
          simp only [ByteArray.size_append, lit_size, List.size_toArray, List.length_cons, List.length_nil]; omega
        · -- stats
          have HKN := HK6
          have HN : Hid (PrLoop j l w (k + 1) (acc ++ lineT j (wordsT ⟨8, nam, ty, rs, lf, n, hw, cd⟩)) w6) := Lib.hid ⟨by have := HSO2.out; rw [outS_plain (show (8 : Int) ≠ 3 by decide)] at this; exact this, below_chain HC.out.2 HKN.out.below⟩
          clear HSO2
          go_wp2_with fail
          go_meet
          refine ⟨_, _, rfl, ?_, Lib.hid (str_of (by rw [line_8, HS1.out, HT.out, HBL.out]; simp [ByteArray.data_append])), HN⟩
          simp only [ByteArray.size_append, lit_size, List.size_toArray, List.length_cons, List.length_nil]; omega
end Go.Proofs.YtifmgmiaeoiidaaGreatDoor
namespace Go.Proofs.YtifmgmiaeoiidaaGreatDoor
open Go.RowKit Go.Colm Go.Scrp
set_option linter.unusedVariables false

theorem print_all : ∀ (n : Nat) (l : List Opd), cntL l < n → PrintOK l
  | 0, _, h => absurd h (by omega)
  | n + 1, l, h => rprint_step fun k hk hd sub e => print_all n sub (by
      have := cntL_get l k hk
      rw [e, cntS_sub] at this
      omega)
theorem rprint_any (l : List Opd) : PrintOK l := print_all (cntL l + 1) l (by omega)

set_option maxRecDepth 100000 in
set_option maxHeartbeats 8000000 in
theorem scriptPrints_walk (A : Option Addr) (l : List Opd) (c : Nat) (hlc : l.length ≤ c) (hcm : c ≤ maxLen) (hn : namL l) (w : World) (hr : OpdsAt (fun _ => True) w A 0 l) (E : Env w) :
    Calls Tryz.prog 4 #[.slice A l.length c] w fun e w' => e = .returned (.bool true) ∧ Below w.heap.size w w' := by
  have HE := Lib.hid E
  have HP := Lib.hid prints_any
  have hlm := Nat.le_trans hlc hcm
  have HF := Lib.hid (lfew_any 0 l A c w hr hn hlm)
  have HR := Lib.hid hr
  have HLM := Lib.hid hlm
  clear E hr hn hlm hlc hcm
  go_enter Tryz.func4, Tryz.ntmps4
  go_wp2_with fail
  refine HF.out.mono ?_
  rintro e w2 ⟨b, rfl, hb, hb2⟩
  have HB2 := Lib.hid hb2
  have HBB := Lib.hid hb
  clear hb hb2 HF
  cases b
  · go_wp2_with fail
    refine (HP.out _ (HE.out.below HB2.out)).mono ?_
    rintro e w3 ⟨rfl, hb3⟩
    have HB3 := Lib.hid (below_chain HB2.out hb3)
    clear hb3
    go_wp2_with fail
    go_ret
    exact ⟨rfl, HB3.out⟩
  have hcost := HBB.out rfl
  have hok : okL l := okL_of (cntL l + 1) l (by omega) A 0 HR.out
  have hol := out_len (cntL l + 1) l (by omega) 1 hok hcost.2
  have hpr := print_any (fun _ => True) A c l w2 (OpdsAt.turn (Turn.below HB2.out) A 0 l HR.out) (HE.out.below HB2.out).tabs HLM.out (by omega)
  have HQR := Lib.hid (fun (W : World) (hW : Below w.heap.size w W) => rprint_any l (fun _ => True) A c 1 W (OpdsAt.turn (Turn.below hW) A 0 l HR.out) HLM.out hcost.2 (by omega) (by omega) (by omega))
  have hpl : printL l = prR 1 l := rfl
  rw [hpl] at hpr
  obtain ⟨⟨p1, p2⟩, pe⟩ : ∃ q : List UInt8 × Int, q = prR 1 l := ⟨_, rfl⟩
  rw [← pe] at hpr HQR
  obtain ⟨X, hX⟩ : ∃ X : ByteArray, X = ⟨p1.toArray⟩ := ⟨_, rfl⟩
  dsimp only at hpr HQR
  rw [← hX] at hpr HQR
  have HPR := Lib.hid hpr
  clear hpr hok hcost hol hpl pe HBB hX
  go_wp2_with fail
  refine HPR.out.mono ?_
  rintro e w3 ⟨rfl, hb3⟩
  have HB3 := Lib.hid (below_chain HB2.out hb3)
  have HQ3 := Lib.hid (HQR.out _ HB3.out)
  clear hb3 HPR HQR
  go_wp2_with fail
  refine HQ3.out.mono ?_
  rintro e w4 ⟨rfl, hb4⟩
  have HB4 := Lib.hid (below_chain HB3.out hb4)
  have HP4 := Lib.hid (HP.out _ (HE.out.below HB4.out))
  have t1 : (p2 == p2) = true := by simp
  clear hb4 HQ3
  go_wp2_with fail
  refine HP4.out.mono ?_
  rintro e w5 ⟨rfl, hb5⟩
  have HB5 := Lib.hid (below_chain HB4.out hb5)
  clear hb5
  go_wp2_with fail
  go_ret
  exact ⟨rfl, HB5.out⟩
end Go.Proofs.YtifmgmiaeoiidaaGreatDoor
