/-
  A region that draws its order and whose last operation waits for all others: walked once; the last operation may turn what others read. Over any program. No condition.
-/
import Derived.Test.YtimdedkejadnfaaGreatDoorRgn
namespace Go.Colm
set_option linter.unusedVariables false
section
variable {P : Program} {ops : Array Oper} {Q : Exit → Act → World → Prop}

/-- What an operation waits for. -/
def depsOf (ops : Array Oper) (i : Nat) : List Nat := match ops[i]? with
  | none => []
  | some o => (o.after.toList.filter fun e => Region.binds .any e).map (·.on)
/-- What is waited for, far and near, from number k down. -/
def marks (ops : Array Oper) : Nat → List Nat → List Nat
  | 0, S => S
  | k + 1, S => marks ops k (if S.contains (k + 1) then S ++ depsOf ops (k + 1) else S)
def lastB (ops : Array Oper) (n : Nat) : Bool := decide (n + 1 = ops.size) && (List.range n).all fun j => (marks ops n (depsOf ops n)).contains j
theorem marks_done {T : Nat → Prop} (hT : ∀ i, T i → ∀ j ∈ depsOf ops i, T j) : ∀ (k : Nat) (S : List Nat), (∀ j ∈ S, T j) → ∀ j ∈ marks ops k S, T j
  | 0, S, h => h
  | k + 1, S, h => marks_done hT k _ fun j hj => by
    split at hj
    · rename_i hc
      rcases List.mem_append.1 hj with h1 | h1
      · exact h j h1
      · exact hT _ (h _ (by simpa using hc)) j h1
    · exact h j hj
theorem Midst.all_of_last {a0 : Act} {F : Nat → Value → World → Prop} {L : Array Bool} {a : Act} {w : World} {n : Nat} (h : Midst .any ops a0 F L a w) (hl : lastB ops n = true) (hd : ∀ j ∈ depsOf ops n, L.getD j false = true) : ∀ j, j < n → L.getD j false = true := by
  intro j hj
  simp only [lastB, Bool.and_eq_true, List.all_eq_true] at hl
  have hm := hl.2 j (List.mem_range.2 hj)
  refine marks_done (ops := ops) (T := fun i => L.getD i false = true) (fun i hi j hj => ?_) n _ hd j (by simpa using hm)
  unfold depsOf at hj
  cases ho : ops[i]? with
  | none => rw [ho] at hj; simp at hj
  | some o =>
    rw [ho] at hj
    simp only [List.mem_map, List.mem_filter] at hj
    obtain ⟨e, ⟨he, hb⟩, rfl⟩ := hj
    exact h.closed i o ho hi e (by simpa using he) hb
theorem Midst.close_last {a0 : Act} {F : Nat → Value → World → Prop} {L : Array Bool} {a : Act} {w : World} {n : Nat} (h : Midst .any ops a0 F L a w) (hone : OneEach ops a0.tmps.size) (hsz : n + 1 = ops.size) (hall : ∀ j, j < n → L.getD j false = true) (hn : L.getD n false = false) :
    ∃ vs : Nat → Value, (∀ j, j < n → F j (vs j) w) ∧ a = putAll vs 0 (ops.toList.take n) a0 := by
  have hex : ∀ j : Nat, ∃ v, ∀ o : Oper, j < n → ops[j]? = some o → (∀ t, o.dst = some t → a.tmps[t]? = some v) ∧ F j v w := fun j => by
    by_cases hjn : j < n
    · cases hj : ops[j]? with
      | none => exact ⟨undef, fun o _ e => by cases e⟩
      | some o =>
        obtain ⟨v, h1, h2⟩ := h.done j o hj (hall j hjn)
        exact ⟨v, fun o' _ e => by cases e; exact ⟨h1, h2⟩⟩
    · exact ⟨undef, fun o h => absurd h hjn⟩
  obtain ⟨vs, hvs⟩ : ∃ vs : Nat → Value, ∀ j o, j < n → ops[j]? = some o → (∀ t, o.dst = some t → a.tmps[t]? = some (vs j)) ∧ F j (vs j) w := ⟨fun j => Classical.choose (hex j), fun j => Classical.choose_spec (hex j)⟩
  refine ⟨vs, fun j hj => (hvs j _ hj (Array.getElem?_eq_getElem (by omega))).2, ?_⟩
  clear hex
  obtain ⟨tm, df⟩ := a
  have hd := h.defs
  have hs := h.size
  dsimp only at hd hs
  have e1 : (putAll vs 0 (ops.toList.take n) a0).defers = df := by rw [putAll_defs, hd]
  have e2 : (putAll vs 0 (ops.toList.take n) a0).tmps = tm := by
    apply Array.ext_getElem?
    intro t
    by_cases hw : ∃ (j : Nat) (o : Oper), j < n ∧ ops[j]? = some o ∧ o.dst = some t
    · obtain ⟨j, o, hjn, hj, ht⟩ := hw
      rw [putAll_at _ t (ops.toList.take n) 0 j a0 o (by rw [List.getElem?_take_of_lt hjn]; simpa using hj) ht (fun k o' hk e => by
        have hkn : k < n := by
          have := (List.getElem?_eq_some_iff.1 hk).1
          rw [List.length_take] at this
          omega
        rw [List.getElem?_take_of_lt hkn] at hk
        exact (hone k j o' o t (by simpa using hk) hj e ht).1) (hone j j o o t hj hj ht ht).2]
      rw [Nat.zero_add]
      exact ((hvs j o hjn hj).1 t ht).symm
    · rw [putAll_other]
      · refine (h.other t fun j o hj ht => ?_).symm
        by_cases hjn : j < n
        · exact absurd ⟨j, o, hjn, hj, ht⟩ hw
        · have : j = n := by
            have := (Array.getElem?_eq_some_iff.1 hj).1
            omega
          rw [this]
          exact hn
      · intro o ho e
        obtain ⟨j, hj⟩ := List.mem_iff_getElem?.1 ho
        have hjn : j < n := by
          have := (List.getElem?_eq_some_iff.1 hj).1
          rw [List.length_take] at this
          omega
        rw [List.getElem?_take_of_lt hjn] at hj
        exact hw ⟨j, o, hjn, by simpa using hj, e⟩
  rw [← e1, ← e2]

theorem wpAny_last {a0 : Act} {F : Nat → Value → World → Prop} {R : World → World → Prop} {n : Nat} (hl : lastB ops n = true) (hone : OneEach ops a0.tmps.size) (hafter : ∀ (i : Nat) (o : Oper), ops[i]? = some o → ∀ e ∈ o.after, e.on < i)
    (htrans : ∀ a b c, R a b → R b c → R a c) (hstab : ∀ j u w w', R w w' → F j u w → F j u w') {w0 : World}
    (hstep : ∀ (i : Nat) (o : Oper), i < n → ops[i]? = some o → ∀ (L : Array Bool) (a : Act) (w : World), Midst .any ops a0 F L a w → L.getD i false = false → (∀ e ∈ o.after, Region.binds .any e = true → L.getD e.on false = true) → R w0 w →
      wpOp P ops Q i (fun a' w' => ∃ v, a' = a.put o.dst v ∧ F i v w' ∧ R w w') a w)
    (hlast : ∀ vs w, (∀ j, j < n → F j (vs j) w) → R w0 w → wpOp P ops Q n (fun a' w' => Q .normal a' w') (putAll vs 0 (ops.toList.take n) a0) w) :
    ∀ (fuel : Nat) (L : Array Bool) (a : Act) (w : World), L.size = ops.size → (L.toList.count false ≤ fuel) → Midst .any ops a0 F L a w → L.getD n false = false → R w0 w → wpAny P .any ops Q fuel L a w := by
  have hsz : n + 1 = ops.size := by
    simp only [lastB, Bool.and_eq_true, decide_eq_true_eq] at hl
    exact hl.1
  have hne : ∀ L : Array Bool, L.size = ops.size → L.getD n false = false → Region.ready .any ops L ≠ [] := by
    intro L hL hn hr
    have : ∀ j, j < ops.size → L.getD j false = true := by
      intro j
      induction j using Nat.strongRecOn with
      | ind j ih =>
        intro hj
        cases hd : L.getD j false with
        | true => rfl
        | false =>
          have hjl : j < L.size := by omega
          have : j ∈ Region.ready .any ops L := mem_ready.2 ⟨by simp [hjl] at hd ⊢; exact hd, ops[j], Array.getElem?_eq_getElem hj, fun e he _ => by
            have h1 := hafter j _ (Array.getElem?_eq_getElem hj) e he
            exact ih e.on h1 (by omega)⟩
          rw [hr] at this
          cases this
    rw [this n (by omega)] at hn
    cases hn
  intro fuel
  induction fuel with
  | zero =>
    intro L a w hL hc hm hn hw
    exfalso
    have hil : n < L.size := by omega
    have h3 : L[n] = false := by simpa [hil] using hn
    have h6 : 0 < L.toList.count false := List.count_pos_iff.2 (by
      have h7 : L.toList[n]'(by simpa using hil) = false := by simpa using h3
      rw [← h7]
      exact List.getElem_mem _)
    omega
  | succ fuel ih =>
    intro L a w hL hc hm hn hw
    refine ⟨fun hr => absurd hr (hne L hL hn), fun i hi => ?_⟩
    obtain ⟨h1, o, ho, h2⟩ := mem_ready.1 hi
    have hil : i < L.size := by rw [hL]; exact (Array.getElem?_eq_some_iff.1 ho).1
    have hcount : ∀ L' : Array Bool, L' = L.setIfInBounds i true → L'.toList.count false ≤ fuel := by
      rintro L' rfl
      have h3 : L[i] = false := by simpa [hil] using h1
      rw [Array.toList_setIfInBounds]
      have h4 := List.count_set (l := L.toList) (i := i) (a := true) (b := false) (by simpa using hil)
      have h5 : (L.toList[i]'(by simpa using hil) == false) = true := by simpa using h3
      have h6 : 0 < L.toList.count false := List.count_pos_iff.2 (by
        have h7 : L.toList[i]'(by simpa using hil) = false := by simpa using h3
        rw [← h7]
        exact List.getElem_mem _)
      rw [h4, if_pos h5, if_neg (by decide)]
      omega
    by_cases hin : i = n
    · subst hin
      have hd : ∀ j ∈ depsOf ops i, L.getD j false = true := fun j hj => by
        unfold depsOf at hj
        rw [ho] at hj
        simp only [List.mem_map, List.mem_filter] at hj
        obtain ⟨e, ⟨he, hb⟩, rfl⟩ := hj
        exact h2 e (by simpa using he) hb
      have hall := hm.all_of_last hl hd
      obtain ⟨vs, hf, rfl⟩ := hm.close_last hone hsz hall hn
      refine wpOp_mono ?_ (hlast vs w hf hw)
      intro a' w' hq
      have hnil : Region.ready .any ops (L.setIfInBounds i true) = [] := by
        rw [List.eq_nil_iff_forall_not_mem]
        intro j hj
        obtain ⟨k1, o2, ko, _⟩ := mem_ready.1 hj
        have hjl : j < ops.size := (Array.getElem?_eq_some_iff.1 ko).1
        have hgd : (L.setIfInBounds i true).getD j false = true := by
          rw [getD_set _ _ _ hil]
          by_cases e : i = j
          · simp [e]
          · rw [hall j (by omega)]
            simp
        have hjl2 : j < (L.setIfInBounds i true).size := by simp; omega
        have hg2 : (L.setIfInBounds i true)[j]?.getD true = false := by simpa using k1
        rw [Array.getElem?_eq_getElem hjl2, Option.getD_some] at hg2
        rw [Array.getD_eq_getD_getElem?, Array.getElem?_eq_getElem hjl2, Option.getD_some, hg2] at hgd
        cases hgd
      cases fuel with
      | zero => exact ⟨hnil, hq⟩
      | succ f => exact ⟨fun _ => hq, fun j hj => by rw [hnil] at hj; cases hj⟩
    · have hi2 : i < n := by
        have := (Array.getElem?_eq_some_iff.1 ho).1
        omega
      refine wpOp_mono ?_ (hstep i o hi2 ho L a w hm (by simpa [hil] using h1) h2 hw)
      rintro a' w' ⟨v, rfl, hf, hr⟩
      exact ih _ _ _ (by simpa using hL) (hcount _ rfl) (hm.step hone ho hil (fun j u => hstab j u w w' hr) hf h2) (by rw [getD_set _ _ _ hil, hn]; simp [hin]) (htrans _ _ _ hw hr)

theorem StepsOK'.take {a0 : Act} {w0 : World} {F : Nat → Value → World → Prop} {R : World → World → Prop} : ∀ (l : List Oper) (i k : Nat) (n : Nat) (o : Oper), StepsOK' P ops Q a0 w0 F R i (l.take n) → k < n → l[k]? = some o → StepOK P ops Q a0 w0 F R (i + k) o := fun l i k n o h hk e =>
  StepsOK'.get (l.take n) i k o h (by rw [List.getElem?_take_of_lt hk]; exact e)
/-- **The region's last operation waits for all others.** The others each leave a value with a fact that stays; then the last one. -/
theorem wp_region_last {id : Nat} {a0 : Act} {w0 : World} (F : Nat → Value → World → Prop) (R : World → World → Prop) (n : Nat) (o : Oper) (hm : P.follows .mixedOrders = true) {m : Nat} (hn : a0.tmps.size = m) (hl : lastB ops n = true) (ho : ops[n]? = some o) (hone : oneEachB ops m = true) (hafter : afterB ops = true)
    (hrefl : ∀ w, R w w) (htrans : ∀ a b c, R a b → R b c → R a c) (hstab : ∀ j u w w', R w w' → F j u w → F j u w')
    (hstep : StepsOK' P ops Q a0 w0.drew F R 0 (ops.toList.take n))
    (hlast : ∀ vs a w, a = putAll vs 0 (ops.toList.take n) a0 → (∀ j, j < n → F j (vs j) w) → R w0.drew w → ∀ K : Act → World → Prop, (∀ a' w', Q .normal a' w' → K a' w') →
      if Region.wanted o (yielded ops a.tmps) = true then Oper.wp P o a w K Q else K (a.put o.dst undef) w) :
    (Code.region id ops true).wp P Q a0 w0 :=
  wp_region_any hm (wpAny_last hl (oneEach_of (by rw [hn]; exact hone)) (after_of hafter) htrans hstab (fun i o hi ho L a w h1 h0 h2 h3 => by
    have hs := StepsOK'.take ops.toList 0 i n o hstep hi (by simpa using ho)
    rw [Nat.zero_add] at hs
    exact wpOp_step ho fun K' hK => hs L a w h1 h0 h2 h3 K' fun v w' hf hr => hK _ _ ⟨v, rfl, hf, hr⟩)
    (fun vs w hf hw => wpOp_step ho fun K' hK => hlast vs _ w rfl hf hw K' fun a' w' h => hK _ _ h) ops.size (Array.replicate ops.size false) a0 _ (by simp) (by simp) ⟨fun j o ho hL => by
    have : j < ops.size := (Array.getElem?_eq_some_iff.1 ho).1
    simp [this] at hL, rfl, rfl, fun _ _ => rfl, fun j o ho hL => by
    have : j < ops.size := (Array.getElem?_eq_some_iff.1 ho).1
    simp [this] at hL⟩ (by
    have : n < ops.size := (Array.getElem?_eq_some_iff.1 ho).1
    simp [this]) (hrefl _))
/-- An operation that yields nothing (a store). -/
theorem stepS {o : Oper} {a : Act} {w w' : World} {K : Act → World → Prop} (hg : o.guard = none) (hrun : (execOp a.eval o).run P w = .ok .skip w') (h : K (a.put o.dst undef) w') :
    if Region.wanted o (yielded ops a.tmps) = true then Oper.wp P o a w K Q else K (a.put o.dst undef) w := by
  rw [if_pos (by simp [Region.wanted, hg])]
  unfold Oper.wp
  rw [hrun]
  exact h
end
end Go.Colm
