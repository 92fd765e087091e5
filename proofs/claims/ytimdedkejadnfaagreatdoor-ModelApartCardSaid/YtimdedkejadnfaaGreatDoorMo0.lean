/-
  A map in memory as the list of its keys and values, in whatever types: looked up, written, deleted. Over any program. No condition.
-/
import Derived.Test.YtimdedkejadnfaaGreatDoorKept
import Derived.Maps.OwnSet
namespace Go.Colm
open Go.RowKit Go.ChangeMaps Go.MapKept Go.WideElems
open Go.Maps (Keyed)
set_option linter.unusedVariables false
set_option linter.unusedSimpArgs false

/-- Block b is a map with these entries (keys of type k), in the order in which they were put in. -/
def OwnL (w : World) (P : Program) (k : TypeId) (b : Nat) (l : List (Value × Value)) : Prop :=
  ∃ es clock, w.heap[b]? = some (.map es clock) ∧ Stamped es clock ∧ (es.toList.map fun e => (e.key, e.val)) = l ∧ ∀ e ∈ es.toList, ∃ z, keyOf P k e.key = some z

section
variable {w w' : World} {P : Program} {k t e : TypeId} {b : Nat} {l : List (Value × Value)}
theorem OwnL.made (w : World) (P : Program) (k : TypeId) : OwnL (w.alloc (.map #[] 0)) P k w.heap.size [] :=
  ⟨#[], 0, heap_alloc_new w _, stamped_empty 0, rfl, by simp⟩
theorem OwnL.lt (h : OwnL w P k b l) : b < w.heap.size := by
  obtain ⟨es, clock, hb, _⟩ := h
  exact (Array.getElem?_eq_some_iff.1 hb).1
theorem OwnL.of_block (h : OwnL w P k b l) (hk : w'.heap[b]? = w.heap[b]?) : OwnL w' P k b l := by
  obtain ⟨es, clock, hb, r⟩ := h
  exact ⟨es, clock, hk.trans hb, r⟩
theorem OwnL.kept {S : Nat → Prop} (h : OwnL w P k b l) (hk : Kept S w w') (hs : ¬ S b) : OwnL w' P k b l := h.of_block (hk.block b h.lt hs)
theorem OwnL.below (h : OwnL w P k b l) (hk : Below w.heap.size w w') : OwnL w' P k b l := h.of_block (hk.block b h.lt)
theorem OwnL.drew (h : OwnL w P k b l) : OwnL w.drew P k b l := h
theorem OwnL.whole_ne {g : Nat} {T : TypeId} {cs : Array Value} (h : OwnL w P k b l) (hg : Whole w g T cs) : g ≠ b := by
  rintro rfl
  obtain ⟨es, clock, hb, _⟩ := h
  unfold Whole at hg
  rw [hb] at hg
  cases hg
theorem OwnL.row_ne {base size n : Nat} {T : TypeId} {v : Value} {xs : List Value} (h : OwnL w P k b l) (hr : w.ownsRow base T size v n xs) : v.ownBlock ≠ some b := by
  obtain ⟨es, clock, hb, _⟩ := h
  rcases hr.2 with ⟨rfl, _⟩ | ⟨g, cap, cur, rfl, _, hg, _⟩
  · simp [Value.ownBlock]
  · intro e
    have : g = b := by simpa [Value.ownBlock] using e
    subst this
    rw [hb] at hg
    cases hg
/-- The keys are apart. -/
theorem OwnL.apart (h : OwnL w P k b l) : l.Pairwise fun p q => p.1 ≠ q.1 := by
  obtain ⟨es, clock, _, hst, rfl, _⟩ := h
  rw [List.pairwise_map]
  exact ((stamped_iff es clock).1 hst).2.2
theorem OwnL.keyed (h : OwnL w P k b l) {p : Value × Value} (hp : p ∈ l) : ∃ z, keyOf P k p.1 = some z := by
  obtain ⟨es, clock, _, _, rfl, hk⟩ := h
  obtain ⟨e, he, rfl⟩ := List.mem_map.1 hp
  exact hk e he

theorem run_mapUpdate {es : Array MapEntry} {clock : Nat} (K : Keyed P k) (ht : P.underlying t = some (.map k e)) (hb : w.heap[b]? = some (.map es clock)) {key val : Value} {kl : Lit} (hkey : keyOf P k key = some kl)
    (hk : ∀ x ∈ es.toList, ∃ z, keyOf P k x.key = some z) :
    ((∀ x ∈ es.toList, x.key ≠ key) ∧ (Instr.mapUpdate t (.map (some b)) key val).run P w = .ok () (setBlock w b (.map (es.push ⟨key, val, clock⟩) (clock + 1)))) ∨
    ∃ (j : Nat) (e0 : MapEntry), es.toList[j]? = some e0 ∧ e0.key = key ∧ (Instr.mapUpdate t (.map (some b)) key val).run P w = .ok () (setBlock w b (.map (es.modify j (fun e' => { e' with key := key, val := val })) clock)) := by
  rcases K.find w hkey es.toList hk with ⟨h1, h2⟩ | ⟨j, e0, h1, h2, h3⟩
  · refine .inl ⟨h2, ?_⟩
    simp [Instr.mapUpdate, run_underlying ht, Go.MapKept.run_getObj_map hb, K.check w false hkey, h1, Go.MapKept.run_setObj_map _ hb, Result.andThen, setBlock]
  · refine .inr ⟨j, e0, h2, h3, ?_⟩
    have hj : es[j]? = some e0 := by simpa using h2
    simp [Instr.mapUpdate, run_underlying ht, Go.MapKept.run_getObj_map hb, K.check w false hkey, h1, hj, h3, K.stays w hkey, Go.MapKept.run_setObj_map _ hb, Result.andThen, setBlock]

/-- What a map turns to. -/
def lput (key val : Value) (l l' : List (Value × Value)) : Prop :=
  ((∀ p ∈ l, p.1 ≠ key) ∧ l' = l ++ [(key, val)]) ∨ ∃ (j : Nat) (v : Value), l[j]? = some (key, v) ∧ l' = l.set j (key, val)

theorem kept_setBlock (w : World) (b : Nat) (o : Obj) : Kept (fun i => i = b) w (setBlock w b o) :=
  ⟨rfl, rfl, rfl, by simp [setBlock], fun i _ hi => by
    simp only [setBlock]
    rw [Array.getElem?_setIfInBounds_ne (Ne.symm hi)]⟩

theorem OwnL.put (h : OwnL w P k b l) (K : Keyed P k) (ht : P.underlying t = some (.map k e)) {key val : Value} {kl : Lit} (hkey : keyOf P k key = some kl) :
    ∃ w' l', (Instr.mapUpdate t (.map (some b)) key val).run P w = .ok () w' ∧ lput key val l l' ∧ OwnL w' P k b l' ∧ Kept (fun i => i = b) w w' := by
  obtain ⟨es, clock, hb, hst, rfl, hk⟩ := h
  rcases run_mapUpdate (val := val) K ht hb hkey hk with ⟨h2, hrun⟩ | ⟨j, e0, h2, h3, hrun⟩
  · refine ⟨_, _, hrun, .inl ⟨?_, rfl⟩, ⟨_, _, heap_setBlock_same hb _, stamped_push hst h2, by simp, ?_⟩, kept_setBlock _ _ _⟩
    · intro p hp
      obtain ⟨x, hx, rfl⟩ := List.mem_map.1 hp
      exact h2 x hx
    · intro x hx
      simp only [Array.toList_push, List.mem_append, List.mem_singleton] at hx
      rcases hx with hx | rfl
      · exact hk x hx
      · exact ⟨kl, hkey⟩
  · have hj : es[j]? = some e0 := by simpa using h2
    have hlist : (es.modify j (fun e' => { e' with key := key, val := val })).toList = es.toList.set j { e0 with key := key, val := val } := by
      rw [Array.toList_modify, modify_eq_set _ _ _ _ h2]
    refine ⟨_, _, hrun, .inr ⟨j, e0.val, by simp [hj, h3], rfl⟩, ⟨_, _, heap_setBlock_same hb _, stamped_modify hst _ _ (fun _ _ => rfl) (fun e' _ he' => by rw [hj] at he'; cases he'; exact h3.symm), by rw [hlist, List.map_set], ?_⟩, kept_setBlock _ _ _⟩
    intro x hx
    rw [hlist] at hx
    rcases List.mem_or_eq_of_mem_set hx with hx | rfl
    · exact hk x hx
    · exact ⟨kl, hkey⟩

theorem OwnL.look (h : OwnL w P k b l) (c : Bool) (K : Keyed P k) (ht : P.underlying t = some (.map k e)) {z : Value} (hz : (zeroValue e).run P w = .ok z w) {key : Value} {kl : Lit} (hkey : keyOf P k key = some kl) :
    ((∀ p ∈ l, p.1 ≠ key) ∧ (Instr.lookup t (.map (some b)) key c).run P w = .ok (if c then .tuple #[z, .bool false] else z) w) ∨
    ∃ (j : Nat) (v : Value), l[j]? = some (key, v) ∧ (Instr.lookup t (.map (some b)) key c).run P w = .ok (if c then .tuple #[v, .bool true] else v) w := by
  obtain ⟨es, clock, hb, hst, rfl, hk⟩ := h
  rcases K.find w hkey es.toList hk with ⟨h1, h2⟩ | ⟨j, e0, h1, h2, h3⟩
  · refine .inl ⟨?_, by simp [Instr.lookup, run_underlying ht, Go.MapKept.run_getObj_map hb, K.check w _ hkey, h1, hz, Result.andThen]⟩
    intro p hp
    obtain ⟨x, hx, rfl⟩ := List.mem_map.1 hp
    exact h2 x hx
  · have hj : es[j]? = some e0 := by simpa using h2
    exact .inr ⟨j, e0.val, by simp [hj, h3], by simp [Instr.lookup, run_underlying ht, Go.MapKept.run_getObj_map hb, K.check w _ hkey, h1, Result.andThen]⟩

/-- What is left of a map. -/
def ldel (key : Value) (l l' : List (Value × Value)) : Prop :=
  ((∀ p ∈ l, p.1 ≠ key) ∧ l' = l) ∨ ∃ (j : Nat) (v : Value), l[j]? = some (key, v) ∧ l' = l.eraseIdx j

theorem OwnL.del (h : OwnL w P k b l) (K : Keyed P k) (ht : P.underlying t = some (.map k e)) {key : Value} {kl : Lit} (hkey : keyOf P k key = some kl) (ty : TypeId) :
    ∃ w' l', (Builtin.delete_ #[t, k] ty #[.map (some b), key]).run P w = .ok (.tuple #[]) w' ∧ ldel key l l' ∧ OwnL w' P k b l' ∧ Kept (fun i => i = b) w w' := by
  obtain ⟨es, clock, hb, hst, rfl, hk⟩ := h
  rcases K.find w hkey es.toList hk with ⟨h1, h2⟩ | ⟨j, e0, h1, h2, h3⟩
  · have hrun : (Builtin.delete_ #[t, k] ty #[.map (some b), key]).run P w = .ok (.tuple #[]) (setBlock w b (.map es clock)) := by
      simp [Builtin.delete_, run_underlying ht, Go.MapKept.run_getObj_map hb, K.check w _ hkey, h1, Go.MapKept.run_setObj_map _ hb, Result.andThen, setBlock]
    refine ⟨_, _, hrun, .inl ⟨?_, rfl⟩, ⟨es, clock, heap_setBlock_same hb _, hst, rfl, hk⟩, kept_setBlock _ _ _⟩
    intro p hp
    obtain ⟨x, hx, rfl⟩ := List.mem_map.1 hp
    exact h2 x hx
  · have hj : es[j]? = some e0 := by simpa using h2
    have hjl : j < es.toList.length := (List.getElem?_eq_some_iff.1 h2).1
    have hjs : j < es.size := by simpa using hjl
    have hsub : (es.eraseIdxIfInBounds j).toList = es.toList.eraseIdx j := by
      unfold Array.eraseIdxIfInBounds
      rw [dif_pos hjs]
      simp
    have hrun : (Builtin.delete_ #[t, k] ty #[.map (some b), key]).run P w = .ok (.tuple #[]) (setBlock w b (.map (es.eraseIdxIfInBounds j) clock)) := by
      simp [Builtin.delete_, run_underlying ht, Go.MapKept.run_getObj_map hb, K.check w _ hkey, h1, Go.MapKept.run_setObj_map _ hb, Result.andThen, setBlock]
    refine ⟨_, _, hrun, .inr ⟨j, e0.val, by simp [hj, h3], rfl⟩, ⟨es.eraseIdxIfInBounds j, clock, heap_setBlock_same hb _, stamped_erase hst j, ?_, ?_⟩, kept_setBlock _ _ _⟩
    · rw [hsub, map_eraseIdx]
    · intro x hx
      rw [hsub] at hx
      exact hk x ((List.eraseIdx_sublist _ _).subset hx)

theorem OwnL.len (h : OwnL w P k b l) (ht : P.underlying t = some (.map k e)) (ty : TypeId) : (Builtin.len_ #[t] ty #[.map (some b)]).run P w = .ok (.int .i64 l.length) w := by
  obtain ⟨es, clock, hb, hst, rfl, hk⟩ := h
  simp [Builtin.len_, run_underlying ht, Go.MapKept.run_getObj_map hb, goInt, Result.andThen]
end

section
variable {P : Program} (w : World) {ops : Array Oper} {rest : List Oper} {o : Oper} {a : Act} {Q : Exit → Act → World → Prop}
theorem wpList_put (hg : o.guard = none) (m x v : Operand) (t : TypeId) (hop : o.op = Op.mapUpdate t m x v)
    (k e : TypeId) (K : Keyed P k) (ht : P.underlying t = some (.map k e)) (b : Nat) (l : List (Value × Value))
    (hm : a.eval m = .map (some b)) (hown : OwnL w P k b l) (key val : Value) (kl : Lit) (hx : a.eval x = key) (hv : a.eval v = val) (hkey : keyOf P k key = some kl)
    (hK : ∀ w' l', lput key val l l' → OwnL w' P k b l' → Kept (fun i => i = b) w w' → wpList P ops Q rest (a.put o.dst undef) w') :
    wpList P ops Q (o :: rest) a w := by
  refine wpList_plain hg fun K' hK' => ?_
  obtain ⟨w', l', hrun, r0, r1, r2⟩ := hown.put (val := val) K ht hkey
  unfold Oper.wp
  simp [execOp, hop, hm, hx, hv, hrun, Result.andThen]
  exact hK' _ _ (hK w' l' r0 r1 r2)
theorem wpList_look_ok (hg : o.guard = none) (m x : Operand) (t : TypeId) (hop : o.op = Op.lookup t m x true)
    (k e : TypeId) (K : Keyed P k) (ht : P.underlying t = some (.map k e)) {z : Value} (hz : (zeroValue e).run P w = .ok z w) (b : Nat) (l : List (Value × Value))
    (hm : a.eval m = .map (some b)) (hown : OwnL w P k b l) (key : Value) (kl : Lit) (hx : a.eval x = key) (hkey : keyOf P k key = some kl)
    (h0 : (∀ p ∈ l, p.1 ≠ key) → wpList P ops Q rest (a.put o.dst (.tuple #[z, .bool false])) w)
    (h1 : ∀ (j : Nat) (v : Value), l[j]? = some (key, v) → wpList P ops Q rest (a.put o.dst (.tuple #[v, .bool true])) w) :
    wpList P ops Q (o :: rest) a w := by
  refine wpList_plain hg fun K' hK' => ?_
  rcases hown.look true K ht hz hkey with ⟨hn, hrun⟩ | ⟨j, v, hj, hrun⟩
  · unfold Oper.wp
    simp [execOp, hop, hm, hx, hrun, Result.andThen]
    exact hK' _ _ (h0 hn)
  · unfold Oper.wp
    simp [execOp, hop, hm, hx, hrun, Result.andThen]
    exact hK' _ _ (h1 j v hj)
theorem wpList_del (hg : o.guard = none) (m x : Operand) (t k : TypeId) (hop : o.op = Op.call { callee := Callee.builtin Builtin.delete, args := #[m, x], argTypes := #[t, k] })
    (e : TypeId) (K : Keyed P k) (ht : P.underlying t = some (.map k e)) (b : Nat) (l : List (Value × Value))
    (hm : a.eval m = .map (some b)) (hown : OwnL w P k b l) (key : Value) (kl : Lit) (hx : a.eval x = key) (hkey : keyOf P k key = some kl)
    (hK : ∀ w' l', ldel key l l' → OwnL w' P k b l' → Kept (fun i => i = b) w w' → wpList P ops Q rest (a.put o.dst (.tuple #[])) w') :
    wpList P ops Q (o :: rest) a w := by
  refine wpList_plain hg fun K' hK' => ?_
  obtain ⟨w', l', hrun, r0, r1, r2⟩ := hown.del K ht hkey o.type
  unfold Oper.wp
  simp [execOp, hop, resolve, invoke, builtin, hm, hx, hrun, Result.andThen]
  exact hK' _ _ (hK w' l' r0 r1 r2)
theorem wpList_len (hg : o.guard = none) (m : Operand) (t : TypeId) (hop : o.op = Op.call { callee := Callee.builtin Builtin.len, args := #[m], argTypes := #[t] })
    (k e : TypeId) (ht : P.underlying t = some (.map k e)) (b : Nat) (l : List (Value × Value)) (hm : a.eval m = .map (some b)) (hown : OwnL w P k b l)
    (hK : wpList P ops Q rest (a.put o.dst (.int .i64 l.length)) w) :
    wpList P ops Q (o :: rest) a w := by
  refine wpList_plain hg fun K' hK' => ?_
  unfold Oper.wp
  simp [execOp, hop, resolve, invoke, builtin, hm, hown.len ht o.type, Result.andThen]
  exact hK' _ _ hK
end
end Go.Colm
