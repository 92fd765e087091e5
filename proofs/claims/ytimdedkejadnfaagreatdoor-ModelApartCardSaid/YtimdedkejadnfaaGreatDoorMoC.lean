/-
  slices.Delete, Index and Insert's contracts of the library's shelf, laid at this program's own numbers; and said of rows of one's own. No condition.
-/
import Derived.Test.YtimdedkejadnfaaGreatDoorMoB
import Derived.Shelf.SlicesE.Delete
import Derived.Shelf.SlicesE.Index
import Derived.Shelf.Spec.SlicesInsert
import Derived.Lib.OwnBridge
import Derived.Deep.Upon
namespace Go.Proofs.YtimdedkejadnfaaGreatDoor
open Go.RowKit Go.Colm Go.Shelf Go.Sort
set_option linter.unusedVariables false
set_option linter.unusedSimpArgs false
set_option linter.unusedSectionVars false
def deERen : Go.Shelf.Ren := ⟨fun | 45 => 118 | n => n, fun | 0 => 0 | 3 => 3 | 4 => 4 | 22 => 62 | 23 => 63 | n => n, fun n => n⟩
theorem deELays : Go.Proofs.SlLaysE.n45 Tryz.prog deERen := {
  mixed := by kernel_rfl
  f45 := ⟨"slices.Delete[[]*columbarium/model.entry,*columbarium/model.entry]", by decide, Tryz.func118.trans (congrArg some (by kernel_rfl))⟩
  t0 := Tryz.underlying0
  a0 := Tryz.isAgg0
  z0 := Tryz.sizeOf0
  v0 := Tryz.zeroValue0
  t3 := Tryz.underlying3
  a3 := Tryz.isAgg3
  z3 := Tryz.sizeOf3
  v3 := Tryz.zeroValue3
  t4 := Tryz.underlying4
  a4 := Tryz.isAgg4
  z4 := Tryz.sizeOf4
  v4 := Tryz.zeroValue4
  t22 := Tryz.underlying62
  a22 := Tryz.isAgg62
  z22 := Tryz.sizeOf62
  v22 := Tryz.zeroValue62
  a23 := Tryz.isAgg63
  z23 := Tryz.sizeOf63 }
def deIRen : Go.Shelf.Ren := ⟨fun | 45 => 179 | n => n, fun | 0 => 0 | 3 => 3 | 4 => 4 | 22 => 134 | 23 => 3 | n => n, fun n => n⟩
theorem deILays : Go.Proofs.SlLaysE.n45 Tryz.prog deIRen := {
  mixed := by kernel_rfl
  f45 := ⟨"slices.Delete[[]int,int]", by decide, Tryz.func179.trans (congrArg some (by kernel_rfl))⟩
  t0 := Tryz.underlying0
  a0 := Tryz.isAgg0
  z0 := Tryz.sizeOf0
  v0 := Tryz.zeroValue0
  t3 := Tryz.underlying3
  a3 := Tryz.isAgg3
  z3 := Tryz.sizeOf3
  v3 := Tryz.zeroValue3
  t4 := Tryz.underlying4
  a4 := Tryz.isAgg4
  z4 := Tryz.sizeOf4
  v4 := Tryz.zeroValue4
  t22 := Tryz.underlying134
  a22 := Tryz.isAgg134
  z22 := Tryz.sizeOf134
  v22 := Tryz.zeroValue134
  a23 := Tryz.isAgg3
  z23 := Tryz.sizeOf3 }
def ixERen : Go.Shelf.Ren := ⟨fun | 29 => 175 | n => n, fun | 0 => 0 | 3 => 3 | 4 => 4 | 22 => 62 | 23 => 63 | n => n, fun n => n⟩
theorem ixELays : Go.Proofs.SlLaysE.n29 Tryz.prog ixERen := {
  mixed := by kernel_rfl
  f29 := ⟨"slices.Index[[]*columbarium/model.entry,*columbarium/model.entry]", by decide, Tryz.func175.trans (congrArg some (by kernel_rfl))⟩
  t0 := Tryz.underlying0
  a0 := Tryz.isAgg0
  z0 := Tryz.sizeOf0
  v0 := Tryz.zeroValue0
  t3 := Tryz.underlying3
  a3 := Tryz.isAgg3
  z3 := Tryz.sizeOf3
  v3 := Tryz.zeroValue3
  t4 := Tryz.underlying4
  a4 := Tryz.isAgg4
  z4 := Tryz.sizeOf4
  v4 := Tryz.zeroValue4
  t22 := Tryz.underlying62
  a22 := Tryz.isAgg62
  z22 := Tryz.sizeOf62
  v22 := Tryz.zeroValue62
  a23 := Tryz.isAgg63
  z23 := Tryz.sizeOf63 }
def inIRen : Go.Shelf.Ren := ⟨fun | 21 => 119 | 27 => 176 | 28 => 177 | 35 => 221 | 39 => 248 | n => n, fun | 0 => 0 | 3 => 3 | 4 => 4 | 22 => 134 | n => n, fun n => n⟩
theorem inILays : Go.Proofs.Lays2.n21 Tryz.prog inIRen := {
  mixed := by kernel_rfl
  f21 := Tryz.func119.trans (congrArg some (by kernel_rfl))
  f27 := Tryz.func176.trans (congrArg some (by kernel_rfl))
  f28 := Tryz.func177.trans (congrArg some (by kernel_rfl))
  f35 := Tryz.func221.trans (congrArg some (by kernel_rfl))
  f39 := Tryz.func248.trans (congrArg some (by kernel_rfl))
  t0 := Tryz.underlying0
  a0 := Tryz.isAgg0
  z0 := Tryz.sizeOf0
  v0 := Tryz.zeroValue0
  t3 := Tryz.underlying3
  a3 := Tryz.isAgg3
  z3 := Tryz.sizeOf3
  v3 := Tryz.zeroValue3
  t4 := Tryz.underlying4
  a4 := Tryz.isAgg4
  z4 := Tryz.sizeOf4
  v4 := Tryz.zeroValue4
  t22 := Tryz.underlying134
  a22 := Tryz.isAgg134
  z22 := Tryz.sizeOf134
  v22 := Tryz.zeroValue134
  i3 := by kernel_rfl }

theorem heap_putRow_other {α : Type} [Inhabited α] (enc : α → Value) (w : World) (q g off : Nat) (d : Array α) (i : Nat) (hi : i ≠ g) : (putRow enc (Sort.ahead w q) g off d).heap[i]? = w.heap[i]? := by
  simp only [putRow, mapBlock]
  rw [Array.getElem?_modify, if_neg (Ne.symm hi)]
  rfl
theorem kept_putRow {α : Type} [Inhabited α] (enc : α → Value) (w : World) (q g off : Nat) (d : Array α) : Kept (fun k => k = g) w (putRow enc (Sort.ahead w q) g off d) :=
  ⟨rfl, rfl, rfl, by simp [Sort.ahead], fun i _ hi => heap_putRow_other enc w q g off d i hi⟩

section
variable {α : Type} [Inhabited α]
theorem holds_own {enc : α → Value} {w : World} {base : Nat} {e : TypeId} {g cap : Nat} {xs : List α} (h : w.ownsRow base e 1 (.slice (some ⟨g, 0, none⟩) xs.length cap) xs.length (xs.map enc)) : Sort.Holds enc w g 0 xs.toArray := fun j hj => by
  have hj' : j < xs.length := by simpa using hj
  refine ⟨?_, ?_⟩
  · rw [Nat.zero_add, h.cellAt j (by omega)]
    simp [hj', getElem!_pos, List.getElem?_map]
  · rcases h.2 with ⟨h', _⟩ | ⟨g', cap', cur, h', _, hg, _⟩
    · simp at h'
    · simp only [Value.slice.injEq, Option.some.injEq, Addr.mk.injEq, and_true, true_and] at h'
      obtain ⟨rfl, rfl⟩ := h'
      simp [World.frozen?, hg]
theorem own_capN {w : World} {base : Nat} {e : TypeId} {g n m cap : Nat} {xs : List Value} (h : w.ownsRow base e 1 (.slice (some ⟨g, 0, none⟩) n cap) m xs) : n = m ∧ n ≤ cap ∧ cap ≤ maxLen := by
  rcases h.2 with ⟨h', _⟩ | ⟨g', cap', cur, h', _, hg, hn, hm, _⟩
  · simp at h'
  · simp only [Value.slice.injEq, Option.some.injEq, Addr.mk.injEq, and_true, true_and] at h'
    obtain ⟨rfl, rfl, rfl⟩ := h'
    exact ⟨rfl, hn, hm⟩
theorem del_post {enc : α → Value} {w : World} {base : Nat} {e : TypeId} {g cap : Nat} {xs : List α} (h : w.ownsRow base e 1 (.slice (some ⟨g, 0, none⟩) xs.length cap) xs.length (xs.map enc)) (i j : Nat) (zr : α) (hij : i ≤ j) (hj : j ≤ xs.length) (q : Nat) :
    (putRow enc (Sort.ahead w q) g 0 (xs.take i ++ xs.drop j ++ List.replicate (j - i) zr).toArray).ownsRow base e 1 (.slice (some ⟨g, 0, none⟩) (xs.length - (j - i)) cap) (xs.length - (j - i)) ((xs.take i ++ xs.drop j).map enc) := by
  have hl : (xs.take i ++ xs.drop j).length = xs.length - (j - i) := by simp; omega
  have := Lib.ownsRow_putRow (q := q) (k := xs.length - (j - i)) (ys := xs.take i ++ xs.drop j ++ List.replicate (j - i) zr) h (by rw [List.length_append, hl]; simp; omega) (by omega)
  rw [List.take_left' hl] at this
  exact this
end

theorem ptrE_info : (Tryz.prog.info? 63).map (fun i => (i.zero, i.size, i.bytes)) = some (some (.pointer none), 1, 8) := by kernel_rfl
theorem int_info : (Tryz.prog.info? 3).map (fun i => (i.zero, i.size, i.bytes)) = some (some (.int .i64 0), 1, 8) := by kernel_rfl

/-- slices.Delete of a row of one's own of ints. -/
theorem delI_any (base g cap : Nat) (xs : List Int) (i j : Nat) (w : World) (h : w.ownsRow base 3 1 (.slice (some ⟨g, 0, none⟩) xs.length cap) xs.length (xs.map (Value.int .i64))) (hij : i ≤ j) (hj : j ≤ xs.length) :
    Calls Tryz.prog 179 #[.slice (some ⟨g, 0, none⟩) xs.length cap, .int .i64 i, .int .i64 j] w fun e w' => e = .returned (.slice (some ⟨g, 0, none⟩) (xs.length - (j - i)) cap) ∧
      w'.ownsRow base 3 1 (.slice (some ⟨g, 0, none⟩) (xs.length - (j - i)) cap) (xs.length - (j - i)) ((xs.take i ++ xs.drop j).map (Value.int .i64)) ∧ Kept (fun k => k = g) w w' := by
  obtain ⟨i0, hi0, hz0, hz1, hz2⟩ := info_parts int_info
  have hc := own_capN h
  have := AnyE.slices_Delete deILays (Value.int .i64) (fun _ => rfl) 0 Tryz.zeroValue3 i0 hi0 hz1 g 0 cap i j xs.toArray w (holds_own h) (by simpa using hc.2.1) (by have := hc.2.2; unfold maxLen at this; omega) hij (by simpa using hj)
  rw [List.size_toArray] at this
  refine this.mono ?_
  rintro e w' ⟨rfl, q, rfl⟩
  exact ⟨rfl, del_post h i j 0 hij hj q, kept_putRow _ _ _ _ _ _⟩

/-- slices.Delete of a row of one's own of entries. -/
theorem delE_any (eb : Nat → Nat) (base g cap : Nat) (xs : List (Option Nat)) (i j : Nat) (w : World) (h : w.ownsRow base 63 1 (.slice (some ⟨g, 0, none⟩) xs.length cap) xs.length (xs.map fun o => Value.pointer (o.map fun i => ⟨eb i, 0, none⟩))) (hij : i ≤ j) (hj : j ≤ xs.length) :
    Calls Tryz.prog 118 #[.slice (some ⟨g, 0, none⟩) xs.length cap, .int .i64 i, .int .i64 j] w fun e w' => e = .returned (.slice (some ⟨g, 0, none⟩) (xs.length - (j - i)) cap) ∧
      w'.ownsRow base 63 1 (.slice (some ⟨g, 0, none⟩) (xs.length - (j - i)) cap) (xs.length - (j - i)) ((xs.take i ++ xs.drop j).map fun o => Value.pointer (o.map fun i => ⟨eb i, 0, none⟩)) ∧ Kept (fun k => k = g) w w' := by
  obtain ⟨i0, hi0, hz0, hz1, hz2⟩ := info_parts ptrE_info
  have hc := own_capN h
  have := AnyE.slices_Delete deELays (fun o : Option Nat => Value.pointer (o.map fun i => ⟨eb i, 0, none⟩)) (fun _ => rfl) none Tryz.zeroValue63 i0 hi0 hz1 g 0 cap i j xs.toArray w (holds_own h) (by simpa using hc.2.1) (by have := hc.2.2; unfold maxLen at this; omega) hij (by simpa using hj)
  rw [List.size_toArray] at this
  refine this.mono ?_
  rintro e w' ⟨rfl, q, rfl⟩
  exact ⟨rfl, del_post h i j none hij hj q, kept_putRow _ _ _ _ _ _⟩

theorem setCells_heap (g : Nat) : ∀ (vs : List Value) (o : Nat) (w : World) (cur : Array Value) (t : TypeId) (fz : Nat × Nat), w.heap[g]? = some (.cells cur t fz) → o + vs.length ≤ cur.size →
    ∃ cur', (w.setCells g o vs).heap[g]? = some (.cells cur' t fz) ∧ cur'.size = cur.size ∧ ∀ j : Nat, cur'[j]? = if o ≤ j ∧ j < o + vs.length then vs[j - o]? else cur[j]?
  | [], o, w, cur, t, fz, h, _ => ⟨cur, h, rfl, fun j => by rw [if_neg (by simp)]⟩
  | v :: r, o, w, cur, t, fz, h, hl => by
    rw [List.length_cons] at hl
    have h1 : (w.setCell ⟨g, o, none⟩ v).heap[g]? = some (.cells (cur.setIfInBounds o v) t fz) := by simp [World.setCell, Array.getElem?_modify, h]
    obtain ⟨cur', h2, h3, h4⟩ := setCells_heap g r (o + 1) _ _ t fz h1 (by rw [Array.size_setIfInBounds]; omega)
    refine ⟨cur', h2, by rw [h3, Array.size_setIfInBounds], fun j => ?_⟩
    rw [h4, List.length_cons]
    by_cases hj : o = j
    · subst hj
      rw [if_neg (by omega), if_pos (by omega), Nat.sub_self, List.getElem?_cons_zero, Array.getElem?_setIfInBounds_self_of_lt (by omega)]
    · rw [Array.getElem?_setIfInBounds_ne hj]
      by_cases hin : o + 1 ≤ j ∧ j < o + 1 + r.length
      · rw [if_pos hin, if_pos (by omega)]
        obtain ⟨k, rfl⟩ : ∃ k, j = o + 1 + k := ⟨j - (o + 1), by omega⟩
        rw [show o + 1 + k - (o + 1) = k by omega, show o + 1 + k - o = k + 1 by omega, List.getElem?_cons_succ]
      · rw [if_neg hin, if_neg (by omega)]
theorem kept_setCells (g : Nat) : ∀ (vs : List Value) (o : Nat) (w : World), Kept (fun k => k = g) w (w.setCells g o vs)
  | [], o, w => Kept.refl _ w
  | v :: r, o, w => ((Kept.refl (fun k => k = g) w).setCell (p := ⟨g, o, none⟩) (.inl rfl) v).trans (kept_setCells g r (o + 1) _)
theorem own_setCells {w w1 : World} {base : Nat} {e : TypeId} {g cap n m : Nat} {xs ys : List Value} {cur' : Array Value} (h : w.ownsRow base e 1 (.slice (some ⟨g, 0, none⟩) n cap) n xs) (hc : w1.heap[g]? = some (.cells cur' e (0, 0))) (hsz : cur'.size = cap) (hm : m ≤ cap)
    (hl : ys.length = m) (hy : ∀ j : Nat, j < m → cur'[j]? = ys[j]?) : w1.ownsRow base e 1 (.slice (some ⟨g, 0, none⟩) m cap) m ys := by
  refine ⟨by omega, .inr ?_⟩
  rcases h.2 with ⟨h', _⟩ | ⟨g', cap', cur, h', hb, _, _, hmx, _⟩
  · simp at h'
  · simp only [Value.slice.injEq, Option.some.injEq, Addr.mk.injEq, and_true, true_and] at h'
    obtain ⟨rfl, rfl⟩ := h'
    refine ⟨g, cap, cur', rfl, hb, hc, hm, hmx, by omega, ?_⟩
    apply List.ext_getElem?
    intro j
    by_cases hj : j < m
    · rw [List.getElem?_take_of_lt (by omega), Array.getElem?_toList, hy j hj]
    · rw [List.getElem?_eq_none (by rw [List.length_take]; omega), List.getElem?_eq_none (by omega)]

/-- slices.Insert of one int at the beginning, where there is room. -/
theorem insI_any (base g cap vb vc : Nat) (xs : List Int) (b : Int) (w : World) (h : w.ownsRow base 3 1 (.slice (some ⟨g, 0, none⟩) xs.length cap) xs.length (xs.map (Value.int .i64))) (hroom : xs.length + 1 ≤ cap)
    (hv : w.heap[vb]? = some (.cells #[.int .i64 b] 3 (0, 0))) (hne : vb ≠ g) :
    Calls Tryz.prog 119 #[.slice (some ⟨g, 0, none⟩) xs.length cap, .int .i64 0, .slice (some ⟨vb, 0, none⟩) 1 vc] w fun e w' => e = .returned (.slice (some ⟨g, 0, none⟩) (xs.length + 1) cap) ∧
      w'.ownsRow base 3 1 (.slice (some ⟨g, 0, none⟩) (xs.length + 1) cap) (xs.length + 1) ((b :: xs).map (Value.int .i64)) ∧ Kept (fun k => k = g) w w' := by
  obtain ⟨_, hcap, hmax⟩ := own_capN h
  obtain ⟨cur, hg, hcs, ht⟩ : ∃ cur, w.heap[g]? = some (.cells cur 3 (0, 0)) ∧ cur.size = cap ∧ cur.toList.take xs.length = xs.map (Value.int .i64) := by
    rcases h.2 with ⟨h', _⟩ | ⟨g', cap', cur, h', hb, hg, _, _, hsz, ht⟩
    · simp at h'
    · simp only [Value.slice.injEq, Option.some.injEq, Addr.mk.injEq, and_true, true_and] at h'
      obtain ⟨rfl, rfl⟩ := h'
      exact ⟨cur, hg, by omega, by simpa using ht⟩
  have hcell : ∀ j : Nat, j < cap → (w.cell? ⟨g, j, none⟩).isSome = true := fun j hj => by
    simp [World.cell?, hg, hcs, hj]
  have hfz : ∀ j : Nat, w.frozen? ⟨g, j, none⟩ = false := fun j => by simp [World.frozen?, hg]
  have hvs : ∀ (j : Nat) (v : Value), [Value.int .i64 b][j]? = some v → w.cell? ⟨vb, 0 + j, none⟩ = some v := fun j v hj => by
    rcases j with _ | j
    · simp only [List.getElem?_cons_zero, Option.some.injEq] at hj
      subst hj
      simp [World.cell?, hv]
    · simp at hj
  have h1v : ∀ v ∈ [Value.int .i64 b], v.oneCell' = true := fun v hv => by
    simp at hv
    subst hv
    rfl
  have hm63 : cap ≤ 9223372036854775807 := by unfold maxLen at hmax; omega
  by_cases h0 : xs.length = 0
  · have hx : xs = [] := List.eq_nil_of_length_eq_zero h0
    subst hx
    refine (Any2.slices_Insert_int_end_room inILays g 0 0 cap vb 0 1 vc [.int .i64 b] w (by decide) (by simpa using hroom) hm63 rfl (fun j hj => hcell _ (by simp at hroom; omega)) (fun j hj => hfz _) hvs h1v).mono ?_
    rintro e w' ⟨rfl, rfl⟩
    obtain ⟨cur', h2, h3, h4⟩ := setCells_heap g [.int .i64 b] (0 + 0) w cur _ _ hg (by simp at hroom ⊢; omega)
    refine ⟨rfl, own_setCells h h2 (by omega) (by simpa using hroom) rfl ?_, kept_setCells _ _ _ _⟩
    intro j hj
    have : j = 0 := by simp at hj; omega
    subst this
    rw [h4]
    rfl
  · refine (Any2.slices_Insert_int_shift inILays g 0 xs.length cap 0 vb 0 1 vc (xs.map (Value.int .i64)) [.int .i64 b] w (by omega) (by decide) hroom hm63 hne (by simp) rfl ?_ (fun j hj => by rw [Nat.zero_add]; exact hcell j (by omega)) (fun j hj => hfz _) hvs ?_ h1v 3 3 1 cap ?_ ?_ (by omega) (by simp [World.frozen?, hv]) (by simp [World.frozen?, hv])).mono ?_
    · intro j v hj
      have hj2 : j < xs.length := by
        have := (List.getElem?_eq_some_iff.1 hj).1
        simpa using this
      rw [Nat.zero_add, h.cellAt j (by omega)]
      exact hj
    · intro v hv
      obtain ⟨x, _, rfl⟩ := List.mem_map.1 hv
      rfl
    · simp [World.shape?, hv]
    · simp [World.shape?, hg, hcs]
    · rintro e w' ⟨rfl, rfl⟩
      have hg1 : w.drew.heap[g]? = some (.cells cur 3 (0, 0)) := hg
      obtain ⟨cur1, h2, h3, h4⟩ := setCells_heap g ((xs.map (Value.int .i64)).drop 0) (0 + (0 + 1)) w.drew cur _ _ hg1 (by simp; omega)
      obtain ⟨cur2, h5, h6, h7⟩ := setCells_heap g [.int .i64 b] (0 + 0) _ cur1 _ _ h2 (by simp; omega)
      refine ⟨rfl, own_setCells h h5 (by omega) hroom (by simp) ?_, ?_⟩
      · intro j hj
        rw [h7, h4]
        rcases j with _ | j
        · simp
        · rw [if_neg (by simp), if_pos (by simp; omega)]
          simp
      · exact ((Kept.refl (fun k => k = g) w).drew.trans (kept_setCells g _ _ w.drew)).trans (kept_setCells g _ _ _)
end Go.Proofs.YtimdedkejadnfaaGreatDoor
