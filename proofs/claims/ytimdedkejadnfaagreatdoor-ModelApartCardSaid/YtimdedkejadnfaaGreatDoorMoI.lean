/-
  How a model's ghost turns where its own cells, a node or an entry turn; where a node or an entry is made. No condition.
-/
import Derived.Test.YtimdedkejadnfaaGreatDoorMoH
namespace Go.Proofs.YtimdedkejadnfaaGreatDoor
open Go.RowKit Go.Colm Go.Maps
set_option linter.unusedVariables false
set_option linter.unusedSimpArgs false
set_option linter.unusedSectionVars false

theorem Roles.grow {L : Lay} {M : Mod} (h : Roles L M) (G' : Nat → Option Role) (hG : ∀ k r, L.G k = some r → G' k = some r) : Roles { L with G := G' } M :=
  ⟨hG _ _ h.x, hG _ _ h.s, hG _ _ h.nm, hG _ _ h.em, fun k e => hG _ _ (h.ring k e), fun i b hi hb => hG _ _ (h.live i b hi hb), fun i k hi hb => hG _ _ (h.free i k hi hb), fun i hi => hG _ _ (h.node i hi), fun i hi => hG _ _ (h.ent i hi), hG _ _ h.sizes, hG _ _ h.maxl⟩

/-- The model's own cells turn, and its ring. -/
theorem Has.setX {L : Lay} {M : Mod} {w w' : World} {S : Nat → Prop} (h : Has L M w) (rv' : Value) (G' : Nat → Option Role) (ring' : List Nat) (broom' : Option Nat) (now' ev' ex' mo' le' : Nat) (hk : Kept S w w')
    (hS : ∀ k r, S k → L.G k = some r → r = .x ∨ r = .ring) (hG : ∀ k r, L.G k = some r → G' k = some r) (hd : ∀ k, G' k ≠ none → k < w'.heap.size) (hrv : ∀ k, rv'.ownBlock = some k → G' k = some .ring)
    (hx : Whole w' L.xb 65 (modC { L with rv := rv', G := G' } { M with ring := ring', broom := broom', now := now', evicted := ev', expired := ex', moved := mo', lent := le' }))
    (hring : w'.ownsRow 0 63 1 rv' ring'.length (ring'.map fun i => ptrE L (some i))) :
    Has { L with rv := rv', G := G' } { M with ring := ring', broom := broom', now := now', evicted := ev', expired := ex', moved := mo', lent := le' } w' := by
  have hR := h.roles
  refine h.turn hk (fun r => r = .x ∨ r = .ring) hS ?_ hd ?_ ?_
  · have := hR.grow G' hG
    exact ⟨this.x, this.s, this.nm, this.em, hrv, this.live, this.free, this.node, this.ent, this.sizes, this.maxl⟩
  · intro r hr hc
    cases r with
    | glob => exact hc
    | x => exact absurd (.inl rfl) hr
    | s => exact hc
    | nm => exact hc
    | em => exact hc
    | ring => exact absurd (.inr rfl) hr
    | live j => exact hc
    | free j => exact hc
    | node j => exact hc
    | ent j => exact hc
    | recs =>
      intro j d hd'
      obtain ⟨A, c, e, h1⟩ := hc j d hd'
      exact ⟨A, c, e, h1.mono fun k hk' => hG _ _ hk'⟩
  · rintro r (rfl | rfl)
    · exact hx
    · exact hring

/-- A node turns. -/
theorem Has.setNode {L : Lay} {M : Mod} {w w' : World} (h : Has L M w) {i : Nat} (hi : i < M.ntab.length) (d' : Nod) (hk : Kept (fun k => k = L.nb i) w w') (hx : Whole w' (L.nb i) 78 (nodC L d')) :
    Has L { M with ntab := M.ntab.set i d' } w' := by
  have hR := h.roles
  refine h.turn hk (fun r => r = .node i) ?_ ?_ (fun k hk' => Nat.lt_of_lt_of_le (h.dom k hk') hk.size) ?_ ?_
  · rintro k r rfl hr
    rw [hR.node i hi] at hr
    exact (Option.some.inj hr).symm
  · exact ⟨hR.x, hR.s, hR.nm, hR.em, hR.ring, hR.live, hR.free, fun j hj => hR.node j (by simpa using hj), hR.ent, hR.sizes, hR.maxl⟩
  · intro r hr hc
    cases r with
    | node j =>
      intro d hd
      have e : j ≠ i := fun e => hr (by rw [e])
      simp only at hd
      rw [List.getElem?_set_ne (Ne.symm e)] at hd
      exact hc d hd
    | _ => exact hc
  · rintro r rfl
    intro d hd
    simp only at hd
    rw [List.getElem?_set_self hi, Option.some.injEq] at hd
    subst hd
    exact hx
/-- An entry turns; its records stay. -/
theorem Has.setEnt {L : Lay} {M : Mod} {w w' : World} (h : Has L M w) {i : Nat} {d : Ent} (hi : M.etab[i]? = some d) (d' : Ent) (hrec : d'.recs = d.recs) (hk : Kept (fun k => k = L.eb i) w w') (hx : Whole w' (L.eb i) 95 (entC L i d')) :
    Has L { M with etab := M.etab.set i d' } w' := by
  have hR := h.roles
  have hil := (List.getElem?_eq_some_iff.1 hi).1
  refine h.turn hk (fun r => r = .ent i) ?_ ?_ (fun k hk' => Nat.lt_of_lt_of_le (h.dom k hk') hk.size) ?_ ?_
  · rintro k r rfl hr
    rw [hR.ent i hil] at hr
    exact (Option.some.inj hr).symm
  · exact ⟨hR.x, hR.s, hR.nm, hR.em, hR.ring, hR.live, hR.free, hR.node, fun j hj => hR.ent j (by simpa using hj), hR.sizes, hR.maxl⟩
  · intro r hr hc
    cases r with
    | ent j =>
      intro d hd
      have e : j ≠ i := fun e => hr (by rw [e])
      simp only at hd
      rw [List.getElem?_set_ne (Ne.symm e)] at hd
      exact hc d hd
    | recs =>
      intro j d2 hd
      simp only at hd
      by_cases e : j = i
      · subst e
        rw [List.getElem?_set_self hil, Option.some.injEq] at hd
        subst hd
        rw [hrec]
        exact hc j d hi
      · rw [List.getElem?_set_ne (Ne.symm e)] at hd
        exact hc j d2 hd
    | _ => exact hc
  · rintro r rfl
    intro d hd
    simp only at hd
    rw [List.getElem?_set_self hil, Option.some.injEq] at hd
    subst hd
    exact hx
/-- The map of nodes turns. -/
theorem Has.setNodes {L : Lay} {M : Mod} {w w' : World} (h : Has L M w) (l' : List (List UInt8 × Nat)) (hk : Kept (fun k => k = L.nm) w w') (hx : OwnL w' Tryz.prog 9 L.nm (nodesV L l')) :
    Has L { M with nodes := l' } w' := by
  have hR := h.roles
  refine h.turn hk (fun r => r = .nm) ?_ ⟨hR.x, hR.s, hR.nm, hR.em, hR.ring, hR.live, hR.free, hR.node, hR.ent, hR.sizes, hR.maxl⟩ (fun k hk' => Nat.lt_of_lt_of_le (h.dom k hk') hk.size) ?_ ?_
  · rintro k r rfl hr
    rw [hR.nm] at hr
    exact (Option.some.inj hr).symm
  · intro r hr hc
    cases r with
    | nm => exact absurd rfl hr
    | _ => exact hc
  · rintro r rfl
    exact hx
theorem Has.setEnts {L : Lay} {M : Mod} {w w' : World} (h : Has L M w) (l' : List ((List UInt8 × Nat) × Nat)) (hk : Kept (fun k => k = L.em) w w') (hx : OwnL w' Tryz.prog 34 L.em (entsV L l')) :
    Has L { M with ents := l' } w' := by
  have hR := h.roles
  refine h.turn hk (fun r => r = .em) ?_ ⟨hR.x, hR.s, hR.nm, hR.em, hR.ring, hR.live, hR.free, hR.node, hR.ent, hR.sizes, hR.maxl⟩ (fun k hk' => Nat.lt_of_lt_of_le (h.dom k hk') hk.size) ?_ ?_
  · rintro k r rfl hr
    rw [hR.em] at hr
    exact (Option.some.inj hr).symm
  · intro r hr hc
    cases r with
    | em => exact absurd rfl hr
    | _ => exact hc
  · rintro r rfl
    exact hx

/-- All numbers of nodes and entries are of the tables. -/
structure Valid (M : Mod) : Prop where
  nodes : ∀ p ∈ M.nodes, p.2 < M.ntab.length
  parents : ∀ d ∈ M.ntab, ∀ i, d.parent = some i → i < M.ntab.length
  enodes : ∀ d ∈ M.etab, ∀ i, d.node = some i → i < M.ntab.length
  heldN : ∀ p ∈ M.parts, ∀ q ∈ p.live, ∀ i, q.2 = .nod i → i < M.ntab.length
  heldE : ∀ p ∈ M.parts, ∀ q ∈ p.live, ∀ i, q.2 = .ent i → i < M.etab.length
  ring : ∀ i ∈ M.ring, i < M.etab.length
  broom : ∀ i, M.broom = some i → i < M.etab.length
  ents : ∀ p ∈ M.ents, p.2 < M.etab.length

theorem ptrN_upd {L : Lay} {n b : Nat} {G' : Nat → Option Role} {o : Option Nat} (h : ∀ i, o = some i → i < n) : ptrN { L with nb := upd L.nb n b, G := G' } o = ptrN L o := by
  cases o with
  | none => rfl
  | some i =>
    have : i ≠ n := by have := h i rfl; omega
    simp [ptrN, upd_other _ _ this]
theorem ptrE_upd {L : Lay} {n b : Nat} {rc : Nat → Value} {G' : Nat → Option Role} {o : Option Nat} (h : ∀ i, o = some i → i < n) : ptrE { L with eb := upd L.eb n b, rcs := rc, G := G' } o = ptrE L o := by
  cases o with
  | none => rfl
  | some i =>
    have : i ≠ n := by have := h i rfl; omega
    simp [ptrE, upd_other _ _ this]

/-- A node is made: in a new block. -/
theorem Has.newNode {L : Lay} {M : Mod} {w w' : World} (h : Has L M w) (hv : Valid M) (d : Nod) (b : Nat) (hb : w.heap.size ≤ b) (hb' : b < w'.heap.size) (hp : ∀ i, d.parent = some i → i < M.ntab.length) (hk : Below w.heap.size w w') (hx : Whole w' b 78 (nodC L d)) :
    Has { L with nb := upd L.nb M.ntab.length b, G := upd L.G b (some (.node M.ntab.length)) } { M with ntab := M.ntab ++ [d] } w' := by
  have hR := h.roles
  have hG : ∀ k r, L.G k = some r → upd L.G b (some (.node M.ntab.length)) k = some r := fun k r hr => by
    have := h.dom k (by rw [hr]; simp)
    rw [upd_other _ _ (by omega)]
    exact hr
  have hg := hR.grow _ hG
  refine h.turn (Kept.below hk fun _ => False) (fun r => r = .node M.ntab.length) (fun k r hS _ => hS.elim) ?_ ?_ ?_ ?_
  · refine ⟨hg.x, hg.s, hg.nm, hg.em, hg.ring, hg.live, hg.free, fun j hj => ?_, hg.ent, hg.sizes, hg.maxl⟩
    simp only [List.length_append, List.length_singleton] at hj
    by_cases e : j = M.ntab.length
    · subst e
      simp only [upd_same]
    · simp only [upd_other _ _ e]
      exact hG _ _ (hR.node j (by omega))
  · intro k hk'
    by_cases e : k = b
    · omega
    · simp only [upd_other _ _ e] at hk'
      have := h.dom k hk'
      have := hk.size
      omega
  · intro r hr hc
    cases r with
    | glob => exact hc
    | x => exact hc
    | s => exact hc
    | nm =>
      have e : nodesV { L with nb := upd L.nb M.ntab.length b, G := upd L.G b (some (.node M.ntab.length)) } M.nodes = nodesV L M.nodes := List.map_congr_left fun p hp => by
        rw [ptrN_upd fun i hi => by cases hi; exact hv.nodes p hp]
      show OwnL _ _ _ _ (nodesV _ _)
      rw [e]
      exact hc
    | em => exact hc
    | ring => exact hc
    | live j =>
      intro p lb hp hlb
      have e : liveV { L with nb := upd L.nb M.ntab.length b, G := upd L.G b (some (.node M.ntab.length)) } p.live = liveV L p.live := List.map_congr_left fun q hq => by
        obtain ⟨q1, q2⟩ := q
        cases q2 with
        | blank => rfl
        | ent i => rfl
        | nod i => simp only [hldV]; rw [ptrN_upd fun i' hi => by cases hi; exact hv.heldN p (List.mem_of_getElem? hp) _ hq i rfl]
      rw [e]
      exact hc p lb hp hlb
    | free j => exact hc
    | node j =>
      intro d2 hd
      have e : j ≠ M.ntab.length := fun e => hr (by rw [e])
      simp only at hd
      have hj : j < M.ntab.length := by
        have := (List.getElem?_eq_some_iff.1 hd).1
        simp at this
        omega
      rw [List.getElem?_append_left hj] at hd
      have := hc d2 hd
      simp only [upd_other _ _ e, nodC]
      rw [ptrN_upd fun i hi => hv.parents d2 (List.mem_of_getElem? hd) i hi]
      exact this
    | ent j =>
      intro d2 hd
      have := hc d2 hd
      simp only [entC]
      rw [ptrN_upd fun i hi => hv.enodes d2 (List.mem_of_getElem? hd) i hi]
      exact this
    | recs =>
      intro j d hd'
      obtain ⟨A, c, e, h1⟩ := hc j d hd'
      exact ⟨A, c, e, h1.mono fun k hk' => hG _ _ hk'⟩
  · rintro r rfl
    intro d2 hd
    simp only at hd
    rw [List.getElem?_append_right (Nat.le_refl _), Nat.sub_self, List.getElem?_cons_zero, Option.some.injEq] at hd
    subst hd
    simp only [upd_same, nodC]
    rw [ptrN_upd hp]
    exact hx

/-- An entry is made: in a new block, and its records in new blocks. -/
theorem Has.newEnt {L : Lay} {M : Mod} {w w' : World} (h : Has L M w) (hv : Valid M) (d : Ent) (b B2 : Nat) (rv : Value) (A : Option Addr) (c : Nat) (hB : w.heap.size ≤ B2) (hb : B2 ≤ b) (hb' : b < w'.heap.size) (hn : ∀ i, d.node = some i → i < M.ntab.length)
    (erv : rv = .slice A d.recs.length c) (hrec : RecAt (fun k => w.heap.size ≤ k ∧ k < B2) w' A d.recs) (hk : Below w.heap.size w w') (hx : Whole w' b 95 (entC { L with rcs := upd L.rcs M.etab.length rv } M.etab.length d)) :
    Has { L with eb := upd L.eb M.etab.length b, rcs := upd L.rcs M.etab.length rv, G := fun k => if k = b then some (.ent M.etab.length) else if w.heap.size ≤ k ∧ k < B2 then some .recs else L.G k } { M with etab := M.etab ++ [d] } w' := by
  have hR := h.roles
  obtain ⟨G', hG'⟩ : ∃ G' : Nat → Option Role, G' = fun k => if k = b then some (.ent M.etab.length) else if w.heap.size ≤ k ∧ k < B2 then some .recs else L.G k := ⟨_, rfl⟩
  rw [← hG']
  have hG : ∀ k r, L.G k = some r → G' k = some r := fun k r hr => by
    have := h.dom k (by rw [hr]; simp)
    rw [hG']
    simp only
    rw [if_neg (by omega), if_neg (by omega)]
    exact hr
  have hg := hR.grow _ hG
  refine h.turn (Kept.below hk fun _ => False) (fun r => r = .ent M.etab.length ∨ r = .recs) (fun k r hS _ => hS.elim) ?_ ?_ ?_ ?_
  · refine ⟨hg.x, hg.s, hg.nm, hg.em, hg.ring, hg.live, hg.free, hg.node, fun j hj => ?_, hg.sizes, hg.maxl⟩
    simp only [List.length_append, List.length_singleton] at hj
    by_cases e : j = M.etab.length
    · subst e
      simp only [upd_same, hG', if_true]
    · simp only [upd_other _ _ e]
      exact hG _ _ (hR.ent j (by omega))
  · intro k hk'
    have := hk.size
    simp only [hG'] at hk'
    by_cases e : k = b
    · omega
    · rw [if_neg e] at hk'
      by_cases e2 : w.heap.size ≤ k ∧ k < B2
      · omega
      · rw [if_neg e2] at hk'
        have := h.dom k hk'
        omega
  · intro r hr hc
    cases r with
    | glob => exact hc
    | x =>
      have e : modC { L with eb := upd L.eb M.etab.length b, rcs := upd L.rcs M.etab.length rv, G := G' } { M with etab := M.etab ++ [d] } = modC L M := by
        simp only [modC]
        rw [ptrE_upd fun i hi => hv.broom i hi]
      show Whole w' L.xb _ (modC _ _)
      rw [e]
      exact hc
    | s => exact hc
    | nm => exact hc
    | em =>
      have e : entsV { L with eb := upd L.eb M.etab.length b, rcs := upd L.rcs M.etab.length rv, G := G' } M.ents = entsV L M.ents := List.map_congr_left fun p hp => by
        rw [ptrE_upd fun i hi => by cases hi; exact hv.ents p hp]
      show OwnL _ _ _ _ (entsV _ _)
      rw [e]
      exact hc
    | ring =>
      have e : (M.ring.map fun i => ptrE { L with eb := upd L.eb M.etab.length b, rcs := upd L.rcs M.etab.length rv, G := G' } (some i)) = M.ring.map fun i => ptrE L (some i) := List.map_congr_left fun i hi => by
        rw [ptrE_upd fun i' hi' => by cases hi'; exact hv.ring i hi]
      show World.ownsRow _ _ _ _ _ _ (M.ring.map _)
      rw [e]
      exact hc
    | live j =>
      intro p lb hp hlb
      have e : liveV { L with eb := upd L.eb M.etab.length b, rcs := upd L.rcs M.etab.length rv, G := G' } p.live = liveV L p.live := List.map_congr_left fun q hq => by
        obtain ⟨q1, q2⟩ := q
        cases q2 with
        | blank => rfl
        | ent i => simp only [hldV]; rw [ptrE_upd fun i' hi => by cases hi; exact hv.heldE p (List.mem_of_getElem? hp) _ hq i rfl]
        | nod i => rfl
      rw [e]
      exact hc p lb hp hlb
    | free j => exact hc
    | node j => exact hc
    | ent j =>
      intro d2 hd
      have e : j ≠ M.etab.length := fun e => hr (.inl (by rw [e]))
      simp only at hd
      have hj : j < M.etab.length := by
        have := (List.getElem?_eq_some_iff.1 hd).1
        simp at this
        omega
      rw [List.getElem?_append_left hj] at hd
      have := hc d2 hd
      simp only [upd_other _ _ e, entC]
      exact this
    | recs => exact absurd (.inr rfl) hr
  · rintro r (rfl | rfl)
    · intro d2 hd
      simp only at hd
      rw [List.getElem?_append_right (Nat.le_refl _), Nat.sub_self, List.getElem?_cons_zero, Option.some.injEq] at hd
      subst hd
      simp only [upd_same]
      exact hx
    · intro j d2 hd
      simp only at hd
      by_cases e : j = M.etab.length
      · subst e
        rw [List.getElem?_append_right (Nat.le_refl _), Nat.sub_self, List.getElem?_cons_zero, Option.some.injEq] at hd
        subst hd
        simp only [upd_same]
        refine ⟨A, c, erv, hrec.mono fun k hk' => ?_⟩
        simp only [hG']
        rw [if_neg (by omega), if_pos hk']
      · have hj : j < M.etab.length := by
          have := (List.getElem?_eq_some_iff.1 hd).1
          simp at this
          omega
        rw [List.getElem?_append_left hj] at hd
        obtain ⟨A2, c2, e2, h1⟩ := h.comp .recs j d2 hd
        simp only [upd_other _ _ e]
        exact ⟨A2, c2, e2, (h1.below hk).mono fun k hk' => hG _ _ hk'⟩
end Go.Proofs.YtimdedkejadnfaaGreatDoor
