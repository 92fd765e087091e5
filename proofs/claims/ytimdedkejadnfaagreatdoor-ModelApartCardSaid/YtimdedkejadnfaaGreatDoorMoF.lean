/-
  Maps as lists of keys and values; how a model's ghost turns where a part turns. No condition.
-/
import Derived.Test.YtimdedkejadnfaaGreatDoorMoE
namespace Go.Proofs.YtimdedkejadnfaaGreatDoor
open Go.RowKit Go.Colm Go.Maps
set_option linter.unusedVariables false
set_option linter.unusedSimpArgs false
set_option linter.unusedSectionVars false

section
variable {K V : Type} [DecidableEq K]
def getA (k : K) : List (K × V) → Option V
  | [] => none
  | p :: r => if p.1 = k then some p.2 else getA k r
def putA (k : K) (v : V) : List (K × V) → List (K × V)
  | [] => [(k, v)]
  | p :: r => if p.1 = k then (k, v) :: r else p :: putA k v r
def delA (k : K) : List (K × V) → List (K × V)
  | [] => []
  | p :: r => if p.1 = k then r else p :: delA k r
theorem putA_new {k : K} {v : V} : ∀ {l : List (K × V)}, (∀ p ∈ l, p.1 ≠ k) → putA k v l = l ++ [(k, v)]
  | [], _ => rfl
  | p :: r, h => by rw [putA, if_neg (h p (by simp)), putA_new (fun q hq => h q (by simp [hq]))]; rfl
theorem delA_new {k : K} : ∀ {l : List (K × V)}, (∀ p ∈ l, p.1 ≠ k) → delA k l = l
  | [], _ => rfl
  | p :: r, h => by rw [delA, if_neg (h p (by simp)), delA_new (fun q hq => h q (by simp [hq]))]
theorem getA_new {k : K} : ∀ {l : List (K × V)}, (∀ p ∈ l, p.1 ≠ k) → getA k l = none
  | [], _ => rfl
  | p :: r, h => by rw [getA, if_neg (h p (by simp)), getA_new (fun q hq => h q (by simp [hq]))]
theorem at_old {k : K} {v v0 : V} : ∀ {l : List (K × V)} {j : Nat}, l.Pairwise (fun p q => p.1 ≠ q.1) → l[j]? = some (k, v0) → putA k v l = l.set j (k, v) ∧ delA k l = l.eraseIdx j ∧ getA k l = some v0
  | [], j, _, h => by simp at h
  | p :: r, 0, _, h => by
    simp only [List.getElem?_cons_zero, Option.some.injEq] at h
    subst h
    simp [putA, delA, getA]
  | p :: r, j + 1, hp, h => by
    simp only [List.getElem?_cons_succ] at h
    obtain ⟨hp1, hp2⟩ := List.pairwise_cons.1 hp
    have hne : p.1 ≠ k := hp1 _ (List.mem_of_getElem? h)
    obtain ⟨h1, h2, h3⟩ := at_old (v := v) hp2 h
    simp [putA, delA, getA, hne, h1, h2, h3]
variable {ek : K → Value} {ev : V → Value} (hinj : ∀ a b, ek a = ek b → a = b) {l : List (K × V)}
include hinj
theorem none_of {k : K} (h : ∀ p ∈ l.map (fun p => (ek p.1, ev p.2)), p.1 ≠ ek k) : ∀ p ∈ l, p.1 ≠ k := fun p hp e => h _ (List.mem_map.2 ⟨p, hp, rfl⟩) (by rw [e])
theorem some_of {k : K} {j : Nat} {v0 : Value} (h : (l.map (fun p => (ek p.1, ev p.2)))[j]? = some (ek k, v0)) : ∃ v, l[j]? = some (k, v) ∧ v0 = ev v := by
  rw [List.getElem?_map, Option.map_eq_some_iff] at h
  obtain ⟨⟨a, v⟩, h1, h2⟩ := h
  simp only [Prod.mk.injEq] at h2
  exact ⟨v, by rw [h1, hinj _ _ h2.1], h2.2.symm⟩
theorem apart_of (hp : (l.map (fun p => (ek p.1, ev p.2))).Pairwise fun p q => p.1 ≠ q.1) : l.Pairwise fun p q => p.1 ≠ q.1 := by
  rw [List.pairwise_map] at hp
  exact hp.imp fun h e => h (by simp only [e])
theorem lput_map {k : K} {v : V} {l' : List (Value × Value)} (hp : (l.map (fun p => (ek p.1, ev p.2))).Pairwise fun p q => p.1 ≠ q.1) (h : lput (ek k) (ev v) (l.map fun p => (ek p.1, ev p.2)) l') : l' = (putA k v l).map fun p => (ek p.1, ev p.2) := by
  rcases h with ⟨h1, rfl⟩ | ⟨j, v0, h1, rfl⟩
  · rw [putA_new (none_of hinj h1), List.map_append]
    rfl
  · obtain ⟨v1, h2, _⟩ := some_of hinj h1
    rw [(at_old (apart_of hinj hp) h2).1, List.map_set]
theorem ldel_map {k : K} {l' : List (Value × Value)} (hp : (l.map (fun p => (ek p.1, ev p.2))).Pairwise fun p q => p.1 ≠ q.1) (h : ldel (ek k) (l.map fun p => (ek p.1, ev p.2)) l') : l' = (delA k l).map fun p => (ek p.1, ev p.2) := by
  rcases h with ⟨h1, rfl⟩ | ⟨j, v0, h1, rfl⟩
  · rw [delA_new (none_of hinj h1)]
  · obtain ⟨v1, h2, _⟩ := some_of hinj h1
    rw [(at_old (v := v1) (apart_of hinj hp) h2).2.1, Go.ChangeMaps.map_eraseIdx]
theorem look_none {k : K} (h : ∀ p ∈ l.map (fun p => (ek p.1, ev p.2)), p.1 ≠ ek k) : getA k l = none := getA_new (none_of hinj h)
theorem look_some {k : K} {j : Nat} {v0 : Value} (hp : (l.map (fun p => (ek p.1, ev p.2))).Pairwise fun p q => p.1 ≠ q.1) (h : (l.map (fun p => (ek p.1, ev p.2)))[j]? = some (ek k, v0)) : ∃ v, getA k l = some v ∧ v0 = ev v := by
  obtain ⟨v1, h2, h3⟩ := some_of hinj h
  exact ⟨v1, (at_old (v := v1) (apart_of hinj hp) h2).2.2, h3⟩
end

def upd {α : Type} (f : Nat → α) (i : Nat) (v : α) : Nat → α := fun j => if j = i then v else f j
theorem upd_same {α : Type} (f : Nat → α) (i : Nat) (v : α) : upd f i v i = v := by simp [upd]
theorem upd_other {α : Type} (f : Nat → α) {i j : Nat} (v : α) (h : j ≠ i) : upd f i v j = f j := by simp [upd, h]
theorem upd_id {α : Type} (f : Nat → α) (i : Nat) : upd f i (f i) = f := by
  funext j
  by_cases h : j = i
  · subst h
    rw [upd_same]
  · rw [upd_other _ _ h]

/-- A part turns. -/
theorem Has.setPart {L : Lay} {M : Mod} {w w' : World} {S : Nat → Prop} (h : Has L M w) {i : Nat} (hi : i < M.parts.length) (p' : Part) (fv' : Value) (lm' : Option Nat) (G' : Nat → Option Role) (hk : Kept S w w')
    (hS : ∀ k r, S k → L.G k = some r → r = .s ∨ r = .live i ∨ r = .free i) (hG : ∀ k r, L.G k = some r → G' k = some r) (hd : ∀ k, G' k ≠ none → k < w'.heap.size)
    (hlm : ∀ b, lm' = some b → G' b = some (.live i)) (hfv : ∀ k, fv'.ownBlock = some k → G' k = some (.free i))
    (hs : ∀ cs, Whole w L.sb 197 cs → cs.size = M.parts.length * 3 → ∃ cs' : Array Value, Whole w' L.sb 197 cs' ∧ cs'.size = cs.size ∧ cs'[i * 3]? = some (.int .i64 (p'.cls : Int)) ∧ cs'[i * 3 + 1]? = some (.map lm') ∧ cs'[i * 3 + 2]? = some fv' ∧ ∀ j, (j < i * 3 ∨ i * 3 + 3 ≤ j) → cs'[j]? = cs[j]?)
    (hlive : ∀ b, lm' = some b → OwnL w' Tryz.prog 3 b (liveV L p'.live))
    (hfree : FreeAt { L with lm := upd L.lm i lm', fv := upd L.fv i fv', G := G' } w' i p') :
    Has { L with lm := upd L.lm i lm', fv := upd L.fv i fv', G := G' } { M with parts := M.parts.set i p' } w' := by
  have hR := h.roles
  have hother : ∀ {j : Nat} {p : Part}, j ≠ i → (M.parts.set i p')[j]? = some p → M.parts[j]? = some p := fun {j p} hj hp => by rwa [List.getElem?_set_ne (Ne.symm hj)] at hp
  have hsame : ∀ {p : Part}, (M.parts.set i p')[i]? = some p → p = p' := fun {p} hp => by
    rw [List.getElem?_set_self hi, Option.some.injEq] at hp
    exact hp.symm
  refine h.turn hk (fun r => r = .s ∨ r = .live i ∨ r = .free i) hS ?_ hd ?_ ?_
  · refine ⟨hG _ _ hR.x, hG _ _ hR.s, hG _ _ hR.nm, hG _ _ hR.em, fun k e => hG _ _ (hR.ring k e), ?_, ?_, fun j hj => hG _ _ (hR.node j hj), fun j hj => hG _ _ (hR.ent j hj), hG _ _ hR.sizes, hG _ _ hR.maxl⟩
    · intro j b hj hb
      simp only [List.length_set] at hj
      by_cases e : j = i
      · subst e
        simp only [upd_same] at hb
        exact hlm b hb
      · simp only [upd_other _ _ e] at hb
        exact hG _ _ (hR.live j b hj hb)
    · intro j k hj hb
      simp only [List.length_set] at hj
      by_cases e : j = i
      · subst e
        simp only [upd_same] at hb
        exact hfv k hb
      · simp only [upd_other _ _ e] at hb
        exact hG _ _ (hR.free j k hj hb)
  · intro r hr hc
    cases r with
    | glob => exact hc
    | x =>
      have e : modC { L with lm := upd L.lm i lm', fv := upd L.fv i fv', G := G' } { M with parts := M.parts.set i p' } = modC L M := by simp [modC, ptrE]
      show Whole w' L.xb _ (modC _ _)
      rw [e]
      exact hc
    | s => exact absurd (.inl rfl) hr
    | nm => exact hc
    | em => exact hc
    | ring => exact hc
    | live j =>
      have e : j ≠ i := fun e => hr (.inr (.inl (by rw [e])))
      intro p b hp hb
      simp only [upd_other _ _ e] at hb
      exact hc p b (hother e hp) hb
    | free j =>
      have e : j ≠ i := fun e => hr (.inr (.inr (by rw [e])))
      intro p hp
      have := hc p (hother e hp)
      simp only [FreeAt, upd_other _ _ e]
      exact this
    | node j => exact hc
    | ent j => exact hc
    | recs =>
      intro j d hd'
      obtain ⟨A, c, e, h1⟩ := hc j d hd'
      exact ⟨A, c, e, h1.mono fun k hk' => hG _ _ hk'⟩
  · rintro r (rfl | rfl | rfl)
    · obtain ⟨cs, h1, h2, h3⟩ : PartsAt L M w := h.comp .s
      obtain ⟨cs', a1, a2, a3, a4, a5, a6⟩ := hs cs h1 h2
      refine ⟨cs', a1, by simp only [List.length_set]; omega, fun j p hp => ?_⟩
      by_cases e : j = i
      · subst e
        obtain rfl := hsame hp
        simp only [upd_same]
        exact ⟨a3, a4, a5⟩
      · have := h3 j p (hother e hp)
        simp only [upd_other _ _ e]
        rw [a6 (j * 3) (by omega), a6 (j * 3 + 1) (by omega), a6 (j * 3 + 2) (by omega)]
        exact this
    · intro p b hp hb
      obtain rfl := hsame hp
      simp only [upd_same] at hb
      exact hlive b hb
    · intro p hp
      obtain rfl := hsame hp
      exact hfree
end Go.Proofs.YtimdedkejadnfaaGreatDoor
