/-
  Words for memory of wire's packer: what is kept while it lays names; its bytes and its map. No condition.
-/
import Derived.Test.YtfnpjcfaabbejaaWireT
import Derived.Maps.OwnSet
import Derived.Maps.Views
namespace Go.Proofs.Ytfnpjcfaabbejaa
open Go.RowKit Go.Foldp Go.Colm Go.Wirep Go.Maps
set_option linter.unusedVariables false

/-- All is kept but for rows of bytes, packers and maps from block B on. -/
structure KeptT (B : Nat) (w w' : World) : Prop where
  os : w'.os = w.os
  tape : w'.tape = w.tape
  output : w'.output = w.output
  size : w.heap.size ≤ w'.heap.size
  block : ∀ k o, w.heap[k]? = some o → (k < B ∨ ∃ cs t fz, o = .cells cs t fz ∧ t ≠ 5 ∧ t ≠ 59) → w'.heap[k]? = some o
theorem lt_of_obj {w : World} {k : Nat} {o : Obj} (h : w.heap[k]? = some o) : k < w.heap.size := (Array.getElem?_eq_some_iff.1 h).1
section
variable {B : Nat} {w w1 w2 : World}
theorem KeptT.refl (B : Nat) (w : World) : KeptT B w w := ⟨rfl, rfl, rfl, Nat.le_refl _, fun _ _ h _ => h⟩
theorem KeptT.trans (h : KeptT B w w1) (k : KeptT B w1 w2) : KeptT B w w2 :=
  ⟨k.os.trans h.os, k.tape.trans h.tape, k.output.trans h.output, Nat.le_trans h.size k.size, fun i o ho hn => k.block i o (h.block i o ho hn) hn⟩
theorem KeptT.alloc (h : KeptT B w w1) (o : Obj) : KeptT B w (w1.alloc o) :=
  ⟨h.os, h.tape, h.output, Nat.le_trans h.size (by simp), fun k ob ho hn => by
    have h1 := h.block k ob ho hn
    rw [Below.heap_alloc w1 o k (lt_of_obj h1)]
    exact h1⟩
theorem KeptT.drewN (h : KeptT B w w1) (n : Nat) : KeptT B w (w1.drewN n) := ⟨h.os, h.tape, h.output, h.size, h.block⟩
theorem KeptT.keptU (h : KeptU B w w1) : KeptT B w w1 :=
  ⟨h.os, h.tape, h.output, h.size, fun k o ho hn => by
    rw [h.block k (lt_of_obj ho) ?_]
    · exact ho
    · rcases hn with hn | ⟨cs, t, fz, rfl, h1, _⟩
      · exact .inl hn
      · refine .inr ?_
        rintro ⟨cs', fz', e⟩
        rw [ho] at e
        cases e
        exact h1 rfl⟩
theorem KeptT.below (h : Below w.heap.size w w1) : KeptT B w w1 := KeptT.keptU (KeptU.below h)
theorem KeptT.setCell {pb i : Nat} {cs : Array Value} (h : Whole w pb 59 cs) (hB : B ≤ pb) (u : Value) : KeptT B w (w.setCell ⟨pb, i, none⟩ u) :=
  ⟨rfl, rfl, rfl, by simp [World.setCell], fun k o ho hn => by
    rw [Below.heap_setCell w _ u k ?_]
    · exact ho
    · intro e
      have e : k = pb := e
      subst e
      rcases hn with hn | ⟨cs', t, fz, rfl, _, h2⟩
      · exact absurd hn (Nat.not_lt.2 hB)
      · unfold Whole at h
        rw [h] at ho
        cases ho
        exact h2 rfl⟩
theorem KeptT.grownMap {mb : Nat} {om : Obj} (hm : w.heap[mb]? = some om) (hc : om.isCells = false) (hB : B ≤ mb) (hg : w.grownBy w1 (some mb)) : KeptT B w w1 :=
  ⟨hg.os, hg.tape, hg.output, hg.size, fun k o ho hn => by
    rw [hg.block k (lt_of_obj ho) ?_]
    · exact ho
    · intro e
      cases e
      rcases hn with hn | ⟨cs', t, fz, rfl, _, _⟩
      · exact absurd hn (Nat.not_lt.2 hB)
      · rw [hm] at ho
        cases ho
        cases hc⟩
theorem KeptT.to_below (h : KeptT B w w1) (hB : B ≤ w.heap.size) : Below B w w1 := ⟨h.os, h.tape, h.output, h.size, fun k hk => by
  have hlt : k < w.heap.size := by omega
  rw [h.block k _ (Array.getElem?_eq_getElem hlt) (.inl hk), Array.getElem?_eq_getElem hlt]⟩
theorem rowT_keptT {t : TypeId} {A : Option Addr} {vs : List Value} (h : RowT w t A vs) (hk : KeptT B w w1) (h1 : t ≠ 5) (h2 : t ≠ 59) : RowT w1 t A vs := fun i v hv => by
  obtain ⟨b, off, cs, fz, e, hh, hc⟩ := h i v hv
  exact ⟨b, off, cs, fz, e, hk.block b _ hh (.inr ⟨cs, t, fz, rfl, h1, h2⟩), hc⟩
end

/-- The map that holds where suffixes lie. -/
def datL : List (List UInt8 × Nat) → DataW Unit
  | [] => .map []
  | (k, n) :: r => (datL r).put (.string k) (.lit (.int .i64 (n : Int)))
theorem datL_map : ∀ d, IsMap (datL d)
  | [] => isMap_empty
  | (k, n) :: r => (datL_map r).put _ _
theorem datL_has (k : List UInt8) : ∀ d, Maps.has (datL d) (.string k) = (lookL k d).isSome
  | [] => rfl
  | (k', n) :: r => by
    rw [datL, lookL]
    by_cases h : k' = k
    · subst h
      rw [if_pos rfl, has_put_same (datL_map r) (by constructor)]
      rfl
    · rw [if_neg h, has_put_other (by intro e; cases e; exact h rfl), datL_has k r]
theorem datL_at (k : List UInt8) (z : DataW Unit) : ∀ d n, lookL k d = some n → (datL d).atKey (.string k) z = .lit (.int .i64 (n : Int))
  | [], n, h => by simp [lookL] at h
  | (k', m) :: r, n, h => by
    rw [lookL] at h
    by_cases e : k' = k
    · subst e
      rw [if_pos rfl] at h
      cases h
      rw [datL, atKey_put_same (datL_map r) (by constructor)]
    · rw [if_neg e] at h
      rw [datL, atKey_put_other (by intro e'; cases e'; exact e rfl), datL_at k z r n h]
theorem lookL_mem {k : List UInt8} : ∀ {d n}, lookL k d = some n → (k, n) ∈ d
  | [], n, h => by simp [lookL] at h
  | (k', m) :: r, n, h => by
    rw [lookL] at h
    by_cases e : k' = k
    · subst e
      rw [if_pos rfl] at h
      cases h
      exact List.mem_cons_self ..
    · rw [if_neg e] at h
      exact List.mem_cons_of_mem _ (lookL_mem h)

/-- The packer in memory: its bytes v, its map mb. -/
structure PackAt (pb mb B : Nat) (v : Value) (p : Packed) (w : World) : Prop where
  box : Whole w pb 59 #[v, .map (some mb)]
  row : w.ownsRow B 5 1 v p.1.length (bytesV p.1)
  map : w.ownsMap Try.prog 9 (plainElem Try.prog 3) mb p.2.length (datL p.2)
  hpb : B ≤ pb
  hmb : B ≤ mb
theorem map_kept {w w1 : World} {n mb : Nat} {D : DataW Unit} (h : w.ownsMap Try.prog 9 (plainElem Try.prog 3) mb n D) (he : w1.heap[mb]? = w.heap[mb]?) : w1.ownsMap Try.prog 9 (plainElem Try.prog 3) mb n D := by
  obtain ⟨es, ck, hb, F, hs, hD⟩ := h
  exact ⟨es, ck, he.trans hb, F, hs, hD⟩
section
variable {pb mb B : Nat} {v : Value} {p : Packed} {w w1 : World}
theorem PackAt.below (h : PackAt pb mb B v p w) (hb : Below w.heap.size w w1) : PackAt pb mb B v p w1 :=
  ⟨(Kept.below hb (fun _ => False)).whole h.box id, own_kept (Kept.below hb (fun _ => False)) h.row fun _ _ => id, map_kept h.map (hb.block mb h.map.lt), h.hpb, h.hmb⟩
theorem PackAt.drewN (h : PackAt pb mb B v p w) (n : Nat) : PackAt pb mb B v p (w.drewN n) := h.below (below_of_drewN w n)
theorem PackAt.alloc (h : PackAt pb mb B v p w) (o : Obj) : PackAt pb mb B v p (w.alloc o) := h.below ((Below.refl _ w).alloc (Nat.le_refl _) o)
/-- Other bytes, laid in a call that keeps all but rows of bytes, and stored. -/
theorem PackAt.store {v' : Value} {b' : List UInt8} (h : PackAt pb mb B v p w) (hk : KeptU B w w1) (hown : w1.ownsRow B 5 1 v' b'.length (bytesV b')) : PackAt pb mb B v' (b', p.2) (w1.setCell ⟨pb, 0, none⟩ v') ∧ KeptT B w (w1.setCell ⟨pb, 0, none⟩ v') := by
  have hx1 : Whole w1 pb 59 #[v, .map (some mb)] := hk.whole h.box (by decide)
  obtain ⟨es, ck, hm, F, hs, hD⟩ := h.map
  have hm1 : w1.heap[mb]? = some (.map es ck) := (hk.block mb h.map.lt (.inr (by
    rintro ⟨cs, fz, e⟩
    rw [hm] at e
    cases e))).trans hm
  have hne : mb ≠ pb := by
    rintro rfl
    unfold Whole at hx1
    rw [hm1] at hx1
    cases hx1
  refine ⟨⟨hx1.put 0 v', ?_, ⟨es, ck, ?_, F, hs, hD⟩, h.hpb, h.hmb⟩, (KeptT.keptU hk).trans (KeptT.setCell hx1 h.hpb v')⟩
  · have kk : Kept (fun k => k = pb) w1 (w1.setCell ⟨pb, 0, none⟩ v') := (Kept.refl (fun k => k = pb) w1).setCell (.inl rfl) _
    refine own_kept kk hown fun j hj e => ?_
    subst e
    exact Lib.ownBlock_ne hown hx1 (by decide) hj
  · rw [Below.heap_setCell w1 _ v' mb (by exact hne)]
    exact hm1
/-- One suffix more in the map. -/
theorem PackAt.put {k : List UInt8} {n : Nat} (h : PackAt pb mb B v p w) (hm : w1.ownsMap Try.prog 9 (plainElem Try.prog 3) mb (p.2.length + 1) ((datL p.2).put (.string k) (.lit (.int .i64 (n : Int))))) (hg : w.grownBy w1 (some mb)) :
    PackAt pb mb B v (p.1, (k, n) :: p.2) w1 ∧ KeptT B w w1 := by
  obtain ⟨es, ck, hm0, F, hs, hD⟩ := h.map
  have kk : Kept (fun k => (some mb : Option Nat) = some k) w w1 := Kept.grown hg
  refine ⟨⟨kk.whole h.box ?_, own_kept kk h.row fun j hj e => ?_, hm, h.hpb, h.hmb⟩, KeptT.grownMap hm0 rfl h.hmb hg⟩
  · intro e
    cases e
    have hx := h.box
    unfold Whole at hx
    rw [hm0] at hx
    cases hx
  · cases e
    rcases h.row.2 with ⟨e, _⟩ | ⟨g, cap, cur, e, _, hh, _⟩
    · subst e
      simp [Value.ownBlock] at hj
    · subst e
      have e : g = mb := by simpa [Value.ownBlock] using hj
      subst e
      rw [hm0] at hh
      cases hh
end

end Go.Proofs.Ytfnpjcfaabbejaa
