/-
  Words for memory of the proofs over layer lend: a block known whole; what is kept but for some blocks. Over any program. No condition.
-/
import Derived.Test.YtimdedkejadnfaaGreatDoorMem
import Derived.Laws.OwnMore
import Derived.Laws.Rows
namespace Go.Colm
open Go.RowKit

/-- Block g is just these cells, none of them frozen. -/
def Whole (w : World) (g : Nat) (t : TypeId) (cs : Array Value) : Prop := w.heap[g]? = some (.cells cs t (0, 0))
section
variable {w w' : World} {g : Nat} {t : TypeId} {cs : Array Value}
theorem Whole.lt (h : Whole w g t cs) : g < w.heap.size := by
  rcases Nat.lt_or_ge g w.heap.size with h' | h'
  · exact h'
  · unfold Whole at h
    rw [Array.getElem?_eq_none h'] at h
    cases h
theorem Whole.cell (h : Whole w g t cs) (i : Nat) : w.cell? ⟨g, i, none⟩ = cs[i]? := by
  unfold Whole at h
  simp [World.cell?, h]
theorem Whole.frozen (h : Whole w g t cs) (i : Nat) : w.frozen? ⟨g, i, none⟩ = false := by
  unfold Whole at h
  simp [World.frozen?, h]
theorem Whole.new (w : World) (t : TypeId) (cs : Array Value) : Whole (w.alloc (.cells cs t)) w.heap.size t cs := heap_alloc_new w _
theorem Whole.put (h : Whole w g t cs) (i : Nat) (u : Value) : Whole (w.setCell ⟨g, i, none⟩ u) g t (cs.setIfInBounds i u) := by
  unfold Whole at h ⊢
  simp [World.setCell, Array.getElem?_modify, h]
end

/-- What was there is there, but for the blocks of S. -/
structure Kept (S : Nat → Prop) (w w' : World) : Prop where
  os : w'.os = w.os
  tape : w'.tape = w.tape
  output : w'.output = w.output
  size : w.heap.size ≤ w'.heap.size
  block : ∀ k, k < w.heap.size → ¬ S k → w'.heap[k]? = w.heap[k]?
section
variable {S S' : Nat → Prop} {w w' w'' : World}
theorem Kept.refl (S : Nat → Prop) (w : World) : Kept S w w := ⟨rfl, rfl, rfl, Nat.le_refl _, fun _ _ _ => rfl⟩
theorem Kept.trans (h : Kept S w w') (k : Kept S w' w'') : Kept S w w'' :=
  ⟨k.os.trans h.os, k.tape.trans h.tape, k.output.trans h.output, Nat.le_trans h.size k.size, fun i hi hs => (k.block i (Nat.lt_of_lt_of_le hi h.size) hs).trans (h.block i hi hs)⟩
theorem Kept.mono (h : Kept S w w') (hs : ∀ k, k < w.heap.size → S k → S' k) : Kept S' w w' := ⟨h.os, h.tape, h.output, h.size, fun k hk hn => h.block k hk fun e => hn (hs k hk e)⟩
theorem Kept.drewN (h : Kept S w w') (n : Nat) : Kept S w (w'.drewN n) := ⟨h.os, h.tape, h.output, h.size, h.block⟩
theorem Kept.drew (h : Kept S w w') : Kept S w w'.drew := ⟨h.os, h.tape, h.output, h.size, h.block⟩
theorem Kept.alloc (h : Kept S w w') (o : Obj) : Kept S w (w'.alloc o) :=
  ⟨h.os, h.tape, h.output, Nat.le_trans h.size (by simp), fun i hi hs => (Below.heap_alloc w' o i (Nat.lt_of_lt_of_le hi h.size)).trans (h.block i hi hs)⟩
theorem Kept.setCell (h : Kept S w w') {p : Addr} (hp : S p.block ∨ w.heap.size ≤ p.block) (u : Value) : Kept S w (w'.setCell p u) :=
  ⟨h.os, h.tape, h.output, by simpa [World.setCell] using h.size, fun i hi hs => (Below.heap_setCell w' p u i (by
    rintro rfl
    rcases hp with hp | hp
    · exact hs hp
    · omega)).trans (h.block i hi hs)⟩
theorem Kept.below (h : Below w.heap.size w w') (S : Nat → Prop) : Kept S w w' := ⟨h.os, h.tape, h.output, h.size, fun k hk _ => h.block k hk⟩
theorem Kept.to_below {B : Nat} (h : Kept S w w') (hB : B ≤ w.heap.size) (hs : ∀ k, k < B → ¬ S k) : Below B w w' := ⟨h.os, h.tape, h.output, h.size, fun k hk => h.block k (by omega) (hs k hk)⟩
theorem Kept.grown {row : Option Nat} (h : w.grownBy w' row) : Kept (fun k => row = some k) w w' := ⟨h.os, h.tape, h.output, h.size, fun k hk hn => h.block k hk fun e => hn e.symm⟩
theorem Kept.whole {g : Nat} {t : TypeId} {cs : Array Value} (h : Kept S w w') (hg : Whole w g t cs) (hs : ¬ S g) : Whole w' g t cs := (h.block g hg.lt hs).trans hg
theorem Kept.cell (h : Kept S w w') {p : Addr} {v : Value} (hc : w.cell? p = some v) (hs : ¬ S p.block) : w'.cell? p = some v := by
  rw [World.cell?_of_block (w := w) (h.block p.block (lt_of_cell hc) hs)]
  exact hc
end

/-- A row of cells whose block is of the type t. -/
def RowT (w : World) (t : TypeId) (A : Option Addr) (vs : List Value) : Prop :=
  ∀ i v, vs[i]? = some v → ∃ b off cs fz, A = some ⟨b, off, none⟩ ∧ w.heap[b]? = some (.cells cs t fz) ∧ cs[off + i]? = some v
theorem RowT.nil (w : World) (t : TypeId) (A : Option Addr) : RowT w t A [] := fun i v h => by simp at h
theorem RowT.row {w : World} {t : TypeId} {A : Option Addr} {vs : List Value} (h : RowT w t A vs) : RowV w A vs := fun i v hv => by
  obtain ⟨b, off, cs, fz, e, hh, hc⟩ := h i v hv
  exact ⟨b, off, e, by simp [World.cell?, hh, hc]⟩
theorem RowT.below {w w' : World} {t : TypeId} {A : Option Addr} {vs : List Value} (h : RowT w t A vs) (hb : Below w.heap.size w w') : RowT w' t A vs := fun i v hv => by
  obtain ⟨b, off, cs, fz, e, hh, hc⟩ := h i v hv
  exact ⟨b, off, cs, fz, e, (hb.block b (Array.getElem?_eq_some_iff.1 hh).1).trans hh, hc⟩
theorem RowT.drewN {w : World} {t : TypeId} {A : Option Addr} {vs : List Value} (h : RowT w t A vs) (n : Nat) : RowT (w.drewN n) t A vs := h
theorem RowT.alloc {w : World} {t : TypeId} {A : Option Addr} {vs : List Value} (h : RowT w t A vs) (o : Obj) : RowT (w.alloc o) t A vs := h.below ((Below.refl _ w).alloc (Nat.le_refl _) o)
theorem RowT.kept {S : Nat → Prop} {w w' : World} {t : TypeId} {A : Option Addr} {vs : List Value} (h : RowT w t A vs) (hk : Kept S w w') (hs : ∀ k cs fz, w.heap[k]? = some (.cells cs t fz) → ¬ S k) : RowT w' t A vs := fun i v hv => by
  obtain ⟨b, off, cs, fz, e, hh, hc⟩ := h i v hv
  exact ⟨b, off, cs, fz, e, (hk.block b (Array.getElem?_eq_some_iff.1 hh).1 (hs b cs fz hh)).trans hh, hc⟩
theorem own_cap {w : World} {base : Nat} {e : TypeId} {v : Value} {n : Nat} {xs : List Value} (h : w.ownsRow base e 1 v n xs) : ∃ A c, v = .slice A n c ∧ n ≤ c ∧ RowT w e A xs := by
  rcases h with ⟨hl, h⟩
  rcases h with ⟨rfl, rfl⟩ | ⟨g, cap, cur, rfl, _, hg, hn, _, hcs, ht⟩
  · have : xs = [] := List.eq_nil_of_length_eq_zero (by simpa using hl)
    subst this
    exact ⟨none, 0, rfl, Nat.le_refl _, fun i v hv => by simp at hv⟩
  · refine ⟨_, cap, rfl, hn, fun i v hv => ⟨g, 0, _, _, rfl, hg, ?_⟩⟩
    have hi : i < xs.length := (List.getElem?_eq_some_iff.1 hv).1
    rw [← ht, List.getElem?_take_of_lt (by omega)] at hv
    simpa using hv
theorem own_rowT {w : World} {base : Nat} {e : TypeId} {v : Value} {n : Nat} {xs : List Value} (h : w.ownsRow base e 1 v n xs) : ∃ A c, v = .slice A n c ∧ RowT w e A xs := by
  obtain ⟨A, c, e, _, hr⟩ := own_cap h
  exact ⟨A, c, e, hr⟩
end Go.Colm
