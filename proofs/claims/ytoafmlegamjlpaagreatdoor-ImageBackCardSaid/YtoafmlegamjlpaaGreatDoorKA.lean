/-
  Words for memory of these proofs: a slice value that reads as a list of one-cell values. Over any program. No condition.
  Words for memory of the proofs over layer lend: a block known whole; what is kept but for some blocks. Over any program. No condition.
  A cache's memory in plain Lean: bytes by their places, the kinds of its grains, and what reading and writing them is. No program in sight. No condition.
  A map in memory as the list of its keys and values, in whatever types: looked up, written, deleted. Over any program. No condition.
  The walks of layer class: Blocks, Of, Entry, Node. No condition but the table of sizes.
  Words for rows of one's own: they stay while others turn. Over any program. No condition.
  The walk of bytes.Clone: a copy of one's own. No condition but its length.
-/
import Derived.WalkKit
import Derived.Deep.Draws
import Derived.Laws.BytesArg
import Derived.Lib.ConvBytes
import Derived.Lib.SlBytesConst
import Derived.Lib.Hide
import Derived.Laws.OwnMore
import Derived.Laws.Rows
import Derived.Maps.OwnSet
import Derived.Test.YtoafmlegamjlpaaGreatDoorProg
import Derived.WalkSpells
import Derived.BigQuiet
import Derived.Deep.QuietTactic
import Derived.RegionTactic
import Derived.Lib.LaidTab
import Derived.Lib.Builder
import Derived.OwnWalk
import Derived.Lib.SlSplitV
import Derived.Lib.SliceRun
namespace Go.Colm
open Go.RowKit

theorem lt_of_cell {w : World} {a : Addr} {v : Value} (h : w.cell? a = some v) : a.block < w.heap.size := by
  rcases Nat.lt_or_ge a.block w.heap.size with h' | h'
  · exact h'
  · simp [World.cell?, Array.getElem?_eq_none h'] at h

/-- The slice at A begins with the cells vs (nothing is said of A where vs is empty). -/
def RowV (w : World) (A : Option Addr) (vs : List Value) : Prop :=
  ∀ i v, vs[i]? = some v → ∃ b off, A = some ⟨b, off, none⟩ ∧ w.cell? ⟨b, off + i, none⟩ = some v

theorem RowV.nil (w : World) (A : Option Addr) : RowV w A [] := fun i v h => by simp at h
theorem RowV.keep {w w' : World} {A : Option Addr} {vs : List Value} (h : RowV w A vs) (hk : ∀ p : Addr, p.block < w.heap.size → w'.cell? p = w.cell? p) : RowV w' A vs := fun i v hv => by
  obtain ⟨b, off, e, hc⟩ := h i v hv
  exact ⟨b, off, e, (hk _ (lt_of_cell hc)).trans hc⟩
theorem RowV.below {w w' : World} {A : Option Addr} {vs : List Value} (h : RowV w A vs) (hb : Below w.heap.size w w') : RowV w' A vs := h.keep fun _ hp => hb.cell hp
theorem RowV.drewN {w : World} {A : Option Addr} {vs : List Value} (h : RowV w A vs) (n : Nat) : RowV (w.drewN n) A vs := h
theorem RowV.alloc {w : World} {A : Option Addr} {vs : List Value} (h : RowV w A vs) (o : Obj) : RowV (w.alloc o) A vs := h.keep fun p hp => World.cell?_alloc_lt w o p hp

def bytesV (l : List UInt8) : List Value := l.map fun b => .int .u8 (b.toNat : Int)
theorem bytesV_length (l : List UInt8) : (bytesV l).length = l.length := by simp [bytesV]
theorem RowV.byte {w : World} {A : Option Addr} {l : List UInt8} (h : RowV w A (bytesV l)) {k : Nat} (hk : k < l.length) :
    ∃ b off, A = some ⟨b, off, none⟩ ∧ w.cell? ⟨b, off + k, none⟩ = some (.int .u8 (l[k].toNat : Int)) :=
  h k _ (by simp [bytesV, hk])
theorem below_drewN {B : Nat} {w w' : World} (h : Below B w w') (n : Nat) : Below B w (w'.drewN n) := ⟨h.os, h.tape, h.output, h.size, h.block⟩
theorem below_of_drewN (w : World) (n : Nat) : Below w.heap.size w (w.drewN n) := below_drewN (Below.refl _ _) n
theorem below_chain {w w1 w2 : World} (h : Below w.heap.size w w1) (k : Below w1.heap.size w1 w2) : Below w.heap.size w w2 := h.trans (k.mono h.size)
theorem ret_int {k : IntKind} {a b : Int} (h : a = b) : Ending.returned (.int k a) = .returned (.int k b) := by rw [h]
theorem ret_bool {a b : Bool} (h : a = b) : Ending.returned (.bool a) = .returned (.bool b) := by rw [h]
theorem ret_str {a b : List UInt8} (h : a = b) : Ending.returned (.string ⟨a.toArray⟩) = .returned (.string ⟨b.toArray⟩) := by rw [h]
theorem byte_range (b : UInt8) : (0 : Int) ≤ (b.toNat : Int) ∧ (b.toNat : Int) < 256 := by
  have := UInt8.toNat_lt b
  omega
theorem take_snoc_str (s : ByteArray) (k : Nat) (h : k < s.size) : s.data.toList.take (k + 1) = s.data.toList.take k ++ [s[k]] := by
  rw [List.take_succ_eq_append_getElem (by simpa using h)]; rfl
theorem heap_new (w : World) (o : Obj) : (w.alloc o).heap[w.heap.size]? = some o := heap_alloc_new w o
theorem RowV.new (w : World) (T : TypeId) (cs : Array Value) : RowV (w.alloc (.cells cs T)) (some ⟨w.heap.size, 0, none⟩) cs.toList := fun i v h => by
  refine ⟨_, 0, rfl, ?_⟩
  have hh := heap_new w (.cells cs T)
  simp only [World.cell?, hh, Nat.zero_add]
  simpa using h
theorem RowV.newM (w : World) (T : TypeId) (cs : Array Value) (m : Nat × Nat) : RowV (w.alloc (.cells cs T m)) (some ⟨w.heap.size, 0, none⟩) cs.toList := fun i v h => by
  refine ⟨_, 0, rfl, ?_⟩
  have hh := heap_new w (.cells cs T m)
  simp only [World.cell?, hh, Nat.zero_add]
  simpa using h
theorem ofInt_byte {x : Int} (h0 : 0 ≤ x) (h1 : x < 256) : ((UInt8.ofNat x.toNat).toNat : Int) = x := by
  simp only [UInt8.toNat_ofNat']
  omega
theorem RowV.new2 (w : World) (T : TypeId) (x y : Int) (x0 : 0 ≤ x) (x1 : x < 256) (y0 : 0 ≤ y) (y1 : y < 256) :
    RowV (w.alloc (.cells #[.int .u8 x, .int .u8 y] T)) (some ⟨w.heap.size, 0, none⟩) (bytesV [UInt8.ofNat x.toNat, UInt8.ofNat y.toNat]) := by
  have h := RowV.new w T #[.int .u8 x, .int .u8 y]
  have e : bytesV [UInt8.ofNat x.toNat, UInt8.ofNat y.toNat] = [.int .u8 x, .int .u8 y] := by simp only [bytesV, List.map_cons, List.map_nil, ofInt_byte x0 x1, ofInt_byte y0 y1]
  rw [e]
  exact h
theorem RowV.new1 (w : World) (T : TypeId) (x : Int) (x0 : 0 ≤ x) (x1 : x < 256) :
    RowV (w.alloc (.cells #[.int .u8 x] T)) (some ⟨w.heap.size, 0, none⟩) (bytesV [UInt8.ofNat x.toNat]) := by
  have h := RowV.new w T #[.int .u8 x]
  have e : bytesV [UInt8.ofNat x.toNat] = [.int .u8 x] := by simp only [bytesV, List.map_cons, List.map_nil, ofInt_byte x0 x1]
  rw [e]
  exact h
theorem own_row {w : World} {base : Nat} {e : TypeId} {v : Value} {n : Nat} {xs : List Value} (h : w.ownsRow base e 1 v n xs) : ∃ A c, v = .slice A n c ∧ RowV w A xs := by
  rcases h with ⟨hl, h⟩
  rcases h with ⟨rfl, rfl⟩ | ⟨g, cap, cur, rfl, _, hg, hn, _, hcs, ht⟩
  · have : xs = [] := List.eq_nil_of_length_eq_zero (by simpa using hl)
    subst this
    exact ⟨none, 0, rfl, RowV.nil _ _⟩
  · refine ⟨_, cap, rfl, fun i v hv => ⟨g, 0, rfl, ?_⟩⟩
    have hi : i < xs.length := (List.getElem?_eq_some_iff.1 hv).1
    rw [← ht, List.getElem?_take_of_lt (by omega)] at hv
    simp only [World.cell?, hg, Nat.zero_add]
    simpa using hv
theorem own_below {a w w' : World} {base : Nat} {e : TypeId} {size : Nat} {v : Value} {n : Nat} {xs : List Value} (h : w.ownsRow base e size v n xs) (hb : Below base a w) (hB : base ≤ w.heap.size) (hg : w.grownBy w' v.ownBlock) : Below base a w' := by
  refine hb.grown hg hB fun k hk => ?_
  rcases h.2 with ⟨rfl, _⟩ | ⟨g, cap, cur, rfl, hle, _⟩
  · simp [Value.ownBlock] at hk
  · have : g = k := by simpa [Value.ownBlock] using hk
    omega
theorem own_nil (w : World) (base : Nat) (e : TypeId) (size : Nat) : w.ownsRow base e size (.slice none 0 0) 0 [] := ⟨by simp, .inl ⟨rfl, rfl⟩⟩
/-- Bytes turned to a text. -/
theorem run_text {P : Program} {src e : TypeId} (hs : P.underlying src = some (.slice e)) (he : P.underlying e = some (.int .u8)) (w : World) (A : Option Addr) (l : List UInt8) (c : Nat) (hr : RowV w A (bytesV l)) (hA : ∀ a, A = some a → a.spot = none)
    (dst : TypeId) (hd : P.underlying dst = some .string) : (convert src dst (.slice A l.length c)).run P w = .ok (.string ⟨l.toArray⟩) w := by
  rcases A with _ | ⟨b, off, spot⟩
  · have hl : l = [] := by
      rcases l with _ | ⟨x, l⟩
      · rfl
      · obtain ⟨b, off, h, _⟩ := hr 0 _ rfl
        cases h
    subst hl
    exact run_convert_bytes_nil w src e hs he _ c dst hd
  · have := hA _ rfl
    simp only at this
    subst this
    have hc : ∀ i, i < l.length → w.cell? ⟨b, off + i, none⟩ = some (.int .u8 ((l.map fun x => (x.toNat : Int)).getD i 0)) := fun i hi => by
      obtain ⟨b', off', h, hc⟩ := hr.byte hi
      cases h
      rw [hc]
      simp [hi]
    have h := run_convert_bytes_arg w src e hs he b off l.length c (l.map fun x => (x.toNat : Int)) (by simp) hc dst hd
    rw [h]
    congr 1
    congr 1
    simp only [strOfNums, List.map_map]
    congr 2
    conv => rhs; rw [← List.map_id l]
    exact List.map_congr_left fun x _ => by simp
theorem below_bytesWorld (w : World) (e : TypeId) (s : ByteArray) : Below w.heap.size w (Lib.bytesWorld w e s) :=
  ⟨rfl, rfl, rfl, by rw [Lib.bytesWorld_size]; omega, fun j hj => Lib.bytesWorld_at_old w e s j hj⟩
theorem RowV.bytesWorld (w : World) (e : TypeId) (s : ByteArray) : RowV (Lib.bytesWorld w e s) (some ⟨w.heap.size, 0, none⟩) (bytesV s.data.toList) := fun i v h => by
  have hi : i < s.data.toList.length := by
    have := (List.getElem?_eq_some_iff.1 h).1
    rwa [bytesV_length] at this
  refine ⟨_, 0, rfl, ?_⟩
  rw [Nat.zero_add, Lib.bytesWorld_cell w e s i (by simpa using hi)]
  simp only [bytesV, List.getElem?_map, List.getElem?_eq_getElem hi, Option.map_some, Option.some.injEq] at h
  rw [← h, List.getD_eq_getElem?_getD, List.getElem?_eq_getElem hi]
  rfl
/-- Where a slice's rest begins: at its very end the model leaves the address as it is. -/
def cutA (A : Option Addr) (c k s : Nat) : Option Addr := if c = k then A else A.map (·.add (k * s))
theorem run_cut_from {P : Program} {t e : TypeId} {s : Nat} (ht : P.underlying t = some (.slice e)) (hs : ∀ w, (sizeOf e).run P w = .ok s w) (A : Option Addr) (n c : Nat) (kd : IntKind) (k : Int) (h0 : 0 ≤ k) (h1 : k ≤ n) (w : World) :
    (Instr.slice t (.slice A n c) (some (.int kd k)) none none).run P w = .ok (.slice (cutA A c k.toNat s) (n - k.toNat) (c - k.toNat)) w := by
  simp [Instr.slice, run_underlying ht, Instr.sliceBounds, run_sliceBound w kd k n _ h0 h1, hs, cutA]
theorem run_cut_to {P : Program} {t e : TypeId} {s : Nat} (ht : P.underlying t = some (.slice e)) (hs : ∀ w, (sizeOf e).run P w = .ok s w) (A : Option Addr) (n c : Nat) (kd : IntKind) (k : Int) (h0 : 0 ≤ k) (h1 : k ≤ c) (w : World) :
    (Instr.slice t (.slice A n c) none (some (.int kd k)) none).run P w = .ok (.slice A k.toNat c) w := by
  simp [Instr.slice, run_underlying ht, Instr.sliceBounds, run_sliceBound w kd k c _ h0 h1, hs]
  intro h
  cases A <;> simp [Addr.add]
theorem RowV.take {w : World} {A : Option Addr} {vs : List Value} (h : RowV w A vs) (k : Nat) : RowV w A (vs.take k) := fun i v hv => by
  have hi : i < k := by
    have := (List.getElem?_eq_some_iff.1 hv).1
    rw [List.length_take] at this
    omega
  rw [List.getElem?_take_of_lt hi] at hv
  exact h i v hv
theorem RowV.cut {w : World} {A : Option Addr} {vs : List Value} (h : RowV w A vs) {c k s : Nat} (hc : vs.length ≤ c * s) : RowV w (cutA A c k s) (vs.drop (k * s)) := fun i v hv => by
  rw [List.getElem?_drop] at hv
  have hi := (List.getElem?_eq_some_iff.1 hv).1
  obtain ⟨b, off, rfl, hcell⟩ := h _ v hv
  have hck : c ≠ k := by
    rintro rfl
    omega
  rw [cutA, if_neg hck]
  by_cases hz : k * s = 0
  · rw [hz] at hcell ⊢
    exact ⟨b, off, by simp [Addr.add], by simpa using hcell⟩
  · exact ⟨b, off + k * s, by simp [Addr.add, hz], by rw [Nat.add_assoc]; exact hcell⟩
end Go.Colm
namespace Go.Colm
open Go.RowKit

/-- Block g is just these cells, none of them frozen. -/
def Whole (w : World) (g : Nat) (t : TypeId) (cs : Array Value) : Prop := w.heap[g]? = some (.cells cs t (0, 0))
section
variable {w w' : World} {g : Nat} {t : TypeId} {cs : Array Value}
theorem Whole.lt (h : Whole w g t cs) : g < w.heap.size := by
  rcases Nat.lt_or_ge g w.heap.size with h' | h'
  · exact h'
  · unfold Whole at h
    rw [Array.getElem?_eq_none h'] at h
    cases h
theorem Whole.cell (h : Whole w g t cs) (i : Nat) : w.cell? ⟨g, i, none⟩ = cs[i]? := by
  unfold Whole at h
  simp [World.cell?, h]
theorem Whole.frozen (h : Whole w g t cs) (i : Nat) : w.frozen? ⟨g, i, none⟩ = false := by
  unfold Whole at h
  simp [World.frozen?, h]
theorem Whole.new (w : World) (t : TypeId) (cs : Array Value) : Whole (w.alloc (.cells cs t)) w.heap.size t cs := heap_alloc_new w _
theorem Whole.put (h : Whole w g t cs) (i : Nat) (u : Value) : Whole (w.setCell ⟨g, i, none⟩ u) g t (cs.setIfInBounds i u) := by
  unfold Whole at h ⊢
  simp [World.setCell, Array.getElem?_modify, h]
end

/-- What was there is there, but for the blocks of S. -/
structure Kept (S : Nat → Prop) (w w' : World) : Prop where
  os : w'.os = w.os
  tape : w'.tape = w.tape
  output : w'.output = w.output
  size : w.heap.size ≤ w'.heap.size
  block : ∀ k, k < w.heap.size → ¬ S k → w'.heap[k]? = w.heap[k]?
section
variable {S S' : Nat → Prop} {w w' w'' : World}
theorem Kept.refl (S : Nat → Prop) (w : World) : Kept S w w := ⟨rfl, rfl, rfl, Nat.le_refl _, fun _ _ _ => rfl⟩
theorem Kept.trans (h : Kept S w w') (k : Kept S w' w'') : Kept S w w'' :=
  ⟨k.os.trans h.os, k.tape.trans h.tape, k.output.trans h.output, Nat.le_trans h.size k.size, fun i hi hs => (k.block i (Nat.lt_of_lt_of_le hi h.size) hs).trans (h.block i hi hs)⟩
theorem Kept.mono (h : Kept S w w') (hs : ∀ k, k < w.heap.size → S k → S' k) : Kept S' w w' := ⟨h.os, h.tape, h.output, h.size, fun k hk hn => h.block k hk fun e => hn (hs k hk e)⟩
theorem Kept.drewN (h : Kept S w w') (n : Nat) : Kept S w (w'.drewN n) := ⟨h.os, h.tape, h.output, h.size, h.block⟩
theorem Kept.drew (h : Kept S w w') : Kept S w w'.drew := ⟨h.os, h.tape, h.output, h.size, h.block⟩
theorem Kept.alloc (h : Kept S w w') (o : Obj) : Kept S w (w'.alloc o) :=
  ⟨h.os, h.tape, h.output, Nat.le_trans h.size (by simp), fun i hi hs => (Below.heap_alloc w' o i (Nat.lt_of_lt_of_le hi h.size)).trans (h.block i hi hs)⟩
theorem Kept.setCell (h : Kept S w w') {p : Addr} (hp : S p.block ∨ w.heap.size ≤ p.block) (u : Value) : Kept S w (w'.setCell p u) :=
  ⟨h.os, h.tape, h.output, by simpa [World.setCell] using h.size, fun i hi hs => (Below.heap_setCell w' p u i (by
    rintro rfl
    rcases hp with hp | hp
    · exact hs hp
    · omega)).trans (h.block i hi hs)⟩
theorem Kept.below (h : Below w.heap.size w w') (S : Nat → Prop) : Kept S w w' := ⟨h.os, h.tape, h.output, h.size, fun k hk _ => h.block k hk⟩
theorem Kept.to_below {B : Nat} (h : Kept S w w') (hB : B ≤ w.heap.size) (hs : ∀ k, k < B → ¬ S k) : Below B w w' := ⟨h.os, h.tape, h.output, h.size, fun k hk => h.block k (by omega) (hs k hk)⟩
theorem Kept.grown {row : Option Nat} (h : w.grownBy w' row) : Kept (fun k => row = some k) w w' := ⟨h.os, h.tape, h.output, h.size, fun k hk hn => h.block k hk fun e => hn e.symm⟩
theorem Kept.whole {g : Nat} {t : TypeId} {cs : Array Value} (h : Kept S w w') (hg : Whole w g t cs) (hs : ¬ S g) : Whole w' g t cs := (h.block g hg.lt hs).trans hg
theorem Kept.cell (h : Kept S w w') {p : Addr} {v : Value} (hc : w.cell? p = some v) (hs : ¬ S p.block) : w'.cell? p = some v := by
  rw [World.cell?_of_block (w := w) (h.block p.block (lt_of_cell hc) hs)]
  exact hc
end

/-- A row of cells whose block is of the type t. -/
def RowT (w : World) (t : TypeId) (A : Option Addr) (vs : List Value) : Prop :=
  ∀ i v, vs[i]? = some v → ∃ b off cs fz, A = some ⟨b, off, none⟩ ∧ w.heap[b]? = some (.cells cs t fz) ∧ cs[off + i]? = some v
theorem RowT.nil (w : World) (t : TypeId) (A : Option Addr) : RowT w t A [] := fun i v h => by simp at h
theorem RowT.row {w : World} {t : TypeId} {A : Option Addr} {vs : List Value} (h : RowT w t A vs) : RowV w A vs := fun i v hv => by
  obtain ⟨b, off, cs, fz, e, hh, hc⟩ := h i v hv
  exact ⟨b, off, e, by simp [World.cell?, hh, hc]⟩
theorem RowT.below {w w' : World} {t : TypeId} {A : Option Addr} {vs : List Value} (h : RowT w t A vs) (hb : Below w.heap.size w w') : RowT w' t A vs := fun i v hv => by
  obtain ⟨b, off, cs, fz, e, hh, hc⟩ := h i v hv
  exact ⟨b, off, cs, fz, e, (hb.block b (Array.getElem?_eq_some_iff.1 hh).1).trans hh, hc⟩
theorem RowT.drewN {w : World} {t : TypeId} {A : Option Addr} {vs : List Value} (h : RowT w t A vs) (n : Nat) : RowT (w.drewN n) t A vs := h
theorem RowT.alloc {w : World} {t : TypeId} {A : Option Addr} {vs : List Value} (h : RowT w t A vs) (o : Obj) : RowT (w.alloc o) t A vs := h.below ((Below.refl _ w).alloc (Nat.le_refl _) o)
theorem RowT.kept {S : Nat → Prop} {w w' : World} {t : TypeId} {A : Option Addr} {vs : List Value} (h : RowT w t A vs) (hk : Kept S w w') (hs : ∀ k cs fz, w.heap[k]? = some (.cells cs t fz) → ¬ S k) : RowT w' t A vs := fun i v hv => by
  obtain ⟨b, off, cs, fz, e, hh, hc⟩ := h i v hv
  exact ⟨b, off, cs, fz, e, (hk.block b (Array.getElem?_eq_some_iff.1 hh).1 (hs b cs fz hh)).trans hh, hc⟩
theorem own_cap {w : World} {base : Nat} {e : TypeId} {v : Value} {n : Nat} {xs : List Value} (h : w.ownsRow base e 1 v n xs) : ∃ A c, v = .slice A n c ∧ n ≤ c ∧ RowT w e A xs := by
  rcases h with ⟨hl, h⟩
  rcases h with ⟨rfl, rfl⟩ | ⟨g, cap, cur, rfl, _, hg, hn, _, hcs, ht⟩
  · have : xs = [] := List.eq_nil_of_length_eq_zero (by simpa using hl)
    subst this
    exact ⟨none, 0, rfl, Nat.le_refl _, fun i v hv => by simp at hv⟩
  · refine ⟨_, cap, rfl, hn, fun i v hv => ⟨g, 0, _, _, rfl, hg, ?_⟩⟩
    have hi : i < xs.length := (List.getElem?_eq_some_iff.1 hv).1
    rw [← ht, List.getElem?_take_of_lt (by omega)] at hv
    simpa using hv
theorem own_rowT {w : World} {base : Nat} {e : TypeId} {v : Value} {n : Nat} {xs : List Value} (h : w.ownsRow base e 1 v n xs) : ∃ A c, v = .slice A n c ∧ RowT w e A xs := by
  obtain ⟨A, c, e, _, hr⟩ := own_cap h
  exact ⟨A, c, e, hr⟩
end Go.Colm
namespace Go.Cap
set_option linter.unusedVariables false

/-- Numbers by their places: nought where none was laid. -/
inductive Tr where
  | nil
  | node (l : Tr) (v : Nat) (r : Tr)
namespace Tr
def raw : Tr → Nat → Nat
  | nil, _ => 0
  | node l v r, n => bif Nat.beq n 0 then v else bif Nat.beq (n % 2) 1 then raw l (n / 2) else raw r (n / 2 - 1)
def set : Nat → Tr → Nat → Nat → Tr
  | 0, t, _, _ => t
  | k + 1, nil, n, v => bif Nat.beq n 0 then node nil v nil else bif Nat.beq (n % 2) 1 then node (set k nil (n / 2) v) 0 nil else node nil 0 (set k nil (n / 2 - 1) v)
  | k + 1, node l x r, n, v => bif Nat.beq n 0 then node l v r else bif Nat.beq (n % 2) 1 then node (set k l (n / 2) v) x r else node l x (set k r (n / 2 - 1) v)
def get (t : Tr) (n : Nat) : Nat := raw t n % 256
def put (t : Tr) (n v : Nat) : Tr := set 24 t n v
def fill (t : Tr) (a : Nat) : Nat → Nat → Tr
  | 0, _ => t
  | n + 1, v => fill (t.put a v) (a + 1) n v
def load (t : Tr) (a : Nat) : Nat → Nat
  | 0 => 0
  | w + 1 => t.get a + 256 * load t (a + 1) w
def store (t : Tr) (a : Nat) : Nat → Nat → Tr
  | 0, _ => t
  | w + 1, v => store (t.put a (v % 256)) (a + 1) w (v / 256)
def all (t : Tr) (a : Nat) : Nat → Nat → Bool
  | 0, _ => true
  | n + 1, v => Nat.beq (t.get a) v && all t (a + 1) n v

theorem beq_t {a b : Nat} (h : a = b) : Nat.beq a b = true := by simp [h]
theorem beq_f {a b : Nat} (h : a ≠ b) : Nat.beq a b = false := by
  cases e : Nat.beq a b
  · rfl
  · exact absurd (Nat.eq_of_beq_eq_true e) h
theorem raw_nil (m : Nat) : raw nil m = 0 := by unfold raw; rfl
theorem raw_zero (l : Tr) (v : Nat) (r : Tr) : raw (node l v r) 0 = v := by rw [raw]; rfl
theorem raw_odd (l : Tr) (v : Nat) (r : Tr) {n : Nat} (h : n % 2 = 1) : raw (node l v r) n = raw l (n / 2) := by
  rw [raw, beq_f (by omega), beq_t h]
  rfl
theorem raw_even (l : Tr) (v : Nat) (r : Tr) {n : Nat} (h : n ≠ 0) (h2 : n % 2 ≠ 1) : raw (node l v r) n = raw r (n / 2 - 1) := by
  rw [raw, beq_f h, beq_f h2]
  rfl
theorem set_node (k : Nat) (t : Tr) (n v : Nat) : ∃ l x r, (∀ m, raw t m = raw (node l x r) m) ∧
    set (k + 1) t n v = (bif Nat.beq n 0 then node l v r else bif Nat.beq (n % 2) 1 then node (set k l (n / 2) v) x r else node l x (set k r (n / 2 - 1) v)) := by
  cases t with
  | nil =>
    refine ⟨nil, 0, nil, fun m => ?_, by rw [set]⟩
    rw [raw_nil]
    by_cases h : m = 0
    · rw [h, raw_zero]
    · by_cases h2 : m % 2 = 1
      · rw [raw_odd _ _ _ h2, raw_nil]
      · rw [raw_even _ _ _ h h2, raw_nil]
  | node l x r => exact ⟨l, x, r, fun _ => rfl, by rw [set]⟩
theorem raw_set : ∀ (k : Nat) (t : Tr) (n v m : Nat), n + 1 < 2 ^ k → raw (set k t n v) m = if m = n then v else raw t m
  | 0, t, n, v, m, h => by simp at h
  | k + 1, t, n, v, m, h => by
    have hp : 2 ^ (k + 1) = 2 * 2 ^ k := by rw [Nat.pow_succ, Nat.mul_comm]
    rw [hp] at h
    obtain ⟨l, x, r, e1, e2⟩ := set_node k t n v
    rw [e2, e1]
    by_cases h0 : n = 0
    · rw [beq_t h0, h0]
      by_cases m0 : m = 0
      · rw [m0]
        simp [raw_zero]
      · rw [if_neg m0]
        by_cases m1 : m % 2 = 1
        · simp [raw_odd _ _ _ m1]
        · simp [raw_even _ _ _ m0 m1]
    · rw [beq_f h0]
      by_cases h1 : n % 2 = 1
      · rw [beq_t h1]
        simp only [cond_false, cond_true]
        by_cases m0 : m = 0
        · rw [m0, raw_zero, raw_zero, if_neg (by omega)]
        · by_cases m1 : m % 2 = 1
          · rw [raw_odd _ _ _ m1, raw_odd _ _ _ m1, raw_set k l (n / 2) v (m / 2) (by omega)]
            by_cases e : m = n
            · rw [if_pos e, if_pos (by omega)]
            · rw [if_neg e, if_neg (by omega)]
          · rw [raw_even _ _ _ m0 m1, raw_even _ _ _ m0 m1, if_neg (by rintro rfl; exact m1 h1)]
      · rw [beq_f h1]
        simp only [cond_false]
        by_cases m0 : m = 0
        · rw [m0, raw_zero, raw_zero, if_neg (by omega)]
        · by_cases m1 : m % 2 = 1
          · rw [raw_odd _ _ _ m1, raw_odd _ _ _ m1, if_neg (by rintro rfl; exact h1 m1)]
          · rw [raw_even _ _ _ m0 m1, raw_even _ _ _ m0 m1, raw_set k r (n / 2 - 1) v (m / 2 - 1) (by omega)]
            by_cases e : m = n
            · rw [if_pos e, if_pos (by omega)]
            · rw [if_neg e, if_neg (by omega)]
theorem get_lt (t : Tr) (n : Nat) : get t n < 256 := Nat.mod_lt _ (by decide)
theorem get_nil (n : Nat) : get nil n = 0 := by rw [get, raw_nil]
theorem get_put (t : Tr) {n : Nat} (v m : Nat) (h : n < 16000000) : get (put t n v) m = if m = n then v % 256 else get t m := by
  rw [get, put, raw_set 24 t n v m (by omega)]
  split <;> rfl
theorem get_fill : ∀ (n : Nat) (t : Tr) (a v m : Nat), a + n ≤ 16000000 → get (fill t a n v) m = if a ≤ m ∧ m < a + n then v % 256 else get t m
  | 0, t, a, v, m, _ => by rw [fill, if_neg (by omega)]
  | n + 1, t, a, v, m, h => by
    rw [fill, get_fill n _ _ _ _ (by omega), get_put _ _ _ (by omega)]
    by_cases e : m = a
    · subst e
      rw [if_neg (by omega), if_pos rfl, if_pos (by omega)]
    · rw [if_neg e]
      by_cases e2 : a + 1 ≤ m ∧ m < a + 1 + n
      · rw [if_pos e2, if_pos (by omega)]
      · rw [if_neg e2, if_neg (by omega)]
theorem fill_succ : ∀ (n : Nat) (t : Tr) (a v : Nat), fill t a (n + 1) v = (fill t a n v).put (a + n) v
  | 0, t, a, v => by simp [fill]
  | n + 1, t, a, v => by
    rw [fill, fill_succ n, fill, show a + 1 + n = a + (n + 1) by omega]
theorem load_lt : ∀ (w : Nat) (t : Tr) (a : Nat), load t a w < 256 ^ w
  | 0, t, a => by simp [load]
  | w + 1, t, a => by
    have h1 := get_lt t a
    have h2 := load_lt w t (a + 1)
    rw [load, Nat.pow_succ]
    omega
theorem store_succ : ∀ (k : Nat) (t : Tr) (a v : Nat), store t a (k + 1) v = (store t a k v).put (a + k) (v / 256 ^ k % 256)
  | 0, t, a, v => by simp [store]
  | k + 1, t, a, v => by
    rw [store, store_succ k, store, Nat.div_div_eq_div_mul, Nat.pow_succ, Nat.mul_comm (256 ^ k), show a + 1 + k = a + (k + 1) by omega]
theorem load_congr : ∀ (w : Nat) (t t' : Tr) (a : Nat), (∀ m, a ≤ m → m < a + w → get t m = get t' m) → load t a w = load t' a w
  | 0, t, t', a, _ => rfl
  | w + 1, t, t', a, h => by
    rw [load, load, h a (Nat.le_refl _) (by omega), load_congr w t t' (a + 1) fun m h1 h2 => h m (by omega) (by omega)]
theorem get_store : ∀ (w : Nat) (t : Tr) (a v m : Nat), a + w ≤ 16000000 → get (store t a w v) m = if a ≤ m ∧ m < a + w then v / 256 ^ (m - a) % 256 else get t m
  | 0, t, a, v, m, _ => by rw [store, if_neg (by omega)]
  | w + 1, t, a, v, m, h => by
    rw [store, get_store w _ _ _ _ (by omega), get_put _ _ _ (by omega)]
    by_cases e : m = a
    · subst e
      rw [if_neg (by omega), if_pos rfl, if_pos (by omega), Nat.sub_self]
      simp
    · rw [if_neg e]
      by_cases e2 : a + 1 ≤ m ∧ m < a + 1 + w
      · rw [if_pos e2, if_pos (by omega), Nat.div_div_eq_div_mul]
        congr 2
        rw [show m - a = (m - (a + 1)) + 1 by omega, Nat.pow_succ, Nat.mul_comm]
      · rw [if_neg e2, if_neg (by omega)]
theorem load_store : ∀ (w : Nat) (t : Tr) (a v : Nat), a + w ≤ 16000000 → load (store t a w v) a w = v % 256 ^ w
  | 0, t, a, v, _ => by simp [load, Nat.mod_one]
  | w + 1, t, a, v, h => by
    have e1 : get (store t a (w + 1) v) a = v % 256 := by
      rw [get_store _ _ _ _ _ h, if_pos (by omega), Nat.sub_self]
      simp
    have e2 : load (store t a (w + 1) v) (a + 1) w = v / 256 % 256 ^ w := by
      rw [store]
      exact load_store w _ _ _ (by omega)
    rw [load, e1, e2, Nat.pow_succ, Nat.mul_comm (256 ^ w), Nat.mod_mul]
theorem load_other {w w' : Nat} {t : Tr} {a a' v : Nat} (h : a + w ≤ 16000000) (hd : a' + w' ≤ a ∨ a + w ≤ a') : load (store t a w v) a' w' = load t a' w' :=
  load_congr _ _ _ _ fun m h1 h2 => by rw [get_store _ _ _ _ _ h, if_neg (by omega)]
theorem all_iff : ∀ (n : Nat) (t : Tr) (a v : Nat), all t a n v = true ↔ ∀ m, a ≤ m → m < a + n → get t m = v
  | 0, t, a, v => by
    rw [all]
    exact ⟨fun _ m h1 h2 => by omega, fun _ => rfl⟩
  | n + 1, t, a, v => by
    rw [all, Bool.and_eq_true, all_iff n]
    constructor
    · rintro ⟨h1, h2⟩ m h3 h4
      by_cases e : m = a
      · rw [e]
        exact Nat.eq_of_beq_eq_true h1
      · exact h2 m (by omega) (by omega)
    · intro h
      exact ⟨beq_t (h a (Nat.le_refl _) (by omega)), fun m h1 h2 => h m (by omega) (by omega)⟩
end Tr

/-- A row of bytes of one kind. -/
structure Rn where
  a : Nat
  n : Nat
  k : Nat
deriving DecidableEq
/-- A cache's memory: its config, its bytes, its grains' kinds. -/
structure Mm where
  slabs : Nat
  slots : Nat
  b : Tr
  k : Tr
/-- A config that may be. -/
def okC (s n : Nat) : Bool := decide (7 ≤ s) && decide (s ≤ 64) && decide (n % 2 = 0) && decide (s * 32 ≤ n) && decide (n ≤ 8192)
def slotsC (s : Nat) : Nat := 128 + s * 16
def baseC (s n : Nat) : Nat := (slotsC s + n * 4 + 15) / 16 * 16
def sizeC (s n : Nat) : Nat := baseC s n + s * 1024
theorem okC_iff {s n : Nat} : okC s n = true ↔ 7 ≤ s ∧ s ≤ 64 ∧ n % 2 = 0 ∧ s * 32 ≤ n ∧ n ≤ 8192 := by
  simp only [okC, Bool.and_eq_true, decide_eq_true_eq]
  constructor
  · rintro ⟨⟨⟨⟨a, b⟩, c⟩, d⟩, e⟩
    exact ⟨a, b, c, d, e⟩
  · rintro ⟨a, b, c, d, e⟩
    exact ⟨⟨⟨⟨a, b⟩, c⟩, d⟩, e⟩
namespace Mm
def size (m : Mm) : Nat := sizeC m.slabs m.slots
def base (m : Mm) : Nat := baseC m.slabs m.slots
/-- The kind of bytes; 0: not of one. -/
def kindAt (m : Mm) (a n : Nat) : Nat :=
  if n < 1 ∨ m.size < a + n then 0 else if m.k.all (a / 4) ((a + n + 3) / 4 - a / 4) (m.k.get (a / 4)) = true then m.k.get (a / 4) else 0
def widthB (w : Nat) : Bool := Nat.beq w 1 || Nat.beq w 2 || Nat.beq w 4 || Nat.beq w 8
/-- A touch may be. -/
def may (m : Mm) (a w kind : Nat) : Bool := widthB w && Nat.beq (a % w) 0 && !Nat.beq kind 0 && Nat.beq (m.kindAt a w) kind
def ld (a w kind : Nat) (m : Mm) : Option Nat := if m.may a w kind = true then some (m.b.load a w) else none
def st (a w kind v : Nat) (m : Mm) : Option Mm := if m.may a w kind = true ∧ v < 256 ^ w then some { m with b := m.b.store a w v } else none
/-- A field of the root: where, and how wide. -/
def rootAt (f : Nat) : Nat := [8, 12, 16, 20, 24, 28, 32, 36, 40, 44, 48, 52, 56, 60, 64, 68, 72, 80, 84, 88, 92].getD f 0
def rootW (f : Nat) : Nat := if f = 16 then 8 else 4
def root (f : Nat) (m : Mm) : Option Nat := m.ld (rootAt f) (rootW f) 2
def setRoot (f v : Nat) (m : Mm) : Option Mm := m.st (rootAt f) (rootW f) 2 v
/-- A row of bytes may be touched: each of them. -/
def row (m : Mm) (a n kind : Nat) : Bool := decide (a + n ≤ m.size) && (List.range n).all fun i => m.may (a + i) 1 kind
def zero (a n kind : Nat) (m : Mm) : Option Mm := if m.row a n kind = true then some { m with b := m.b.fill a n 0 } else none
def mark (a n kind : Nat) (m : Mm) : Option Mm := if a + n ≤ m.size ∧ a % 4 = 0 ∧ n % 4 = 0 ∧ kind ≤ 8 then some { m with k := m.k.fill (a / 4) (n / 4) kind } else none
end Mm
theorem sizeC_le {s n : Nat} (h : okC s n = true) : sizeC s n ≤ 200000 ∧ 8000 ≤ sizeC s n ∧ sizeC s n % 16 = 0 ∧ baseC s n % 16 = 0 ∧ slotsC s + n * 4 ≤ baseC s n ∧ baseC s n + s * 1024 = sizeC s n := by
  obtain ⟨h1, h2, h3, h4, h5⟩ := okC_iff.1 h
  unfold sizeC baseC slotsC
  omega
end Go.Cap
namespace Go.Colm
open Go.RowKit Go.ChangeMaps Go.MapKept Go.WideElems
open Go.Maps (Keyed)
set_option linter.unusedVariables false
set_option linter.unusedSimpArgs false

/-- Block b is a map with these entries (keys of type k), in the order in which they were put in. -/
def OwnL (w : World) (P : Program) (k : TypeId) (b : Nat) (l : List (Value × Value)) : Prop :=
  ∃ es clock, w.heap[b]? = some (.map es clock) ∧ Stamped es clock ∧ (es.toList.map fun e => (e.key, e.val)) = l ∧ ∀ e ∈ es.toList, ∃ z, keyOf P k e.key = some z

section
variable {w w' : World} {P : Program} {k t e : TypeId} {b : Nat} {l : List (Value × Value)}
theorem OwnL.made (w : World) (P : Program) (k : TypeId) : OwnL (w.alloc (.map #[] 0)) P k w.heap.size [] :=
  ⟨#[], 0, heap_alloc_new w _, stamped_empty 0, rfl, by simp⟩
theorem OwnL.lt (h : OwnL w P k b l) : b < w.heap.size := by
  obtain ⟨es, clock, hb, _⟩ := h
  exact (Array.getElem?_eq_some_iff.1 hb).1
theorem OwnL.of_block (h : OwnL w P k b l) (hk : w'.heap[b]? = w.heap[b]?) : OwnL w' P k b l := by
  obtain ⟨es, clock, hb, r⟩ := h
  exact ⟨es, clock, hk.trans hb, r⟩
theorem OwnL.kept {S : Nat → Prop} (h : OwnL w P k b l) (hk : Kept S w w') (hs : ¬ S b) : OwnL w' P k b l := h.of_block (hk.block b h.lt hs)
theorem OwnL.below (h : OwnL w P k b l) (hk : Below w.heap.size w w') : OwnL w' P k b l := h.of_block (hk.block b h.lt)
theorem OwnL.drew (h : OwnL w P k b l) : OwnL w.drew P k b l := h
theorem OwnL.whole_ne {g : Nat} {T : TypeId} {cs : Array Value} (h : OwnL w P k b l) (hg : Whole w g T cs) : g ≠ b := by
  rintro rfl
  obtain ⟨es, clock, hb, _⟩ := h
  unfold Whole at hg
  rw [hb] at hg
  cases hg
theorem OwnL.row_ne {base size n : Nat} {T : TypeId} {v : Value} {xs : List Value} (h : OwnL w P k b l) (hr : w.ownsRow base T size v n xs) : v.ownBlock ≠ some b := by
  obtain ⟨es, clock, hb, _⟩ := h
  rcases hr.2 with ⟨rfl, _⟩ | ⟨g, cap, cur, rfl, _, hg, _⟩
  · simp [Value.ownBlock]
  · intro e
    have : g = b := by simpa [Value.ownBlock] using e
    subst this
    rw [hb] at hg
    cases hg
/-- The keys are apart. -/
theorem OwnL.apart (h : OwnL w P k b l) : l.Pairwise fun p q => p.1 ≠ q.1 := by
  obtain ⟨es, clock, _, hst, rfl, _⟩ := h
  rw [List.pairwise_map]
  exact ((stamped_iff es clock).1 hst).2.2
theorem OwnL.keyed (h : OwnL w P k b l) {p : Value × Value} (hp : p ∈ l) : ∃ z, keyOf P k p.1 = some z := by
  obtain ⟨es, clock, _, _, rfl, hk⟩ := h
  obtain ⟨e, he, rfl⟩ := List.mem_map.1 hp
  exact hk e he

theorem run_mapUpdate {es : Array MapEntry} {clock : Nat} (K : Keyed P k) (ht : P.underlying t = some (.map k e)) (hb : w.heap[b]? = some (.map es clock)) {key val : Value} {kl : Lit} (hkey : keyOf P k key = some kl)
    (hk : ∀ x ∈ es.toList, ∃ z, keyOf P k x.key = some z) :
    ((∀ x ∈ es.toList, x.key ≠ key) ∧ (Instr.mapUpdate t (.map (some b)) key val).run P w = .ok () (setBlock w b (.map (es.push ⟨key, val, clock⟩) (clock + 1)))) ∨
    ∃ (j : Nat) (e0 : MapEntry), es.toList[j]? = some e0 ∧ e0.key = key ∧ (Instr.mapUpdate t (.map (some b)) key val).run P w = .ok () (setBlock w b (.map (es.modify j (fun e' => { e' with key := key, val := val })) clock)) := by
  rcases K.find w hkey es.toList hk with ⟨h1, h2⟩ | ⟨j, e0, h1, h2, h3⟩
  · refine .inl ⟨h2, ?_⟩
    simp [Instr.mapUpdate, run_underlying ht, Go.MapKept.run_getObj_map hb, K.check w false hkey, h1, Go.MapKept.run_setObj_map _ hb, Result.andThen, setBlock]
  · refine .inr ⟨j, e0, h2, h3, ?_⟩
    have hj : es[j]? = some e0 := by simpa using h2
    simp [Instr.mapUpdate, run_underlying ht, Go.MapKept.run_getObj_map hb, K.check w false hkey, h1, hj, h3, K.stays w hkey, Go.MapKept.run_setObj_map _ hb, Result.andThen, setBlock]

/-- What a map turns to. -/
def lput (key val : Value) (l l' : List (Value × Value)) : Prop :=
  ((∀ p ∈ l, p.1 ≠ key) ∧ l' = l ++ [(key, val)]) ∨ ∃ (j : Nat) (v : Value), l[j]? = some (key, v) ∧ l' = l.set j (key, val)

theorem kept_setBlock (w : World) (b : Nat) (o : Obj) : Kept (fun i => i = b) w (setBlock w b o) :=
  ⟨rfl, rfl, rfl, by simp [setBlock], fun i _ hi => by
    simp only [setBlock]
    rw [Array.getElem?_setIfInBounds_ne (Ne.symm hi)]⟩

theorem OwnL.put (h : OwnL w P k b l) (K : Keyed P k) (ht : P.underlying t = some (.map k e)) {key val : Value} {kl : Lit} (hkey : keyOf P k key = some kl) :
    ∃ w' l', (Instr.mapUpdate t (.map (some b)) key val).run P w = .ok () w' ∧ lput key val l l' ∧ OwnL w' P k b l' ∧ Kept (fun i => i = b) w w' := by
  obtain ⟨es, clock, hb, hst, rfl, hk⟩ := h
  rcases run_mapUpdate (val := val) K ht hb hkey hk with ⟨h2, hrun⟩ | ⟨j, e0, h2, h3, hrun⟩
  · refine ⟨_, _, hrun, .inl ⟨?_, rfl⟩, ⟨_, _, heap_setBlock_same hb _, stamped_push hst h2, by simp, ?_⟩, kept_setBlock _ _ _⟩
    · intro p hp
      obtain ⟨x, hx, rfl⟩ := List.mem_map.1 hp
      exact h2 x hx
    · intro x hx
      simp only [Array.toList_push, List.mem_append, List.mem_singleton] at hx
      rcases hx with hx | rfl
      · exact hk x hx
      · exact ⟨kl, hkey⟩
  · have hj : es[j]? = some e0 := by simpa using h2
    have hlist : (es.modify j (fun e' => { e' with key := key, val := val })).toList = es.toList.set j { e0 with key := key, val := val } := by
      rw [Array.toList_modify, modify_eq_set _ _ _ _ h2]
    refine ⟨_, _, hrun, .inr ⟨j, e0.val, by simp [hj, h3], rfl⟩, ⟨_, _, heap_setBlock_same hb _, stamped_modify hst _ _ (fun _ _ => rfl) (fun e' _ he' => by rw [hj] at he'; cases he'; exact h3.symm), by rw [hlist, List.map_set], ?_⟩, kept_setBlock _ _ _⟩
    intro x hx
    rw [hlist] at hx
    rcases List.mem_or_eq_of_mem_set hx with hx | rfl
    · exact hk x hx
    · exact ⟨kl, hkey⟩

theorem OwnL.look (h : OwnL w P k b l) (c : Bool) (K : Keyed P k) (ht : P.underlying t = some (.map k e)) {z : Value} (hz : (zeroValue e).run P w = .ok z w) {key : Value} {kl : Lit} (hkey : keyOf P k key = some kl) :
    ((∀ p ∈ l, p.1 ≠ key) ∧ (Instr.lookup t (.map (some b)) key c).run P w = .ok (if c then .tuple #[z, .bool false] else z) w) ∨
    ∃ (j : Nat) (v : Value), l[j]? = some (key, v) ∧ (Instr.lookup t (.map (some b)) key c).run P w = .ok (if c then .tuple #[v, .bool true] else v) w := by
  obtain ⟨es, clock, hb, hst, rfl, hk⟩ := h
  rcases K.find w hkey es.toList hk with ⟨h1, h2⟩ | ⟨j, e0, h1, h2, h3⟩
  · refine .inl ⟨?_, by simp [Instr.lookup, run_underlying ht, Go.MapKept.run_getObj_map hb, K.check w _ hkey, h1, hz, Result.andThen]⟩
    intro p hp
    obtain ⟨x, hx, rfl⟩ := List.mem_map.1 hp
    exact h2 x hx
  · have hj : es[j]? = some e0 := by simpa using h2
    exact .inr ⟨j, e0.val, by simp [hj, h3], by simp [Instr.lookup, run_underlying ht, Go.MapKept.run_getObj_map hb, K.check w _ hkey, h1, Result.andThen]⟩

/-- What is left of a map. -/
def ldel (key : Value) (l l' : List (Value × Value)) : Prop :=
  ((∀ p ∈ l, p.1 ≠ key) ∧ l' = l) ∨ ∃ (j : Nat) (v : Value), l[j]? = some (key, v) ∧ l' = l.eraseIdx j

theorem OwnL.del (h : OwnL w P k b l) (K : Keyed P k) (ht : P.underlying t = some (.map k e)) {key : Value} {kl : Lit} (hkey : keyOf P k key = some kl) (ty : TypeId) :
    ∃ w' l', (Builtin.delete_ #[t, k] ty #[.map (some b), key]).run P w = .ok (.tuple #[]) w' ∧ ldel key l l' ∧ OwnL w' P k b l' ∧ Kept (fun i => i = b) w w' := by
  obtain ⟨es, clock, hb, hst, rfl, hk⟩ := h
  rcases K.find w hkey es.toList hk with ⟨h1, h2⟩ | ⟨j, e0, h1, h2, h3⟩
  · have hrun : (Builtin.delete_ #[t, k] ty #[.map (some b), key]).run P w = .ok (.tuple #[]) (setBlock w b (.map es clock)) := by
      simp [Builtin.delete_, run_underlying ht, Go.MapKept.run_getObj_map hb, K.check w _ hkey, h1, Go.MapKept.run_setObj_map _ hb, Result.andThen, setBlock]
    refine ⟨_, _, hrun, .inl ⟨?_, rfl⟩, ⟨es, clock, heap_setBlock_same hb _, hst, rfl, hk⟩, kept_setBlock _ _ _⟩
    intro p hp
    obtain ⟨x, hx, rfl⟩ := List.mem_map.1 hp
    exact h2 x hx
  · have hj : es[j]? = some e0 := by simpa using h2
    have hjl : j < es.toList.length := (List.getElem?_eq_some_iff.1 h2).1
    have hjs : j < es.size := by simpa using hjl
    have hsub : (es.eraseIdxIfInBounds j).toList = es.toList.eraseIdx j := by
      unfold Array.eraseIdxIfInBounds
      rw [dif_pos hjs]
      simp
    have hrun : (Builtin.delete_ #[t, k] ty #[.map (some b), key]).run P w = .ok (.tuple #[]) (setBlock w b (.map (es.eraseIdxIfInBounds j) clock)) := by
      simp [Builtin.delete_, run_underlying ht, Go.MapKept.run_getObj_map hb, K.check w _ hkey, h1, Go.MapKept.run_setObj_map _ hb, Result.andThen, setBlock]
    refine ⟨_, _, hrun, .inr ⟨j, e0.val, by simp [hj, h3], rfl⟩, ⟨es.eraseIdxIfInBounds j, clock, heap_setBlock_same hb _, stamped_erase hst j, ?_, ?_⟩, kept_setBlock _ _ _⟩
    · rw [hsub, map_eraseIdx]
    · intro x hx
      rw [hsub] at hx
      exact hk x ((List.eraseIdx_sublist _ _).subset hx)

theorem OwnL.len (h : OwnL w P k b l) (ht : P.underlying t = some (.map k e)) (ty : TypeId) : (Builtin.len_ #[t] ty #[.map (some b)]).run P w = .ok (.int .i64 l.length) w := by
  obtain ⟨es, clock, hb, hst, rfl, hk⟩ := h
  simp [Builtin.len_, run_underlying ht, Go.MapKept.run_getObj_map hb, goInt, Result.andThen]
end

section
variable {P : Program} (w : World) {ops : Array Oper} {rest : List Oper} {o : Oper} {a : Act} {Q : Exit → Act → World → Prop}
theorem wpList_put (hg : o.guard = none) (m x v : Operand) (t : TypeId) (hop : o.op = Op.mapUpdate t m x v)
    (k e : TypeId) (K : Keyed P k) (ht : P.underlying t = some (.map k e)) (b : Nat) (l : List (Value × Value))
    (hm : a.eval m = .map (some b)) (hown : OwnL w P k b l) (key val : Value) (kl : Lit) (hx : a.eval x = key) (hv : a.eval v = val) (hkey : keyOf P k key = some kl)
    (hK : ∀ w' l', lput key val l l' → OwnL w' P k b l' → Kept (fun i => i = b) w w' → wpList P ops Q rest (a.put o.dst undef) w') :
    wpList P ops Q (o :: rest) a w := by
  refine wpList_plain hg fun K' hK' => ?_
  obtain ⟨w', l', hrun, r0, r1, r2⟩ := hown.put (val := val) K ht hkey
  unfold Oper.wp
  simp [execOp, hop, hm, hx, hv, hrun, Result.andThen]
  exact hK' _ _ (hK w' l' r0 r1 r2)
theorem wpList_look_ok (hg : o.guard = none) (m x : Operand) (t : TypeId) (hop : o.op = Op.lookup t m x true)
    (k e : TypeId) (K : Keyed P k) (ht : P.underlying t = some (.map k e)) {z : Value} (hz : (zeroValue e).run P w = .ok z w) (b : Nat) (l : List (Value × Value))
    (hm : a.eval m = .map (some b)) (hown : OwnL w P k b l) (key : Value) (kl : Lit) (hx : a.eval x = key) (hkey : keyOf P k key = some kl)
    (h0 : (∀ p ∈ l, p.1 ≠ key) → wpList P ops Q rest (a.put o.dst (.tuple #[z, .bool false])) w)
    (h1 : ∀ (j : Nat) (v : Value), l[j]? = some (key, v) → wpList P ops Q rest (a.put o.dst (.tuple #[v, .bool true])) w) :
    wpList P ops Q (o :: rest) a w := by
  refine wpList_plain hg fun K' hK' => ?_
  rcases hown.look true K ht hz hkey with ⟨hn, hrun⟩ | ⟨j, v, hj, hrun⟩
  · unfold Oper.wp
    simp [execOp, hop, hm, hx, hrun, Result.andThen]
    exact hK' _ _ (h0 hn)
  · unfold Oper.wp
    simp [execOp, hop, hm, hx, hrun, Result.andThen]
    exact hK' _ _ (h1 j v hj)
theorem wpList_del (hg : o.guard = none) (m x : Operand) (t k : TypeId) (hop : o.op = Op.call { callee := Callee.builtin Builtin.delete, args := #[m, x], argTypes := #[t, k] })
    (e : TypeId) (K : Keyed P k) (ht : P.underlying t = some (.map k e)) (b : Nat) (l : List (Value × Value))
    (hm : a.eval m = .map (some b)) (hown : OwnL w P k b l) (key : Value) (kl : Lit) (hx : a.eval x = key) (hkey : keyOf P k key = some kl)
    (hK : ∀ w' l', ldel key l l' → OwnL w' P k b l' → Kept (fun i => i = b) w w' → wpList P ops Q rest (a.put o.dst (.tuple #[])) w') :
    wpList P ops Q (o :: rest) a w := by
  refine wpList_plain hg fun K' hK' => ?_
  obtain ⟨w', l', hrun, r0, r1, r2⟩ := hown.del K ht hkey o.type
  unfold Oper.wp
  simp [execOp, hop, resolve, invoke, builtin, hm, hx, hrun, Result.andThen]
  exact hK' _ _ (hK w' l' r0 r1 r2)
theorem wpList_len (hg : o.guard = none) (m : Operand) (t : TypeId) (hop : o.op = Op.call { callee := Callee.builtin Builtin.len, args := #[m], argTypes := #[t] })
    (k e : TypeId) (ht : P.underlying t = some (.map k e)) (b : Nat) (l : List (Value × Value)) (hm : a.eval m = .map (some b)) (hown : OwnL w P k b l)
    (hK : wpList P ops Q rest (a.put o.dst (.int .i64 l.length)) w) :
    wpList P ops Q (o :: rest) a w := by
  refine wpList_plain hg fun K' hK' => ?_
  unfold Oper.wp
  simp [execOp, hop, resolve, invoke, builtin, hm, hown.len ht o.type, Result.andThen]
  exact hK' _ _ hK
end
end Go.Colm
namespace Go.Proofs.YtoafmlegamjlpaaGreatDoor
open Go.RowKit Go.Colm
set_option linter.unusedVariables false
set_option linter.unusedSimpArgs false
set_option linter.unusedSectionVars false

def szL : List Nat := [0, 32, 48, 64, 96, 128, 192, 256, 384, 512]
def szAt (i : Nat) : Nat := szL.getD i 0
/-- The table of sizes lies there. -/
def Sz (w : World) : Prop := ∀ i, i < 10 → w.cell? ⟨1, i, none⟩ = some (.int .i64 (szAt i : Nat))
theorem Sz.lt {w : World} (h : Sz w) : 1 < w.heap.size := lt_of_cell (h 0 (by decide))
theorem Sz.keep {w w' : World} (h : Sz w) (hk : w'.heap[1]? = w.heap[1]?) : Sz w' := fun i hi => (World.cell?_of_block (a := ⟨1, i, none⟩) hk).trans (h i hi)
theorem Sz.below {w w' : World} (h : Sz w) (hb : Below w.heap.size w w') : Sz w' := h.keep (hb.block _ h.lt)

def blocksC (c : Nat) : Nat := if 1 ≤ c ∧ c ≤ 9 then 1024 / szAt c else 0
def classOf (n : Nat) : Nat := szL.findIdx fun z => decide (n ≤ z)
def ofC (n : Nat) : Nat × Int := if n < 1 then (0, 2) else if classOf n < 10 then (classOf n, 0) else (0, 22)
def entryC (n : Nat) : Nat × Int := if 480 < n then (0, 22) else ofC (32 + n)
def nodeC (n : Nat) : Nat × Int := if n < 1 ∨ 63 < n then (0, 20) else ofC (16 + n)

set_option maxHeartbeats 400000 in
theorem is_any (c : Int) (w : World) : Calls Tryz.prog 95 #[.int .i64 c] w fun e w' => e = .returned (.bool (decide (1 ≤ c ∧ c ≤ 9))) ∧ w' = w := by
  go_enter Tryz.func95, Tryz.ntmps95
  by_cases h1 : 1 ≤ c
  · by_cases h2 : c ≤ 9
    · go_wp2
      go_ret
      exact ⟨ret_bool (by simp [h1, h2]), rfl⟩
    · go_wp2
      go_ret
      exact ⟨ret_bool (by simp [h1, h2]), rfl⟩
  · go_wp2
    go_ret
    exact ⟨ret_bool (by simp; omega), rfl⟩

set_option maxHeartbeats 800000 in
theorem blocks_any (c : Nat) (w : World) (hs : Sz w) : Calls Tryz.prog 54 #[.int .i64 (c : Int)] w fun e w' => e = .returned (.int .i64 (blocksC c : Nat)) ∧ w' = w := by
  have HS := Lib.hid hs
  clear hs
  go_enter Tryz.func54, Tryz.ntmps54
  go_wp2_with fail
  refine (is_any _ _).mono ?_
  rintro e w1 ⟨rfl, rfl⟩
  by_cases h : 1 ≤ c ∧ c ≤ 9
  · have hc := HS.out c (by omega)
    have hd : decide ((1 : Int) ≤ (c : Int) ∧ (c : Int) ≤ 9) = true := by simp; omega
    obtain ⟨h1, h2⟩ := h
    have hz : ((szAt c : Nat) : Int) ≠ 0 := by
      have : c = 1 ∨ c = 2 ∨ c = 3 ∨ c = 4 ∨ c = 5 ∨ c = 6 ∨ c = 7 ∨ c = 8 ∨ c = 9 := by omega
      rcases this with rfl | rfl | rfl | rfl | rfl | rfl | rfl | rfl | rfl <;> decide
    rw [hd]
    obtain ⟨z, hzz⟩ : ∃ z, z = szAt c := ⟨_, rfl⟩
    rw [← hzz] at hc hz
    have HZ := Lib.hid hzz
    clear hzz
    go_wp2
    go_ret
    refine ⟨ret_int ?_, rfl⟩
    rw [blocksC, if_pos ⟨h1, h2⟩, ← HZ.out]
    first | rfl | simp | omega
  · have hd : decide ((1 : Int) ≤ (c : Int) ∧ (c : Int) ≤ 9) = false := by simp; omega
    rw [hd]
    go_wp2
    go_ret
    refine ⟨ret_int ?_, rfl⟩
    rw [blocksC, if_neg h]
    rfl

theorem findIdx_le (n k : Nat) (hk : k < 10) (h : ∀ j, j < k → ¬ n ≤ szAt j) (h2 : n ≤ szAt k) : classOf n = k := by
  have hlen : szL.length = 10 := rfl
  have e : ∀ j (hj : j < szL.length), szL[j] = szAt j := fun j hj => by simp [szAt, List.getD_eq_getElem?_getD, hj]
  rw [classOf, List.findIdx_eq (by rw [hlen]; exact hk)]
  refine ⟨by rw [e]; simpa using h2, fun j hj => ?_⟩
  have := h j hj
  rw [e]
  simpa using this
theorem findIdx_none (n : Nat) (h : ∀ j, j < 10 → ¬ n ≤ szAt j) : classOf n = 10 := by
  have hlen : szL.length = 10 := rfl
  have e : ∀ j (hj : j < szL.length), szL[j] = szAt j := fun j hj => by simp [szAt, List.getD_eq_getElem?_getD, hj]
  rw [classOf, List.findIdx_eq_length.2]
  · rfl
  · intro x hx
    obtain ⟨j, hj, rfl⟩ := List.getElem_of_mem hx
    rw [e]
    simpa using h j (by rw [← hlen]; exact hj)

theorem run_index_sz (i : Nat) (h : i < 10) (W : World) : (Instr.index 138 (.agg #[.int .i64 0, .int .i64 32, .int .i64 48, .int .i64 64, .int .i64 96, .int .i64 128, .int .i64 192, .int .i64 256, .int .i64 384, .int .i64 512]) (.int .i64 (i : Int))).run Tryz.prog W = .ok (.int .i64 (szAt i : Nat)) W := by
  have hc : i = 0 ∨ i = 1 ∨ i = 2 ∨ i = 3 ∨ i = 4 ∨ i = 5 ∨ i = 6 ∨ i = 7 ∨ i = 8 ∨ i = 9 := by omega
  rcases hc with rfl | rfl | rfl | rfl | rfl | rfl | rfl | rfl | rfl | rfl <;> simp [Instr.index, run_underlying Tryz.underlying138, asIntOf, go_sem, part, szAt, szL]

set_option maxRecDepth 20000 in
set_option maxHeartbeats 4000000 in
theorem of_any (n : Nat) (w : World) (hs : Sz w) (hn : n < 1099511627776) : Calls Tryz.prog 251 #[.int .i64 (n : Int)] w fun e w' => e = .returned (.tuple #[.int .i64 ((ofC n).1 : Nat), .int .i64 (ofC n).2]) ∧ w' = w := by
  have e0 := hs 0 (by omega)
  have e1 := hs 1 (by omega)
  have e2 := hs 2 (by omega)
  have e3 := hs 3 (by omega)
  have e4 := hs 4 (by omega)
  have e5 := hs 5 (by omega)
  have e6 := hs 6 (by omega)
  have e7 := hs 7 (by omega)
  have e8 := hs 8 (by omega)
  have e9 := hs 9 (by omega)
  clear hs
  simp only [szAt, szL, List.getD_cons_zero, List.getD_cons_succ] at e0 e1 e2 e3 e4 e5 e6 e7 e8 e9
  go_enter Tryz.func251, Tryz.ntmps251
  by_cases h1 : n < 1
  · go_wp2
    go_ret2
    rw [ofC, if_pos h1]
    exact ⟨rfl, rfl⟩
  · go_wp2_with fail
    go_loop [4, 5, 9] (fun s4 s5 s9 => ∃ k : Nat, k ≤ 10 ∧ s9 = .int .i64 (k : Int) ∧ Hid (∀ j : Nat, j < k → ¬ n ≤ szAt j)) (fun _ _ s9 => match s9 with | .int _ m => 10 - m.toNat | _ => 0)
    case atStart => exact ⟨0, Nat.zero_le _, rfl, Lib.hid (fun j h => absurd h (by omega))⟩
    case round =>
      obtain ⟨k, hk, rfl, H⟩ := hrel
      by_cases hk10 : k < 10
      · have hix := run_index_sz k hk10
        obtain ⟨z, hz⟩ : ∃ z, z = szAt k := ⟨_, rfl⟩
        rw [← hz] at hix
        have HZ := Lib.hid hz
        clear hz
        by_cases h2 : n ≤ z
        · go_wp2
          go_ret2
          have hx := findIdx_le n k hk10 H.out (by rw [← HZ.out]; exact h2)
          rw [ofC, if_neg h1, if_pos (by rw [hx]; exact hk10), hx]
          exact ⟨rfl, rfl⟩
        · have H2 : Hid (∀ j : Nat, j < k + 1 → ¬ n ≤ szAt j) := Lib.hid fun j hj => by
            rcases Nat.lt_succ_iff_lt_or_eq.1 hj with h3 | rfl
            · exact H.out j h3
            · rw [← HZ.out]; exact h2
          go_wp2_with fail
          go_round
          case rel => exact ⟨k + 1, by omega, by go_num, H2⟩
          case measure => simp; omega
      · have hk2 : k = 10 := by omega
        subst hk2
        have hx := findIdx_none n H.out
        have HX := Lib.hid hx
        clear hx
        go_wp2
        all_goals first | omega | skip
        go_ret2
        rw [ofC, if_neg h1, if_neg (by rw [HX.out]; decide)]
        exact ⟨rfl, rfl⟩

set_option maxHeartbeats 800000 in
theorem entry_any (n : Nat) (w : World) (hs : Sz w) (hn : n < 1099511627776) : Calls Tryz.prog 190 #[.int .i64 (n : Int)] w fun e w' => e = .returned (.tuple #[.int .i64 ((entryC n).1 : Nat), .int .i64 (entryC n).2]) ∧ w' = w := by
  have HS := Lib.hid hs
  clear hs
  go_enter Tryz.func190, Tryz.ntmps190
  by_cases h1 : 480 < n
  · go_wp2
    go_ret2
    rw [entryC, if_pos h1]
    exact ⟨rfl, rfl⟩
  · go_wp2_with fail
    rw [show (32 : Int) + (n : Int) = ((32 + n : Nat) : Int) by omega]
    refine (of_any _ _ HS.out (by omega)).mono ?_
    rintro e w1 ⟨rfl, rfl⟩
    go_wp2
    go_ret2
    rw [entryC, if_neg h1]
    exact ⟨rfl, rfl⟩

set_option maxHeartbeats 800000 in
theorem node_any (n : Nat) (w : World) (hs : Sz w) (hn : n < 1099511627776) : Calls Tryz.prog 189 #[.int .i64 (n : Int)] w fun e w' => e = .returned (.tuple #[.int .i64 ((nodeC n).1 : Nat), .int .i64 (nodeC n).2]) ∧ w' = w := by
  have HS := Lib.hid hs
  clear hs
  go_enter Tryz.func189, Tryz.ntmps189
  by_cases h0 : n < 1
  · go_wp2
    go_ret2
    rw [nodeC, if_pos (.inl h0)]
    exact ⟨rfl, rfl⟩
  · by_cases h1 : 63 < n
    · go_wp2
      go_ret2
      rw [nodeC, if_pos (.inr h1)]
      exact ⟨rfl, rfl⟩
    · go_wp2_with fail
      rw [show (16 : Int) + (n : Int) = ((16 + n : Nat) : Int) by omega]
      refine (of_any _ _ HS.out (by omega)).mono ?_
      rintro e w1 ⟨rfl, rfl⟩
      go_wp2
      go_ret2
      rw [nodeC, if_neg (by omega)]
      exact ⟨rfl, rfl⟩
end Go.Proofs.YtoafmlegamjlpaaGreatDoor
namespace Go.Proofs.YtoafmlegamjlpaaGreatDoor
open Go.RowKit Go.Colm
set_option linter.unusedVariables false

theorem row_kept {S : Nat → Prop} {w w' : World} {A : Option Addr} {vs : List Value} (h : RowV w A vs) (hk : Kept S w w') (hs : ∀ a, A = some a → ¬ S a.block) : RowV w' A vs := fun i v hv => by
  obtain ⟨b, off, e, hc⟩ := h i v hv
  exact ⟨b, off, e, hk.cell hc (hs ⟨b, off, none⟩ e)⟩
theorem own_stays {S : Nat → Prop} {w w' : World} {base : Nat} {e : TypeId} {size : Nat} {v : Value} {n : Nat} {xs : List Value} (h : w.ownsRow base e size v n xs) (hk : Kept S w w') (hs : ∀ k, v.ownBlock = some k → ¬ S k) : w'.ownsRow base e size v n xs := by
  refine ⟨h.1, ?_⟩
  rcases h.2 with h0 | ⟨g, cap, cur, rfl, hle, hg, r⟩
  · exact .inl h0
  · exact .inr ⟨g, cap, cur, rfl, hle, (hk.block g (Array.getElem?_eq_some_iff.1 hg).1 (hs g rfl)).trans hg, r⟩
theorem own_base {w : World} {base base' : Nat} {e : TypeId} {size : Nat} {v : Value} {n : Nat} {xs : List Value} (h : w.ownsRow base e size v n xs) (hb : base' ≤ base) : w.ownsRow base' e size v n xs := by
  refine ⟨h.1, ?_⟩
  rcases h.2 with h0 | ⟨g, cap, cur, rfl, hle, r⟩
  · exact .inl h0
  · exact .inr ⟨g, cap, cur, rfl, by omega, r⟩
theorem own_ge {w : World} {base : Nat} {e : TypeId} {size : Nat} {v : Value} {n : Nat} {xs : List Value} (h : w.ownsRow base e size v n xs) {k : Nat} (hk : v.ownBlock = some k) : base ≤ k ∧ k < w.heap.size := by
  rcases h.2 with ⟨rfl, _⟩ | ⟨g, cap, cur, rfl, hle, hg, _⟩
  · cases hk
  · have : g = k := by simpa [Value.ownBlock] using hk
    subst this
    exact ⟨hle, (Array.getElem?_eq_some_iff.1 hg).1⟩
end Go.Proofs.YtoafmlegamjlpaaGreatDoor
namespace Go.Proofs.YtoafmlegamjlpaaGreatDoor
open Go.RowKit Go.Colm
set_option linter.unusedVariables false
set_option linter.unusedSimpArgs false

theorem u8_info : (Tryz.prog.info? 5).map (fun i => (i.zero, i.size, i.bytes)) = some (some (.int .u8 0), 1, 1) := by kernel_rfl
theorem bytes_info : (Tryz.prog.info? 22).map (fun i => (i.zero, i.size, i.bytes)) = some (some (.slice none 0 0), 1, 24) := by kernel_rfl

set_option maxHeartbeats 1600000 in
/-- A copy: of none, none; else bytes of its own. -/
theorem bclone_any (A : Option Addr) (c : Nat) (x : List UInt8) (w : World) (hx : x.length < 1099511627776) (hr : RowV w A (bytesV x)) :
    Calls Tryz.prog 78 #[.slice A x.length c] w fun e w' => ∃ u, e = .returned u ∧ w'.ownsRow w.heap.size 5 1 u x.length (bytesV x) ∧ Below w.heap.size w w' := by
  obtain ⟨i0, hi, hz0, hz1, hz2⟩ := info_parts u8_info
  have HR := Lib.hid hr
  clear hr
  have q22 : ∀ (w : World) (a : Option Addr) (n c n' c' : Nat), (binOp .eql 22 (.slice a n c) (.slice none n' c')).run Tryz.prog w = .ok (.bool a.isNone) w := fun w a n c n' c' => Lib.run_eql_slice_nil w _ _ a n c n' c' Tryz.underlying22
  go_enter Tryz.func78, Tryz.ntmps78
  rcases A with _ | a
  · go_wp2
    go_ret
    have hx0 : x = [] := by
      rcases x with _ | ⟨y, r⟩
      · rfl
      · obtain ⟨b, off, h, _⟩ := HR.out 0 _ rfl
        cases h
    subst hx0
    exact ⟨_, rfl, ⟨rfl, .inl ⟨rfl, rfl⟩⟩, Below.refl _ _⟩
  · go_wp2_with (at_builtin; refine wpList_append_own _ rfl _ _ 22 rfl w.heap.size 5 i0 (.int .u8 0) 1 1 Tryz.underlying22 hi hz0 hz1 hz2 rfl (by decide) _ _ _ rfl (World.ownsRow_made w #[] 0 (Nat.le_refl _) (Nat.zero_le _) rfl) a x.length c (bytesV x) rfl ?qc1 ?qc2 ?qc3 ?qc4 ?qc5 ?qc6 ?_)
    case qc1 => rw [bytesV_length, Nat.mul_one]
    case qc2 =>
      intro j u hu
      obtain ⟨b, off, e, hc⟩ := HR.out j u hu
      cases e
      rw [Addr.add_lit]
      exact Lib.cell?_alloc_some _ hc
    case qc3 =>
      intro u hu
      obtain ⟨y, _, rfl⟩ := List.mem_map.1 hu
      rfl
    case qc4 => unfold maxLen; omega
    case qc5 => omega
    case qc6 => simp
    intro v' w' hown hg hnil
    go_wp2
    go_ret
    refine ⟨_, rfl, ?_, ?_⟩
    · simpa using hown
    · exact ((Below.refl _ w).alloc (Nat.le_refl _) _).grown hg (by simp) (by intro k hk; simp [Value.ownBlock] at hk; omega)
end Go.Proofs.YtoafmlegamjlpaaGreatDoor
