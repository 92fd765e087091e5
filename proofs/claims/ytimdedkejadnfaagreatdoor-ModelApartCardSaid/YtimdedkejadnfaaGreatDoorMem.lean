/-
  Words for memory of these proofs: a slice value that reads as a list of one-cell values. Over any program. No condition.
-/
import Derived.WalkKit
import Derived.Deep.Draws
import Derived.Laws.BytesArg
import Derived.Lib.ConvBytes
import Derived.Lib.SlBytesConst
import Derived.Lib.Hide
namespace Go.Colm
open Go.RowKit

theorem lt_of_cell {w : World} {a : Addr} {v : Value} (h : w.cell? a = some v) : a.block < w.heap.size := by
  rcases Nat.lt_or_ge a.block w.heap.size with h' | h'
  · exact h'
  · simp [World.cell?, Array.getElem?_eq_none h'] at h

/-- The slice at A begins with the cells vs (nothing is said of A where vs is empty). -/
def RowV (w : World) (A : Option Addr) (vs : List Value) : Prop :=
  ∀ i v, vs[i]? = some v → ∃ b off, A = some ⟨b, off, none⟩ ∧ w.cell? ⟨b, off + i, none⟩ = some v

theorem RowV.nil (w : World) (A : Option Addr) : RowV w A [] := fun i v h => by simp at h
theorem RowV.keep {w w' : World} {A : Option Addr} {vs : List Value} (h : RowV w A vs) (hk : ∀ p : Addr, p.block < w.heap.size → w'.cell? p = w.cell? p) : RowV w' A vs := fun i v hv => by
  obtain ⟨b, off, e, hc⟩ := h i v hv
  exact ⟨b, off, e, (hk _ (lt_of_cell hc)).trans hc⟩
theorem RowV.below {w w' : World} {A : Option Addr} {vs : List Value} (h : RowV w A vs) (hb : Below w.heap.size w w') : RowV w' A vs := h.keep fun _ hp => hb.cell hp
theorem RowV.drewN {w : World} {A : Option Addr} {vs : List Value} (h : RowV w A vs) (n : Nat) : RowV (w.drewN n) A vs := h
theorem RowV.alloc {w : World} {A : Option Addr} {vs : List Value} (h : RowV w A vs) (o : Obj) : RowV (w.alloc o) A vs := h.keep fun p hp => World.cell?_alloc_lt w o p hp

def bytesV (l : List UInt8) : List Value := l.map fun b => .int .u8 (b.toNat : Int)
theorem bytesV_length (l : List UInt8) : (bytesV l).length = l.length := by simp [bytesV]
theorem RowV.byte {w : World} {A : Option Addr} {l : List UInt8} (h : RowV w A (bytesV l)) {k : Nat} (hk : k < l.length) :
    ∃ b off, A = some ⟨b, off, none⟩ ∧ w.cell? ⟨b, off + k, none⟩ = some (.int .u8 (l[k].toNat : Int)) :=
  h k _ (by simp [bytesV, hk])
theorem below_drewN {B : Nat} {w w' : World} (h : Below B w w') (n : Nat) : Below B w (w'.drewN n) := ⟨h.os, h.tape, h.output, h.size, h.block⟩
theorem below_of_drewN (w : World) (n : Nat) : Below w.heap.size w (w.drewN n) := below_drewN (Below.refl _ _) n
theorem below_chain {w w1 w2 : World} (h : Below w.heap.size w w1) (k : Below w1.heap.size w1 w2) : Below w.heap.size w w2 := h.trans (k.mono h.size)
theorem ret_int {k : IntKind} {a b : Int} (h : a = b) : Ending.returned (.int k a) = .returned (.int k b) := by rw [h]
theorem ret_bool {a b : Bool} (h : a = b) : Ending.returned (.bool a) = .returned (.bool b) := by rw [h]
theorem ret_str {a b : List UInt8} (h : a = b) : Ending.returned (.string ⟨a.toArray⟩) = .returned (.string ⟨b.toArray⟩) := by rw [h]
theorem byte_range (b : UInt8) : (0 : Int) ≤ (b.toNat : Int) ∧ (b.toNat : Int) < 256 := by
  have := UInt8.toNat_lt b
  omega
theorem take_snoc_str (s : ByteArray) (k : Nat) (h : k < s.size) : s.data.toList.take (k + 1) = s.data.toList.take k ++ [s[k]] := by
  rw [List.take_succ_eq_append_getElem (by simpa using h)]; rfl
theorem heap_new (w : World) (o : Obj) : (w.alloc o).heap[w.heap.size]? = some o := heap_alloc_new w o
theorem RowV.new (w : World) (T : TypeId) (cs : Array Value) : RowV (w.alloc (.cells cs T)) (some ⟨w.heap.size, 0, none⟩) cs.toList := fun i v h => by
  refine ⟨_, 0, rfl, ?_⟩
  have hh := heap_new w (.cells cs T)
  simp only [World.cell?, hh, Nat.zero_add]
  simpa using h
theorem RowV.newM (w : World) (T : TypeId) (cs : Array Value) (m : Nat × Nat) : RowV (w.alloc (.cells cs T m)) (some ⟨w.heap.size, 0, none⟩) cs.toList := fun i v h => by
  refine ⟨_, 0, rfl, ?_⟩
  have hh := heap_new w (.cells cs T m)
  simp only [World.cell?, hh, Nat.zero_add]
  simpa using h
theorem ofInt_byte {x : Int} (h0 : 0 ≤ x) (h1 : x < 256) : ((UInt8.ofNat x.toNat).toNat : Int) = x := by
  simp only [UInt8.toNat_ofNat']
  omega
theorem RowV.new2 (w : World) (T : TypeId) (x y : Int) (x0 : 0 ≤ x) (x1 : x < 256) (y0 : 0 ≤ y) (y1 : y < 256) :
    RowV (w.alloc (.cells #[.int .u8 x, .int .u8 y] T)) (some ⟨w.heap.size, 0, none⟩) (bytesV [UInt8.ofNat x.toNat, UInt8.ofNat y.toNat]) := by
  have h := RowV.new w T #[.int .u8 x, .int .u8 y]
  have e : bytesV [UInt8.ofNat x.toNat, UInt8.ofNat y.toNat] = [.int .u8 x, .int .u8 y] := by simp only [bytesV, List.map_cons, List.map_nil, ofInt_byte x0 x1, ofInt_byte y0 y1]
  rw [e]
  exact h
theorem RowV.new1 (w : World) (T : TypeId) (x : Int) (x0 : 0 ≤ x) (x1 : x < 256) :
    RowV (w.alloc (.cells #[.int .u8 x] T)) (some ⟨w.heap.size, 0, none⟩) (bytesV [UInt8.ofNat x.toNat]) := by
  have h := RowV.new w T #[.int .u8 x]
  have e : bytesV [UInt8.ofNat x.toNat] = [.int .u8 x] := by simp only [bytesV, List.map_cons, List.map_nil, ofInt_byte x0 x1]
  rw [e]
  exact h
theorem own_row {w : World} {base : Nat} {e : TypeId} {v : Value} {n : Nat} {xs : List Value} (h : w.ownsRow base e 1 v n xs) : ∃ A c, v = .slice A n c ∧ RowV w A xs := by
  rcases h with ⟨hl, h⟩
  rcases h with ⟨rfl, rfl⟩ | ⟨g, cap, cur, rfl, _, hg, hn, _, hcs, ht⟩
  · have : xs = [] := List.eq_nil_of_length_eq_zero (by simpa using hl)
    subst this
    exact ⟨none, 0, rfl, RowV.nil _ _⟩
  · refine ⟨_, cap, rfl, fun i v hv => ⟨g, 0, rfl, ?_⟩⟩
    have hi : i < xs.length := (List.getElem?_eq_some_iff.1 hv).1
    rw [← ht, List.getElem?_take_of_lt (by omega)] at hv
    simp only [World.cell?, hg, Nat.zero_add]
    simpa using hv
theorem own_below {a w w' : World} {base : Nat} {e : TypeId} {size : Nat} {v : Value} {n : Nat} {xs : List Value} (h : w.ownsRow base e size v n xs) (hb : Below base a w) (hB : base ≤ w.heap.size) (hg : w.grownBy w' v.ownBlock) : Below base a w' := by
  refine hb.grown hg hB fun k hk => ?_
  rcases h.2 with ⟨rfl, _⟩ | ⟨g, cap, cur, rfl, hle, _⟩
  · simp [Value.ownBlock] at hk
  · have : g = k := by simpa [Value.ownBlock] using hk
    omega
theorem own_nil (w : World) (base : Nat) (e : TypeId) (size : Nat) : w.ownsRow base e size (.slice none 0 0) 0 [] := ⟨by simp, .inl ⟨rfl, rfl⟩⟩
/-- Bytes turned to a text. -/
theorem run_text {P : Program} {src e : TypeId} (hs : P.underlying src = some (.slice e)) (he : P.underlying e = some (.int .u8)) (w : World) (A : Option Addr) (l : List UInt8) (c : Nat) (hr : RowV w A (bytesV l)) (hA : ∀ a, A = some a → a.spot = none)
    (dst : TypeId) (hd : P.underlying dst = some .string) : (convert src dst (.slice A l.length c)).run P w = .ok (.string ⟨l.toArray⟩) w := by
  rcases A with _ | ⟨b, off, spot⟩
  · have hl : l = [] := by
      rcases l with _ | ⟨x, l⟩
      · rfl
      · obtain ⟨b, off, h, _⟩ := hr 0 _ rfl
        cases h
    subst hl
    exact run_convert_bytes_nil w src e hs he _ c dst hd
  · have := hA _ rfl
    simp only at this
    subst this
    have hc : ∀ i, i < l.length → w.cell? ⟨b, off + i, none⟩ = some (.int .u8 ((l.map fun x => (x.toNat : Int)).getD i 0)) := fun i hi => by
      obtain ⟨b', off', h, hc⟩ := hr.byte hi
      cases h
      rw [hc]
      simp [hi]
    have h := run_convert_bytes_arg w src e hs he b off l.length c (l.map fun x => (x.toNat : Int)) (by simp) hc dst hd
    rw [h]
    congr 1
    congr 1
    simp only [strOfNums, List.map_map]
    congr 2
    conv => rhs; rw [← List.map_id l]
    exact List.map_congr_left fun x _ => by simp
theorem below_bytesWorld (w : World) (e : TypeId) (s : ByteArray) : Below w.heap.size w (Lib.bytesWorld w e s) :=
  ⟨rfl, rfl, rfl, by rw [Lib.bytesWorld_size]; omega, fun j hj => Lib.bytesWorld_at_old w e s j hj⟩
theorem RowV.bytesWorld (w : World) (e : TypeId) (s : ByteArray) : RowV (Lib.bytesWorld w e s) (some ⟨w.heap.size, 0, none⟩) (bytesV s.data.toList) := fun i v h => by
  have hi : i < s.data.toList.length := by
    have := (List.getElem?_eq_some_iff.1 h).1
    rwa [bytesV_length] at this
  refine ⟨_, 0, rfl, ?_⟩
  rw [Nat.zero_add, Lib.bytesWorld_cell w e s i (by simpa using hi)]
  simp only [bytesV, List.getElem?_map, List.getElem?_eq_getElem hi, Option.map_some, Option.some.injEq] at h
  rw [← h, List.getD_eq_getElem?_getD, List.getElem?_eq_getElem hi]
  rfl
/-- Where a slice's rest begins: at its very end the model leaves the address as it is. -/
def cutA (A : Option Addr) (c k s : Nat) : Option Addr := if c = k then A else A.map (·.add (k * s))
theorem run_cut_from {P : Program} {t e : TypeId} {s : Nat} (ht : P.underlying t = some (.slice e)) (hs : ∀ w, (sizeOf e).run P w = .ok s w) (A : Option Addr) (n c : Nat) (kd : IntKind) (k : Int) (h0 : 0 ≤ k) (h1 : k ≤ n) (w : World) :
    (Instr.slice t (.slice A n c) (some (.int kd k)) none none).run P w = .ok (.slice (cutA A c k.toNat s) (n - k.toNat) (c - k.toNat)) w := by
  simp [Instr.slice, run_underlying ht, Instr.sliceBounds, run_sliceBound w kd k n _ h0 h1, hs, cutA]
theorem run_cut_to {P : Program} {t e : TypeId} {s : Nat} (ht : P.underlying t = some (.slice e)) (hs : ∀ w, (sizeOf e).run P w = .ok s w) (A : Option Addr) (n c : Nat) (kd : IntKind) (k : Int) (h0 : 0 ≤ k) (h1 : k ≤ c) (w : World) :
    (Instr.slice t (.slice A n c) none (some (.int kd k)) none).run P w = .ok (.slice A k.toNat c) w := by
  simp [Instr.slice, run_underlying ht, Instr.sliceBounds, run_sliceBound w kd k c _ h0 h1, hs]
  intro h
  cases A <;> simp [Addr.add]
theorem RowV.take {w : World} {A : Option Addr} {vs : List Value} (h : RowV w A vs) (k : Nat) : RowV w A (vs.take k) := fun i v hv => by
  have hi : i < k := by
    have := (List.getElem?_eq_some_iff.1 hv).1
    rw [List.length_take] at this
    omega
  rw [List.getElem?_take_of_lt hi] at hv
  exact h i v hv
theorem RowV.cut {w : World} {A : Option Addr} {vs : List Value} (h : RowV w A vs) {c k s : Nat} (hc : vs.length ≤ c * s) : RowV w (cutA A c k s) (vs.drop (k * s)) := fun i v hv => by
  rw [List.getElem?_drop] at hv
  have hi := (List.getElem?_eq_some_iff.1 hv).1
  obtain ⟨b, off, rfl, hcell⟩ := h _ v hv
  have hck : c ≠ k := by
    rintro rfl
    omega
  rw [cutA, if_neg hck]
  by_cases hz : k * s = 0
  · rw [hz] at hcell ⊢
    exact ⟨b, off, by simp [Addr.add], by simpa using hcell⟩
  · exact ⟨b, off + k * s, by simp [Addr.add, hz], by rw [Nat.add_assoc]; exact hcell⟩
end Go.Colm
