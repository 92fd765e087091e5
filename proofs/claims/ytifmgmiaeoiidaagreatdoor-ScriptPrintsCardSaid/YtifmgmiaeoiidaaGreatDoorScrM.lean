/-
  Steps of a script in memory: records, steps, in blocks of which N holds. Plain of any program but for the layout. No condition.
-/
import Derived.Test.YtifmgmiaeoiidaaGreatDoorScrO0
import Derived.Test.YtifmgmiaeoiidaaGreatDoorInp
import Derived.Lib.Join
namespace Go.Scrp
open Go.RowKit Go.Colm
set_option linter.unusedVariables false

def RowN (N : Nat → Prop) (w : World) (A : Option Addr) (vs : List Value) : Prop := ∀ i v, vs[i]? = some v → ∃ b off, A = some ⟨b, off, none⟩ ∧ N b ∧ w.cell? ⟨b, off + i, none⟩ = some v
theorem RowN.row {N : Nat → Prop} {w : World} {A : Option Addr} {vs : List Value} (h : RowN N w A vs) : RowV w A vs := fun i v hv => by
  obtain ⟨b, off, e, _, hc⟩ := h i v hv
  exact ⟨b, off, e, hc⟩
theorem RowN.of {w : World} {A : Option Addr} {vs : List Value} (h : RowV w A vs) : RowN (fun _ => True) w A vs := fun i v hv => by
  obtain ⟨b, off, e, hc⟩ := h i v hv
  exact ⟨b, off, e, trivial, hc⟩
/-- What lies in N's blocks of w lies so in N''s of w'. -/
def Turn (N N' : Nat → Prop) (w w' : World) : Prop := ∀ b off v, N b → w.cell? ⟨b, off, none⟩ = some v → N' b ∧ w'.cell? ⟨b, off, none⟩ = some v
theorem RowN.turn {N N' : Nat → Prop} {w w' : World} (hk : Turn N N' w w') {A : Option Addr} {vs : List Value} (h : RowN N w A vs) : RowN N' w' A vs := fun i v hv => by
  obtain ⟨b, off, e, hn, hc⟩ := h i v hv
  exact ⟨b, off, e, (hk _ _ _ hn hc).1, (hk _ _ _ hn hc).2⟩
theorem Turn.below {N : Nat → Prop} {w w' : World} (h : Below w.heap.size w w') : Turn N N w w' := fun b off v hn hc => ⟨hn, (h.cell (p := ⟨b, off, none⟩) (lt_of_cell hc)).trans hc⟩
theorem Turn.kept {N S : Nat → Prop} {w w' : World} (h : Kept S w w') (hs : ∀ k, N k → ¬ S k) : Turn N N w w' := fun b off v hn hc => ⟨hn, h.cell hc (hs _ hn)⟩
theorem Turn.any {N : Nat → Prop} (w : World) : Turn N (fun _ => True) w w := fun b off v hn hc => ⟨trivial, hc⟩
/-- A row of records. -/
def RecsAt (N : Nat → Prop) (w : World) (A : Option Addr) (l : List (List UInt8)) : Prop :=
  ∀ i (hi : i < l.length), ∃ b off A' cp, A = some ⟨b, off, none⟩ ∧ N b ∧ w.cell? ⟨b, off + i, none⟩ = some (.slice A' l[i].length cp) ∧ (l[i].length ≤ cp ∧ cp ≤ maxLen) ∧ RowN N w A' (bytesV l[i])
theorem RecsAt.turn {N N' : Nat → Prop} {w w' : World} (hk : Turn N N' w w') {A : Option Addr} {l : List (List UInt8)} (h : RecsAt N w A l) : RecsAt N' w' A l := fun i hi => by
  obtain ⟨b, off, A', cp, e, hn, hc, hl, hr⟩ := h i hi
  exact ⟨b, off, A', cp, e, (hk _ _ _ hn hc).1, (hk _ _ _ hn hc).2, hl, hr.turn hk⟩
theorem RecsAt.nil (N : Nat → Prop) (w : World) (A : Option Addr) : RecsAt N w A [] := fun i hi => by simp at hi

mutual
/-- A step's nine cells. -/
def OpdAt (N : Nat → Prop) (w : World) (b off : Nat) : Opd → Prop
  | .mk h l => h.Ok ∧ N b ∧ w.cell? ⟨b, off, none⟩ = some (.int .i64 h.kind) ∧ w.cell? ⟨b, off + 1, none⟩ = some (.string ⟨h.name.toArray⟩) ∧ w.cell? ⟨b, off + 2, none⟩ = some (.int .u16 (h.typ : Int)) ∧
    (∃ A cp, w.cell? ⟨b, off + 3, none⟩ = some (.slice A h.recs.length cp) ∧ (h.recs.length ≤ cp ∧ cp ≤ maxLen) ∧ RecsAt N w A h.recs) ∧
    w.cell? ⟨b, off + 4, none⟩ = some (.int .u64 (h.life : Int)) ∧ w.cell? ⟨b, off + 5, none⟩ = some (.int .u64 (h.n : Int)) ∧
    (∃ A cp, w.cell? ⟨b, off + 6, none⟩ = some (.slice A l.length cp) ∧ (l.length ≤ cp ∧ cp ≤ maxLen) ∧ OpdsAt N w A 0 l) ∧
    w.cell? ⟨b, off + 7, none⟩ = some (.int .i64 h.how) ∧ w.cell? ⟨b, off + 8, none⟩ = some (.int .i64 h.code)
/-- Steps of a row, from place i on. -/
def OpdsAt (N : Nat → Prop) (w : World) (A : Option Addr) (i : Nat) : List Opd → Prop
  | [] => True
  | o :: r => (∃ b off, A = some ⟨b, off, none⟩ ∧ OpdAt N w b (off + i * 9) o) ∧ OpdsAt N w A (i + 1) r
end
theorem opdsAt_nil {N : Nat → Prop} {w : World} {A : Option Addr} {i : Nat} : OpdsAt N w A i [] := by rw [OpdsAt]; trivial
theorem opdsAt_cons {N : Nat → Prop} {w : World} {A : Option Addr} {i : Nat} {o : Opd} {r : List Opd} : OpdsAt N w A i (o :: r) ↔ (∃ b off, A = some ⟨b, off, none⟩ ∧ OpdAt N w b (off + i * 9) o) ∧ OpdsAt N w A (i + 1) r := by rw [OpdsAt]
theorem opdAt_mk {N : Nat → Prop} {w : World} {b off : Nat} {h : Hd} {l : List Opd} : OpdAt N w b off (.mk h l) ↔ h.Ok ∧ N b ∧ w.cell? ⟨b, off, none⟩ = some (.int .i64 h.kind) ∧ w.cell? ⟨b, off + 1, none⟩ = some (.string ⟨h.name.toArray⟩) ∧ w.cell? ⟨b, off + 2, none⟩ = some (.int .u16 (h.typ : Int)) ∧
    (∃ A cp, w.cell? ⟨b, off + 3, none⟩ = some (.slice A h.recs.length cp) ∧ (h.recs.length ≤ cp ∧ cp ≤ maxLen) ∧ RecsAt N w A h.recs) ∧
    w.cell? ⟨b, off + 4, none⟩ = some (.int .u64 (h.life : Int)) ∧ w.cell? ⟨b, off + 5, none⟩ = some (.int .u64 (h.n : Int)) ∧
    (∃ A cp, w.cell? ⟨b, off + 6, none⟩ = some (.slice A l.length cp) ∧ (l.length ≤ cp ∧ cp ≤ maxLen) ∧ OpdsAt N w A 0 l) ∧
    w.cell? ⟨b, off + 7, none⟩ = some (.int .i64 h.how) ∧ w.cell? ⟨b, off + 8, none⟩ = some (.int .i64 h.code) := by rw [OpdAt]
mutual
theorem OpdAt.turn {N N' : Nat → Prop} {w w' : World} (hk : Turn N N' w w') (b off : Nat) : ∀ o : Opd, OpdAt N w b off o → OpdAt N' w' b off o
  | .mk h l => fun H => by
    obtain ⟨h0, hn, h1, h2, h3, ⟨A, cp, h4, h4l, h4r⟩, h5, h6, ⟨A', cp', h7, h7l, h7r⟩, h8, h9⟩ := opdAt_mk.1 H
    exact opdAt_mk.2 ⟨h0, (hk _ _ _ hn h1).1, (hk _ _ _ hn h1).2, (hk _ _ _ hn h2).2, (hk _ _ _ hn h3).2, ⟨A, cp, (hk _ _ _ hn h4).2, h4l, h4r.turn hk⟩, (hk _ _ _ hn h5).2, (hk _ _ _ hn h6).2,
      ⟨A', cp', (hk _ _ _ hn h7).2, h7l, OpdsAt.turn hk A' 0 l h7r⟩, (hk _ _ _ hn h8).2, (hk _ _ _ hn h9).2⟩
theorem OpdsAt.turn {N N' : Nat → Prop} {w w' : World} (hk : Turn N N' w w') (A : Option Addr) (i : Nat) : ∀ l : List Opd, OpdsAt N w A i l → OpdsAt N' w' A i l
  | [] => fun _ => opdsAt_nil
  | o :: r => fun H => by
    obtain ⟨⟨b, off, e, ho⟩, hr⟩ := opdsAt_cons.1 H
    exact opdsAt_cons.2 ⟨⟨b, off, e, OpdAt.turn hk b _ o ho⟩, OpdsAt.turn hk A (i + 1) r hr⟩
end
theorem OpdsAt.get {N : Nat → Prop} {w : World} {A : Option Addr} : ∀ (l : List Opd) (i k : Nat) (hk : k < l.length), OpdsAt N w A i l → ∃ b off, A = some ⟨b, off, none⟩ ∧ OpdAt N w b (off + (i + k) * 9) l[k]
  | [], _, _, hk, _ => absurd hk (by simp)
  | s :: r, i, 0, _, h => (opdsAt_cons.1 h).1
  | s :: r, i, k + 1, hk, h => by
    have g := OpdsAt.get r (i + 1) k (by simpa using hk) (opdsAt_cons.1 h).2
    rw [show i + (k + 1) = i + 1 + k by omega]
    simpa using g
theorem OpdsAt.of_get {N : Nat → Prop} {w : World} {A : Option Addr} : ∀ (l : List Opd) (i : Nat), (∀ k (hk : k < l.length), ∃ b off, A = some ⟨b, off, none⟩ ∧ OpdAt N w b (off + (i + k) * 9) l[k]) → OpdsAt N w A i l
  | [], _, _ => opdsAt_nil
  | s :: r, i, h => opdsAt_cons.2 ⟨h 0 (by simp), OpdsAt.of_get r (i + 1) fun k hk => by
      have := h (k + 1) (by simpa using hk)
      rw [show i + 1 + k = i + (k + 1) by omega]
      simpa using this⟩

/-- Texts as cells. -/
def txtV (l : List (List UInt8)) : List Value := l.map fun s => .string ⟨s.toArray⟩
theorem txtV_length (l : List (List UInt8)) : (txtV l).length = l.length := by simp [txtV]
theorem txtV_append (a b : List (List UInt8)) : txtV (a ++ b) = txtV a ++ txtV b := by simp [txtV]
/-- A record as a word, records as one. -/
def itemL (r : List UInt8) : List UInt8 := if r = [] then [45] else hexL r
def setL (l : List (List UInt8)) : List UInt8 := if l = [] then [46] else Lib.join (l.map itemL) [44]
/-- How many bytes there are of texts, one more each. -/
def bulk : List (List UInt8) → Nat
  | [] => 0
  | s :: r => s.length + 1 + bulk r
theorem bulk_append : ∀ (a b : List (List UInt8)), bulk (a ++ b) = bulk a + bulk b
  | [], b => by simp [bulk]
  | s :: r, b => by simp [bulk, bulk_append r b]; omega
theorem bulk_get : ∀ (l : List (List UInt8)) (k : Nat) (h : k < l.length), l[k].length + 1 ≤ bulk l
  | s :: r, 0, _ => by simp [bulk]
  | s :: r, k + 1, h => by
    have := bulk_get r k (by simpa using h)
    simp [bulk]
    omega
theorem bulk_length : ∀ l : List (List UInt8), l.length ≤ bulk l
  | [] => by simp
  | s :: r => by
    have := bulk_length r
    simp [bulk]
    omega
theorem item_len (r : List UInt8) : (itemL r).length ≤ 2 * r.length + 1 := by
  unfold itemL
  split
  · simp
  · rw [hexL_length]
    omega
theorem item_bulk : ∀ l : List (List UInt8), bulk (l.map itemL) ≤ 2 * bulk l
  | [] => by simp [bulk]
  | s :: r => by
    have := item_bulk r
    have := item_len s
    simp [bulk]
    omega
theorem bulk_lens : ∀ l : List (List UInt8), bulk l = l.length + Lib.lens l
  | [] => by simp [bulk, Lib.lens]
  | s :: r => by
    have := bulk_lens r
    simp [bulk, Lib.lens] at *
    omega
theorem join_bulk (x : UInt8) : ∀ l : List (List UInt8), l ≠ [] → (Lib.join l [x]).length + 1 = bulk l
  | [], h => absurd rfl h
  | s :: r, _ => by
    rw [Lib.join_length, bulk_lens]
    simp
    omega
theorem set_len (l : List (List UInt8)) : (setL l).length ≤ 2 * bulk l + 1 := by
  unfold setL
  split
  · simp
  · rename_i h
    have := join_bulk 44 (l.map itemL) (by simpa using h)
    have := item_bulk l
    omega
end Go.Scrp
