/-
  How what comes in is read: a slice of bytes, a slice of texts, as rows of cells. Over any program. No condition.
-/
import Derived.Test.YtoafmlegamjlpaaGreatDoorKA
import Derived.OpenShut
import Derived.ProofKit
import Derived.SliceStrings
namespace Go.Colm
open Go.RowKit Go.ChangeShapes Go.WideShapes

def strsV (l : List ByteArray) : List Value := l.map .string
theorem strsV_length (l : List ByteArray) : (strsV l).length = l.length := by simp [strsV]
theorem RowV.str {w : World} {A : Option Addr} {l : List ByteArray} (h : RowV w A (strsV l)) {k : Nat} (hk : k < l.length) :
    ∃ b off, A = some ⟨b, off, none⟩ ∧ w.cell? ⟨b, off + k, none⟩ = some (.string l[k]) :=
  h k _ (by simp [strsV, hk])

theorem row_of_cells {w : World} {x : Addr} {vs : List Value} (h : ∀ i v, vs[i]? = some v → w.cell? (x.add i) = some v) : RowV w (some x) vs := fun i v hv => by
  have hi : i < vs.length := (List.getElem?_eq_some_iff.1 hv).1
  have h0 := h 0 vs[0] (List.getElem?_eq_getElem (by omega))
  obtain ⟨b, off, spot⟩ := x
  have hs : spot = none := by simpa [Addr.add] using World.cell?_spot h0
  subst hs
  refine ⟨b, off, rfl, ?_⟩
  have hc := h i v hv
  by_cases hi0 : i = 0
  · subst hi0
    simpa [Addr.add] using hc
  · simpa [Addr.add, hi0] using hc

section
variable {H : Type} {enc : TypeId × Value → H} {P : Program} {w : World} {base : Nat} {spare : Nat → Bool} {held : Bool}
theorem read_bytes {t e : TypeId} (ht : P.underlying t = some (.slice e)) (he : P.underlying e = some (.int .u8)) (hc : P.cellsOf e = 1) {a : Option Addr} {len cap fuel : Nat} {x : DataW H × List MemPlace}
    (h : DataW.trod enc P w base spare held fuel t [.slice a len cap] = some x) : ∃ l : List UInt8, l.length = len ∧ len ≤ cap ∧ cap ≤ maxLen ∧ RowV w a (bytesV l) := by
  rcases open_ints ht he hc h with ⟨hcs, _⟩ | ⟨x, l, c, zs, hcs, _, hl, hm, hz, _, hcell, hwz⟩
  · simp at hcs
    obtain ⟨rfl, rfl, rfl⟩ := hcs
    exact ⟨[], rfl, by omega, by unfold maxLen; omega, RowV.nil _ _⟩
  · simp at hcs
    obtain ⟨rfl, rfl, rfl⟩ := hcs
    have hlen : len ≤ zs.length := by
      rw [hz]
      split <;> omega
    refine ⟨(zs.take len).map fun n => UInt8.ofNat n.toNat, by simp; omega, hl, hm, ?_⟩
    apply row_of_cells
    intro i v hv
    have hi : i < len := by
      have := (List.getElem?_eq_some_iff.1 hv).1
      simp [bytesV] at this
      omega
    rw [hcell i (by omega), ← hv]
    have hw : (Lit.int .u8 zs[i]).wf = true := hwz _ (List.getElem_mem _)
    have hb := bounds_u8 hw
    simp only [bytesV, List.getElem?_map, List.getElem?_take_of_lt hi, List.getElem?_eq_getElem (show i < zs.length by omega), Option.map_some, List.getD_eq_getElem?_getD, Option.getD_some]
    rw [ofInt_byte (by omega) (by omega)]
theorem read_strs {t e : TypeId} (ht : P.underlying t = some (.slice e)) (he : P.underlying e = some .string) (hc : P.cellsOf e = 1) {a : Option Addr} {len cap fuel : Nat} {x : DataW H × List MemPlace}
    (h : DataW.trod enc P w base spare held fuel t [.slice a len cap] = some x) : ∃ l : List ByteArray, l.length = len ∧ len ≤ cap ∧ cap ≤ maxLen ∧ (∀ s ∈ l, s.size ≤ maxLen) ∧ RowV w a (strsV l) := by
  rcases open_strings ht he hc h with ⟨hcs, _⟩ | ⟨x, l, c, ss, hcs, _, hl, hm, hz, _, hcell, hsz⟩
  · simp at hcs
    obtain ⟨rfl, rfl, rfl⟩ := hcs
    exact ⟨[], rfl, by omega, by unfold maxLen; omega, by simp, RowV.nil _ _⟩
  · simp at hcs
    obtain ⟨rfl, rfl, rfl⟩ := hcs
    have hlen : len ≤ ss.length := by
      rw [hz]
      split <;> omega
    refine ⟨ss.take len, by simp; omega, hl, hm, fun s hs => hsz s (List.mem_of_mem_take hs), ?_⟩
    apply row_of_cells
    intro i v hv
    have hi : i < len := by
      have := (List.getElem?_eq_some_iff.1 hv).1
      simp [strsV] at this
      omega
    rw [hcell i (by omega), ← hv]
    simp only [strsV, List.getElem?_map, List.getElem?_take_of_lt hi, List.getElem?_eq_getElem (show i < ss.length by omega), Option.map_some, List.getD_eq_getElem?_getD, Option.getD_some]
end
end Go.Colm
