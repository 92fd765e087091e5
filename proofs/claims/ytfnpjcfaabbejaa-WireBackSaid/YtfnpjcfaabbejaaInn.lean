/-
  How a slice of names that comes in is read: a slice of slices of texts. Over any program with such types. No condition.
-/
import Derived.Test.YtfnpjcfaabbejaaWireW
import Derived.Test.YtfnpjcfaabbejaaInp
import Derived.Deep.Slices
import Derived.ChangeSame
namespace Go.Proofs.Ytfnpjcfaabbejaa
open Go.RowKit Go.Colm Go.ChangeShapes Go.WideShapes
set_option linter.unusedVariables false

theorem list_choose {α : Type} {n : Nat} {p : Nat → α → Prop} (h : ∀ i, i < n → ∃ x, p i x) : ∃ l : List α, l.length = n ∧ ∀ i (hi : i < l.length), p i l[i] := by
  induction n with
  | zero => exact ⟨[], rfl, fun i hi => by simp at hi⟩
  | succ n ih =>
    obtain ⟨l, hl, hp⟩ := ih fun i hi => h i (by omega)
    obtain ⟨x, hx⟩ := h n (by omega)
    refine ⟨l ++ [x], by simp [hl], fun i hi => ?_⟩
    by_cases e : i < l.length
    · rw [List.getElem_append_left e]
      exact hp i e
    · have : i = n := by
        simp at hi
        omega
      subst this
      rw [List.getElem_append_right (by omega)]
      simpa [hl] using hx
theorem strsV_lab (l : List ByteArray) : strsV l = labV (l.map fun s => s.data.toList) := by
  simp [strsV, labV]

section
variable {H : Type} {enc : TypeId × Value → H} {P : Program} {w : World} {base : Nat} {spare : Nat → Bool} {held : Bool}
theorem read_labels {T S : TypeId} (hT : P.underlying T = some (.slice S)) (hS : P.underlying S = some .string) (cS : P.cellsOf S = 1) {fuel : Nat} {cs : List Value} {x : DataW H × List MemPlace} (h : DataW.trod enc P w base spare held fuel T cs = some x) :
    ∃ (A : Option Addr) (l : List (List UInt8)) (cap : Nat), cs = [.slice A l.length cap] ∧ l.length ≤ cap ∧ cap ≤ maxLen ∧ (∀ s ∈ l, s.length ≤ maxLen) ∧ RowV w A (labV l) := by
  obtain ⟨A, len, cap, rfl⟩ : ∃ A len cap, cs = [.slice A len cap] := by
    rcases DataW.trod_slice hT h with ⟨e, _⟩ | ⟨a, len, cap, elems, rest, m, _, e, _⟩
    · exact ⟨_, _, _, e⟩
    · exact ⟨_, _, _, e⟩
  obtain ⟨l, rfl, h1, h2, h3, h4⟩ := read_strs hT hS cS h
  rw [strsV_lab] at h4
  refine ⟨A, l.map fun s => s.data.toList, cap, by simp, by simpa using h1, h2, fun s hs => ?_, h4⟩
  obtain ⟨b, hb, rfl⟩ := List.mem_map.1 hs
  have := h3 b hb
  simpa using this
theorem read_names {TT T S : TypeId} (ht : P.underlying TT = some (.slice T)) (hT : P.underlying T = some (.slice S)) (hS : P.underlying S = some .string) (cT : P.cellsOf T = 1) (cS : P.cellsOf S = 1) {A : Option Addr} {len cap fuel : Nat} {x : DataW H × List MemPlace}
    (h : DataW.trod enc P w base spare held fuel TT [.slice A len cap] = some x) :
    ∃ ll : List (List (List UInt8)), ll.length = len ∧ len ≤ cap ∧ cap ≤ maxLen ∧ (∀ l ∈ ll, l.length ≤ maxLen ∧ ∀ s ∈ l, s.length ≤ maxLen) ∧ NamesV w A ll := by
  rcases DataW.trod_slice ht h with ⟨e, _⟩ | ⟨a, len', cap', elems, rest, m, _, e, _, _, hl, hm, hlen, hel, _, _⟩
  · simp at e
    obtain ⟨rfl, rfl, rfl⟩ := e
    exact ⟨[], rfl, by omega, by unfold maxLen; omega, by simp, fun i l hl => by simp at hl⟩
  · simp at e
    obtain ⟨rfl, rfl, rfl⟩ := e
    have key : ∀ i, i < len → ∃ l : List (List UInt8), (l.length ≤ maxLen ∧ ∀ s ∈ l, s.length ≤ maxLen) ∧ ∃ b off Au cu, (some a : Option Addr) = some ⟨b, off, none⟩ ∧ w.cell? ⟨b, off + i, none⟩ = some (.slice Au l.length cu) ∧ l.length ≤ cu ∧ RowV w Au (labV l) := by
      intro i hi
      have hb := hel i hi
      rw [List.getElem?_eq_getElem (by omega)] at hb
      obtain ⟨cs', hc1, hc2⟩ := Option.bind_eq_some_iff.1 hb
      rw [cT] at hc1
      obtain ⟨_, hl1, hcell⟩ := World.cells?_some hc1
      obtain ⟨b, off, spot⟩ := a
      have hspot : spot = none := by
        have hb0 := hel 0 (by omega)
        rw [List.getElem?_eq_getElem (by omega)] at hb0
        obtain ⟨ds, hd1, _⟩ := Option.bind_eq_some_iff.1 hb0
        rw [cT] at hd1
        obtain ⟨_, hdl, hdc⟩ := World.cells?_some hd1
        have h00 := hdc 0 (by omega)
        rw [List.getElem?_eq_getElem (by omega)] at h00
        simpa [Addr.add] using World.cell?_spot h00
      subst hspot
      obtain ⟨Au, l, cu, rfl, h1, h2, h3, h4⟩ := read_labels hT hS cS hc2
      have hcc := hcell 0 (by simp)
      refine ⟨l, ⟨by omega, h3⟩, b, off, Au, cu, rfl, ?_, h1, h4⟩
      by_cases hi0 : i = 0
      · subst hi0
        simpa [Addr.add] using hcc
      · simpa [Addr.add, hi0] using hcc
    obtain ⟨ll, hll, hk⟩ := list_choose key
    refine ⟨ll, hll, hl, hm, fun l hl => ?_, fun i l hi => ?_⟩
    · obtain ⟨i, hi, rfl⟩ := List.mem_iff_getElem.1 hl
      exact (hk i hi).1
    · obtain ⟨hi2, rfl⟩ := List.getElem?_eq_some_iff.1 hi
      exact (hk i hi2).2
end
end Go.Proofs.Ytfnpjcfaabbejaa
