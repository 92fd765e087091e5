/-
  How steps that come in are read: a slice of steps as a tree; a slice of bools. Over any program with such types. No condition.
-/
import Derived.Test.YtopmcjpnfnfjiaaLendS
import Derived.Test.YtopmcjpnfnfjiaaInp
import Derived.Deep.Slices
import Derived.ChangeSame
namespace Go.Lendp
open Go.RowKit Go.Colm Go.ChangeShapes Go.WideShapes
set_option linter.unusedVariables false

theorem list_choose {α : Type} {n : Nat} {p : Nat → α → Prop} (h : ∀ i, i < n → ∃ x, p i x) : ∃ l : List α, l.length = n ∧ ∀ i (hi : i < l.length), p i l[i] := by
  induction n with
  | zero => exact ⟨[], rfl, fun i hi => by simp at hi⟩
  | succ n ih =>
    obtain ⟨l, hl, hp⟩ := ih fun i hi => h i (by omega)
    obtain ⟨x, hx⟩ := h n (by omega)
    refine ⟨l ++ [x], by simp [hl], fun i hi => ?_⟩
    by_cases e : i < l.length
    · rw [List.getElem_append_left e]
      exact hp i e
    · have : i = n := by
        simp at hi
        omega
      subst this
      rw [List.getElem_append_right (by omega)]
      simpa [hl] using hx
theorem StpsAt.of_get {N : Nat → Prop} {w : World} {A : Option Addr} : ∀ (l : List Stp) (i : Nat), (∀ k (hk : k < l.length), ∃ b off, A = some ⟨b, off, none⟩ ∧ N b ∧ StpAt N w b (off + (i + k) * 3) l[k]) → StpsAt N w A i l
  | [], _, _ => stpsAt_nil
  | s :: r, i, h => stpsAt_cons.2 ⟨h 0 (by simp), StpsAt.of_get r (i + 1) fun k hk => by
      have := h (k + 1) (by simpa using hk)
      rw [show i + 1 + k = i + (k + 1) by omega]
      simpa using this⟩

section
variable {H : Type} {enc : TypeId × Value → H} {P : Program} {w : World} {base : Nat} {spare : Nat → Bool} {held : Bool}
theorem read_steps {TS T I : TypeId} {f0 f1 f2 : Field} (ht : P.underlying TS = some (.slice T)) (hT : P.underlying T = some (.struct #[f0, f1, f2])) (hI : P.underlying I = some (.int .i64))
    (h0 : f0.type = I ∧ f0.offset = 0) (h1 : f1.type = I ∧ f1.offset = 1) (h2 : f2.type = TS ∧ f2.offset = 2) (cT : P.cellsOf T = 3) (cI : P.cellsOf I = 1) (cS : P.cellsOf TS = 1) :
    ∀ (n fuel : Nat) (cs : List Value) (x : DataW H × List MemPlace), fuel < n → DataW.trod enc P w base spare held fuel TS cs = some x →
      ∃ (A : Option Addr) (l : List Stp) (cap : Nat), cs = [.slice A l.length cap] ∧ l.length ≤ cap ∧ cap ≤ maxLen ∧ StpsAt (fun _ => True) w A 0 l ∧ Go.Proofs.Ytopmcjpnfnfjiaa.Lim l
  | 0, _, _, _, h, _ => absurd h (by omega)
  | n + 1, fuel, cs, x, hf, h => by
    rcases DataW.trod_slice ht h with ⟨e, _⟩ | ⟨a, len, cap, elems, rest, m, e, rfl, _, _, hl, hm, hlen, hel, _, _⟩
    · exact ⟨none, [], 0, e, by simp, by unfold maxLen; omega, stpsAt_nil, .mk (by simp) (by simp)⟩
    · have key : ∀ i, i < len → ∃ s : Stp, (∃ b off, (some a : Option Addr) = some ⟨b, off, none⟩ ∧ StpAt (fun _ => True) w b (off + i * 3) s) ∧ Go.Proofs.Ytopmcjpnfnfjiaa.Lim (subs s) := by
        intro i hi
        have hb := hel i hi
        rw [List.getElem?_eq_getElem (by omega)] at hb
        obtain ⟨cs', hc1, hc2⟩ := Option.bind_eq_some_iff.1 hb
        rw [cT] at hc1
        obtain ⟨_, hl3, hcell⟩ := World.cells?_some hc1
        match cs', hl3 with
        | [c0, c1, c2], _ =>
          obtain ⟨b, off, spot⟩ := a
          have hspot : spot = none := by
            have hb0 := hel 0 (by omega)
            rw [List.getElem?_eq_getElem (by omega)] at hb0
            obtain ⟨ds, hd1, _⟩ := Option.bind_eq_some_iff.1 hb0
            rw [cT] at hd1
            obtain ⟨_, hdl, hdc⟩ := World.cells?_some hd1
            have h00 := hdc 0 (by omega)
            rw [List.getElem?_eq_getElem (by omega)] at h00
            simpa [Addr.add] using World.cell?_spot h00
          subst hspot
          obtain ⟨xs, k, ek, _, _, hxl, hfd⟩ := DataW.trod_struct hT hc2
          match xs, hxl with
          | [y0, y1, y2], _ =>
            have g0 := hfd 0 f0 rfl
            have g1 := hfd 1 f1 rfl
            have g2 := hfd 2 f2 rfl
            rw [h0.1, h0.2, cI] at g0
            rw [h1.1, h1.2, cI] at g1
            rw [h2.1, h2.2, cS] at g2
            simp at g0 g1 g2
            obtain ⟨n0, e0, _⟩ := DataW.trod_int hI g0
            obtain ⟨n1, e1, _⟩ := DataW.trod_int hI g1
            obtain ⟨A2, l2, cap2, e2, _, _, hs2, hl2⟩ := read_steps ht hT hI h0 h1 h2 cT cI cS n k _ _ (by omega) g2
            simp at e0 e1 e2
            subst e0 e1 e2
            have q0 := hcell 0 (by omega)
            have q1 := hcell 1 (by omega)
            have q2 := hcell 2 (by omega)
            simp [Addr.add_lit] at q0 q1 q2
            refine ⟨.mk n0 n1 l2, ⟨b, off, rfl, stpAt_mk.2 ⟨?_, q1, A2, cap2, q2, hs2⟩⟩, hl2⟩
            by_cases hz : i = 0
            · subst hz
              simpa [Addr.add] using q0
            · simpa [Addr.add, hz] using q0
      obtain ⟨l, hll, hp⟩ := list_choose key
      subst hll
      refine ⟨some a, l, cap, rfl, hl, hm, StpsAt.of_get l 0 fun k hk => ?_, .mk (by unfold maxLen at hm; omega) fun k hk => (hp k hk).2⟩
      obtain ⟨⟨b, off, e1, e2⟩, _⟩ := hp k hk
      refine ⟨b, off, e1, trivial, ?_⟩
      rw [Nat.zero_add]
      exact e2

def boolsV (l : List Bool) : List Value := l.map .bool
theorem read_bools {t e : TypeId} (ht : P.underlying t = some (.slice e)) (he : P.underlying e = some .bool) (hc : P.cellsOf e = 1) {a : Option Addr} {len cap fuel : Nat} {x : DataW H × List MemPlace}
    (h : DataW.trod enc P w base spare held fuel t [.slice a len cap] = some x) : ∃ l : List Bool, l.length = len ∧ len ≤ cap ∧ cap ≤ maxLen ∧ RowV w a (boolsV l) := by
  rcases DataW.trod_slice ht h with ⟨e, _⟩ | ⟨a', len', cap', elems, rest, m, _, hcs, _, _, hl, hm, hlen, hel, _, _⟩
  · simp at e
    obtain ⟨rfl, rfl, rfl⟩ := e
    exact ⟨[], rfl, by omega, by unfold maxLen; omega, RowV.nil _ _⟩
  · simp at hcs
    obtain ⟨rfl, rfl, rfl⟩ := hcs
    have key : ∀ i, i < len → ∃ b : Bool, w.cell? (a'.add i) = some (.bool b) := by
      intro i hi
      have hb := hel i hi
      rw [List.getElem?_eq_getElem (by omega)] at hb
      obtain ⟨cs', hc1, hc2⟩ := Option.bind_eq_some_iff.1 hb
      rw [hc] at hc1
      obtain ⟨_, hl3, hcell⟩ := World.cells?_some hc1
      obtain ⟨b, e1, _⟩ := DataW.trod_bool he hc2
      subst e1
      have q0 := hcell 0 (by omega)
      refine ⟨b, ?_⟩
      simpa [Addr.add] using q0
    obtain ⟨l, hll, hp⟩ := list_choose key
    refine ⟨l, hll, hl, hm, row_of_cells fun i v hv => ?_⟩
    have hi : i < l.length := by
      have := (List.getElem?_eq_some_iff.1 hv).1
      simpa [boolsV] using this
    rw [hp i hi, ← hv]
    simp [boolsV, hi]
end
end Go.Lendp
