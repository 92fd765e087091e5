/-
  The walks of both All, and of Same on names. Bytes fewer than 2^40.
-/
import Derived.Test.YtfnpjcfaabbejaaWireX
import Derived.Test.YtfnpjcfaabbejaaWireZ
namespace Go.Proofs.Ytfnpjcfaabbejaa
open Go.RowKit Go.Foldp Go.Colm Go.Wirep Go.Maps
set_option linter.unusedVariables false

/-- A slice of names: slice i reads as the labels of name i. -/
def NamesR (w : World) (A : Option Addr) (ll : List (List (List UInt8))) : Prop :=
  ∀ i l, ll[i]? = some l → ∃ b off Au cu, A = some ⟨b, off, none⟩ ∧ w.cell? ⟨b, off + i, none⟩ = some (.slice Au l.length cu) ∧ RowV w Au (labV l)
theorem NamesR.below {w w' : World} {A : Option Addr} {ll : List (List (List UInt8))} (h : NamesR w A ll) (hb : Below w.heap.size w w') : NamesR w' A ll := fun i l hl => by
  obtain ⟨b, off, Au, cu, e, hc, hr⟩ := h i l hl
  exact ⟨b, off, Au, cu, e, (hb.cell (lt_of_cell hc)).trans hc, hr.below hb⟩
/-- What comes of reading all. -/
def AllIt (w : World) (g : List (List (List UInt8)) × Int) (e : Ending) (w' : World) : Prop :=
  ∃ A c, e = .returned (.tuple #[.slice A g.1.length c, .int .i64 g.2]) ∧ NamesR w' A g.1 ∧ Below w.heap.size w w'
theorem AllIt.err {w w' : World} {g : List (List (List UInt8)) × Int} {x : Int} (h : g = ([], x)) (hb : Below w.heap.size w w') : AllIt w g (.returned (.tuple #[.slice none 0 0, .int .i64 x])) w' := by
  subst h
  exact ⟨none, 0, rfl, fun i l hl => by simp at hl, hb⟩
/-- The names that were got, as values. -/
def NameVals (w : World) (vs : List Value) (ll : List (List (List UInt8))) : Prop :=
  ∀ (i : Nat) (l : List (List UInt8)), ll[i]? = some l → ∃ (A : Option Addr) (c : Nat), vs[i]? = some (Value.slice A l.length c) ∧ RowT w 9 A (labV l)
/-- What is carried from name to name. -/
structure AllLoop (b : List UInt8) (w : World) (at_ : Nat) (out : List (List (List UInt8))) (u : Value) (vs : List Value) (wr : World) : Prop where
  row : wr.ownsRow w.heap.size 24 1 u out.length vs
  vals : NameVals wr vs out
  all : allL b = allG b (b.length - at_) at_ out
  below : Below w.heap.size w wr
  inside : at_ ≤ b.length
  few : out.length ≤ at_
theorem AllLoop.start (b : List UInt8) (w : World) : AllLoop b w 0 [] (.slice none 0 0) [] w :=
  ⟨own_nil _ _ _ _, fun i l hl => by simp at hl, rfl, Below.refl _ _, Nat.zero_le _, Nat.le_refl _⟩
theorem AllLoop.names {b : List UInt8} {w wr : World} {at_ : Nat} {out : List (List (List UInt8))} {u : Value} {vs : List Value} (h : AllLoop b w at_ out u vs wr) : ∃ A c, u = .slice A out.length c ∧ NamesR wr A out := by
  obtain ⟨A, c, e, hr⟩ := own_row h.row
  refine ⟨A, c, e, fun i l hl => ?_⟩
  obtain ⟨Au, cu, hv, hru⟩ := h.vals i l hl
  obtain ⟨bb, off, e2, hc⟩ := hr i _ hv
  exact ⟨bb, off, Au, cu, e2, hc, hru.row⟩
theorem AllLoop.next {b : List UInt8} {w wr w2 w3 : World} {at_ : Nat} {out : List (List (List UInt8))} {u u3 : Value} {vs : List Value} (h : AllLoop b w at_ out u vs wr) (hlt : at_ < b.length) (he : (getA b at_).2.2 = 0) {A : Option Addr} {c : Nat} {l : List (List UInt8)} (hl : l = (getA b at_).1)
    (hb2 : Below wr.heap.size wr w2) (hr : RowT w2 9 A (labV l))
    (hown : w3.ownsRow w.heap.size 24 1 u3 (out.length + 1) (vs ++ [.slice A l.length c])) (hg : (w2.alloc (.cells #[.slice A l.length c] 24)).grownBy w3 u.ownBlock) : AllLoop b w (getA b at_).2.1 (out ++ [l]) u3 (vs ++ [.slice A l.length c]) w3 := by
  have hn := getA_next he
  have hf := h.few
  have ka : Kept (fun _ => False) wr (w2.alloc (.cells #[.slice A l.length c] 24)) := (Kept.below hb2 _).alloc _
  have hra := own_kept ka h.row fun _ _ => id
  have kg := Kept.grown hg
  have hns : ∀ k cs fz, (w2.alloc (.cells #[.slice A l.length c] 24)).heap[k]? = some (.cells cs 9 fz) → ¬ (u.ownBlock = some k) := fun k cs fz hh => Lib.ownBlock_ne hra hh (by decide)
  refine ⟨by rw [List.length_append]; exact hown, fun i l' hi => ?_, by rw [h.all, allG_on hlt he, hl], own_below hra (h.below.trans ((ka.to_below (B := w.heap.size) h.below.size fun _ _ => id))) (Nat.le_trans h.below.size ka.size) hg, hn.2, by simp; omega⟩
  have hvl : vs.length = out.length := by have := h.row.1; omega
  by_cases hio : i < out.length
  · rw [List.getElem?_append_left hio] at hi
    obtain ⟨A', c', e1, e2⟩ := h.vals i l' hi
    exact ⟨A', c', by rw [List.getElem?_append_left (by omega)]; exact e1, (e2.kept ka fun _ _ _ _ => id).kept kg hns⟩
  · have hie : i = out.length := by
      have := (List.getElem?_eq_some_iff.1 hi).1
      simp at this
      omega
    subst hie
    simp at hi
    subst hi
    exact ⟨A, c, by rw [← hvl]; simp, (hr.alloc _).kept kg hns⟩

set_option maxRecDepth 100000 in
set_option maxHeartbeats 4000000 in
theorem wall_any (A : Option Addr) (cb : Nat) (b : List UInt8) (w : World) (hr : RowV w A (bytesV b)) (hcb : b.length ≤ cb) (hb : b.length < 1099511627776) :
    Calls Try.prog 13 #[.slice A b.length cb] w (AllIt w (allL b)) := by
  have HG : Hid (∀ (at_ : Nat) W, Below w.heap.size w W → Calls Try.prog 8 #[.slice A b.length cb, .int .i64 (at_ : Int)] W (GotIt W (getA b at_))) := Lib.hid (fun at_ W hbw => get_any A cb b at_ W (hr.below hbw) hcb hb)
  have HL : Hid (AllLoop b w 0 [] (.slice none 0 0) [] w) := Lib.hid (AllLoop.start b w)
  clear hr
  go_enter Try.func13, Try.ntmps13
  go_wp2_with fail
  go_loopw [4, 5] (fun u4 u5 wr => ∃ (at_ : Nat) (out : List (List (List UInt8))) (vs : List Value), u5 = .int .i64 at_ ∧ Hid (AllLoop b w at_ out u4 vs wr)) (fun _ u5 _ => b.length - (intOf u5).toNat)
  case atStart => exact ⟨0, [], [], rfl, HL⟩
  case round =>
    obtain ⟨at_, out, vs, rfl, HL⟩ := hrel
    by_cases hlt : at_ < b.length
    · have hfew := HL.out.few
      have hget := HG.out at_ _ HL.out.below
      by_cases he : (getA b at_).2.2 = 0
      · have hnx := getA_next he
        have HNX := Lib.hid (fun A c l hl w2 w3 u3 hb2 hr hown hg => HL.out.next (w2 := w2) (w3 := w3) (u3 := u3) (A := A) (c := c) (l := l) hlt he hl hb2 hr hown hg)
        obtain ⟨g, hg⟩ : ∃ g, g = getA b at_ := ⟨_, rfl⟩
        rw [← hg] at he hget hnx
        simp only [← hg] at HNX
        obtain ⟨l, nx, er⟩ := g
        simp only at he hnx HNX
        subst he
        have HGET := Lib.hid hget
        obtain ⟨i0, hi, hz0, hz1, hz2⟩ := info_parts sl_info
        clear hget hg
        go_wp2_with fail
        refine HGET.out.mono ?_
        rintro e w2 ⟨A2, c2, rfl, hr2, hb2⟩
        have HR2 := Lib.hid hr2
        have HB2 := Lib.hid hb2
        have HOW := Lib.hid (own_kept (Kept.below hb2 (fun _ => False)) HL.out.row fun _ _ => id)
        have hsz2 := Nat.le_trans HL.out.below.size hb2.size
        clear hr2 hb2
        go_wp2_with (at_builtin; refine wpList_append_own _ rfl _ _ 32 rfl w.heap.size 24 i0 (.slice none 0 0) 1 24 Try.underlying32 hi hz0 hz1 hz2 rfl (by decide) u4 out.length vs rfl (HOW.out.alloc _) ⟨w2.heap.size, 0, none⟩ 1 1 [.slice A2 l.length c2] rfl rfl (cell_one_new _ _ _) (sl_one _ _ _) (by unfold maxLen; omega) (by omega) (by simp; omega) ?_; intro u3 w3 hown3 hg3 _; have HN := Lib.hid (HNX.out A2 c2 l rfl w2 w3 u3 HB2.out HR2.out hown3 hg3); clear hown3 hg3)
        go_roundw
        case rel => exact ⟨nx, _, _, rfl, HN⟩
        case measure => simp [intOf]; omega
      · have HF : Hid (∀ W, Below w.heap.size w W → AllIt w (allL b) (.returned (.tuple #[.slice none 0 0, .int .i64 (getA b at_).2.2])) W) := Lib.hid (fun W hbw => AllIt.err (by rw [HL.out.all, allG_no hlt he]) hbw)
        obtain ⟨g, hg⟩ : ∃ g, g = getA b at_ := ⟨_, rfl⟩
        rw [← hg] at he hget HF
        obtain ⟨l, nx, er⟩ := g
        simp only at he HF
        have t1 : (er != 0) = true := by rwa [bne_iff_ne]
        have HGET := Lib.hid hget
        have HBW := Lib.hid HL.out.below
        clear hget hg he
        go_wp2_with fail
        refine HGET.out.mono ?_
        rintro e w2 ⟨A2, c2, rfl, hr2, hb2⟩
        have HFF := Lib.hid (HF.out w2 (HBW.out.trans (hb2.mono HBW.out.size)))
        clear hr2 hb2
        go_wp2_with fail
        go_ret2
        exact HFF.out
    · obtain ⟨Au, cu, rfl, hnr⟩ := HL.out.names
      have HF : Hid (AllIt w (allL b) (.returned (.tuple #[.slice Au out.length cu, .int .i64 0])) wr) := Lib.hid (by
        rw [HL.out.all, allG_end (by omega)]
        exact ⟨Au, cu, rfl, hnr, HL.out.below⟩)
      clear hnr
      go_wp2_with fail
      go_ret2
      exact HF.out

set_option maxRecDepth 100000 in
set_option maxHeartbeats 4000000 in
theorem rall_any (A : Option Addr) (cb : Nat) (b : List UInt8) (w : World) (hr : RowV w A (bytesV b)) (hcb : b.length ≤ cb) (hb : b.length < 1099511627776) :
    Calls Try.prog 14 #[.slice A b.length cb] w (AllIt w (allL b)) := by
  have HG : Hid (∀ (at_ : Nat) W, Below w.heap.size w W → Calls Try.prog 9 #[.slice A b.length cb, .int .i64 (at_ : Int)] W (GotIt W (getA b at_))) := Lib.hid (fun at_ W hbw => rget_any A cb b at_ W (hr.below hbw) hcb hb)
  have HL : Hid (AllLoop b w 0 [] (.slice none 0 0) [] w) := Lib.hid (AllLoop.start b w)
  clear hr
  go_enter Try.func14, Try.ntmps14
  go_wp2_with fail
  go_loopw [4, 5] (fun u4 u5 wr => ∃ (at_ : Nat) (out : List (List (List UInt8))) (vs : List Value), u5 = .int .i64 at_ ∧ Hid (AllLoop b w at_ out u4 vs wr)) (fun _ u5 _ => b.length - (intOf u5).toNat)
  case atStart => exact ⟨0, [], [], rfl, HL⟩
  case round =>
    obtain ⟨at_, out, vs, rfl, HL⟩ := hrel
    by_cases hlt : at_ < b.length
    · have hfew := HL.out.few
      have hget := HG.out at_ _ HL.out.below
      by_cases he : (getA b at_).2.2 = 0
      · have hnx := getA_next he
        have HNX := Lib.hid (fun A c l hl w2 w3 u3 hb2 hr hown hg => HL.out.next (w2 := w2) (w3 := w3) (u3 := u3) (A := A) (c := c) (l := l) hlt he hl hb2 hr hown hg)
        obtain ⟨g, hg⟩ : ∃ g, g = getA b at_ := ⟨_, rfl⟩
        rw [← hg] at he hget hnx
        simp only [← hg] at HNX
        obtain ⟨l, nx, er⟩ := g
        simp only at he hnx HNX
        subst he
        have HGET := Lib.hid hget
        obtain ⟨i0, hi, hz0, hz1, hz2⟩ := info_parts sl_info
        clear hget hg
        go_wp2_with fail
        refine HGET.out.mono ?_
        rintro e w2 ⟨A2, c2, rfl, hr2, hb2⟩
        have HR2 := Lib.hid hr2
        have HB2 := Lib.hid hb2
        have HOW := Lib.hid (own_kept (Kept.below hb2 (fun _ => False)) HL.out.row fun _ _ => id)
        have hsz2 := Nat.le_trans HL.out.below.size hb2.size
        clear hr2 hb2
        go_wp2_with (at_builtin; refine wpList_append_own _ rfl _ _ 32 rfl w.heap.size 24 i0 (.slice none 0 0) 1 24 Try.underlying32 hi hz0 hz1 hz2 rfl (by decide) u4 out.length vs rfl (HOW.out.alloc _) ⟨w2.heap.size, 0, none⟩ 1 1 [.slice A2 l.length c2] rfl rfl (cell_one_new _ _ _) (sl_one _ _ _) (by unfold maxLen; omega) (by omega) (by simp; omega) ?_; intro u3 w3 hown3 hg3 _; have HN := Lib.hid (HNX.out A2 c2 l rfl w2 w3 u3 HB2.out HR2.out hown3 hg3); clear hown3 hg3)
        go_roundw
        case rel => exact ⟨nx, _, _, rfl, HN⟩
        case measure => simp [intOf]; omega
      · have HF : Hid (∀ W, Below w.heap.size w W → AllIt w (allL b) (.returned (.tuple #[.slice none 0 0, .int .i64 (getA b at_).2.2])) W) := Lib.hid (fun W hbw => AllIt.err (by rw [HL.out.all, allG_no hlt he]) hbw)
        obtain ⟨g, hg⟩ : ∃ g, g = getA b at_ := ⟨_, rfl⟩
        rw [← hg] at he hget HF
        obtain ⟨l, nx, er⟩ := g
        simp only at he HF
        have t1 : (er != 0) = true := by rwa [bne_iff_ne]
        have HGET := Lib.hid hget
        have HBW := Lib.hid HL.out.below
        clear hget hg he
        go_wp2_with fail
        refine HGET.out.mono ?_
        rintro e w2 ⟨A2, c2, rfl, hr2, hb2⟩
        have HFF := Lib.hid (HF.out w2 (HBW.out.trans (hb2.mono HBW.out.size)))
        clear hr2 hb2
        go_wp2_with fail
        go_ret2
        exact HFF.out
    · obtain ⟨Au, cu, rfl, hnr⟩ := HL.out.names
      have HF : Hid (AllIt w (allL b) (.returned (.tuple #[.slice Au out.length cu, .int .i64 0])) wr) := Lib.hid (by
        rw [HL.out.all, allG_end (by omega)]
        exact ⟨Au, cu, rfl, hnr, HL.out.below⟩)
      clear hnr
      go_wp2_with fail
      go_ret2
      exact HF.out

end Go.Proofs.Ytfnpjcfaabbejaa
