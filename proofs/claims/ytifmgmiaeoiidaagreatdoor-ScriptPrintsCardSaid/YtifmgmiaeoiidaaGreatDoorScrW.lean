/-
  strings.Builder's methods at a builder that is the first field of a script.writer of the call's own: copyCheck, WriteString, String. No condition.
-/
import Derived.Test.YtifmgmiaeoiidaaGreatDoorScrG
import Derived.Shelf.Strings.Builder1
import Derived.Shelf.Strings.Builder2
import Derived.Shelf.RegionOpen
namespace Go.Proofs.YtifmgmiaeoiidaaGreatDoor
open Go.RowKit Go.Colm Go.Scrp
set_option linter.unusedVariables false

/-- A script.writer in a block of its own: its builder's 'addr', its bytes, and whether it is wrong. -/
def WriterAt (B b : Nat) (p : Value) (bs : List Value) (wr : Bool) (w : World) : Prop :=
  B ≤ b ∧ ∃ v, w.heap[b]? = some (.cells #[p, v, .bool wr] 65 (0, 0)) ∧ w.ownsRow B 5 1 v bs.length bs ∧ v.ownBlock ≠ some b ∧ (bs = [] → v = .slice none 0 0)
def IsWriter (B b : Nat) (bs : List Value) (wr : Bool) (w : World) : Prop := WriterAt B b (.pointer none) bs wr w ∨ WriterAt B b (.pointer (some ⟨b, 0, none⟩)) bs wr w
theorem WriterAt.lt {B b : Nat} {p : Value} {bs : List Value} {wr : Bool} {w : World} (h : WriterAt B b p bs wr w) : b < w.heap.size := by
  obtain ⟨_, v, hb, _⟩ := h
  rcases Nat.lt_or_ge b w.heap.size with h' | h'
  · exact h'
  · simp [Array.getElem?_eq_none h'] at hb
theorem WriterAt.used {B b : Nat} {p : Value} {bs : List Value} {wr : Bool} {w : World} (h : WriterAt B b p bs wr w) (q : Value) : WriterAt B b q bs wr (w.setCell ⟨b, 0, none⟩ q) := by
  obtain ⟨hB, v, hb, hown, hne, he⟩ := h
  refine ⟨hB, v, ?_, ?_, hne, he⟩
  · simp [World.setCell, Array.getElem?_modify, hb]
  · refine hown.kept (row := some b) ⟨rfl, rfl, rfl, by simp [World.setCell], fun k _ hk => Below.heap_setCell _ _ _ _ (fun e => hk (by simp [e]))⟩ (Or.inr hne)
theorem WriterAt.wrong {B b : Nat} {p : Value} {bs : List Value} {wr : Bool} {w : World} (h : WriterAt B b p bs wr w) (q : Bool) : WriterAt B b p bs q (w.setCell ⟨b, 2, none⟩ (.bool q)) := by
  obtain ⟨hB, v, hb, hown, hne, he⟩ := h
  refine ⟨hB, v, ?_, ?_, hne, he⟩
  · simp [World.setCell, Array.getElem?_modify, hb]
  · refine hown.kept (row := some b) ⟨rfl, rfl, rfl, by simp [World.setCell], fun k _ hk => Below.heap_setCell _ _ _ _ (fun e => hk (by simp [e]))⟩ (Or.inr hne)
theorem writer_put {B b : Nat} {p v v' : Value} {bs' : List Value} {wr : Bool} {w : World} (hB : B ≤ b) (hb : w.heap[b]? = some (.cells #[p, v, .bool wr] 65 (0, 0))) (hown : w.ownsRow B 5 1 v' bs'.length bs') (hne' : bs' ≠ []) :
    WriterAt B b p bs' wr (w.setCell ⟨b, 1, none⟩ v') := by
  have hne := Lib.ownBlock_ne hown hb (by decide)
  refine ⟨hB, v', ?_, ?_, hne, fun h => absurd h hne'⟩
  · simp [World.setCell, Array.getElem?_modify, hb]
  · exact hown.kept (row := some b) ⟨rfl, rfl, rfl, by simp [World.setCell], fun k _ hk => Below.heap_setCell _ _ _ _ (fun e => hk (by simp [e]))⟩ (Or.inr hne)
theorem bld_info : ∃ j, Tryz.prog.info? 63 = some j ∧ j.size = 2 := Option.map_eq_some_iff.1 bldExtra.sizeBuilder
theorem writer_lies : liesAt Tryz.prog Tryz.prog.depth 65 (3 / Tryz.prog.cellsOf 65) 0 63 1 = true := by kernel_rfl

/-- Types whose blocks no writer touches: steps, answers. -/
def keepsT (T : TypeId) : Bool := T == 48 || T == 55
/-- The blocks of steps and answers stay as they are. -/
def KeptO (w w' : World) : Prop := ∀ (k : Nat) (cs : Array Value) (T : TypeId) (fz : Nat × Nat), keepsT T = true → w.heap[k]? = some (.cells cs T fz) → w'.heap[k]? = some (.cells cs T fz)
theorem KeptO.refl (w : World) : KeptO w w := fun _ _ _ _ _ h => h
theorem KeptO.trans {w w1 w2 : World} (h : KeptO w w1) (g : KeptO w1 w2) : KeptO w w2 := fun k cs T fz t e => g k cs T fz t (h k cs T fz t e)
theorem KeptO.below {w w' : World} (h : Below w.heap.size w w') : KeptO w w' := fun k cs T fz t e => by
  have hlt : k < w.heap.size := by
    rcases Nat.lt_or_ge k w.heap.size with h' | h'
    · exact h'
    · simp [Array.getElem?_eq_none h'] at e
  exact (h.block k hlt).trans e
theorem KeptO.setCell {w : World} {b : Nat} {cs : Array Value} {T : TypeId} {fz : Nat × Nat} (hb : w.heap[b]? = some (.cells cs T fz)) (hT : keepsT T = false) (i : Nat) (v : Value) : KeptO w (w.setCell ⟨b, i, none⟩ v) := fun k cs' T' fz' t e => by
  have hkb : k ≠ b := by
    rintro rfl
    rw [hb] at e
    cases e
    rw [hT] at t
    cases t
  exact (Below.heap_setCell _ _ _ _ (fun h => hkb (by simpa using h))).trans e
theorem KeptO.grown {w w' : World} {row : Option Nat} (h : w.grownBy w' row) (hr : ∀ (k : Nat) (cs : Array Value) (T : TypeId) (fz : Nat × Nat), keepsT T = true → w.heap[k]? = some (.cells cs T fz) → row ≠ some k) : KeptO w w' := fun k cs T fz t e => by
  have hlt : k < w.heap.size := by
    rcases Nat.lt_or_ge k w.heap.size with h' | h'
    · exact h'
    · simp [Array.getElem?_eq_none h'] at e
  exact (h.block k hlt fun q => hr k cs T fz t e q.symm).trans e
/-- What is below B stays as it is, and the blocks of steps. -/
def Wrote (B : Nat) (w w' : World) : Prop := Below B w w' ∧ KeptO w w'
theorem Wrote.refl (B : Nat) (w : World) : Wrote B w w := ⟨Below.refl _ _, KeptO.refl _⟩
theorem Wrote.trans {B : Nat} {w w1 w2 : World} (h : Wrote B w w1) (g : Wrote B w1 w2) : Wrote B w w2 := ⟨h.1.trans g.1, h.2.trans g.2⟩
theorem Wrote.below {B : Nat} {w w' : World} (h : Below w.heap.size w w') (hB : B ≤ w.heap.size) : Wrote B w w' := ⟨h.mono hB, KeptO.below h⟩
set_option maxHeartbeats 1000000 in
set_option maxRecDepth 100000 in
theorem wcopy_any (B b : Nat) (bs : List Value) (wr : Bool) (w : World) (h : IsWriter B b bs wr w) :
    Calls Tryz.prog 59 #[.pointer (some ⟨b, 0, none⟩)] w fun e w' => e = .returned (.tuple #[]) ∧ WriterAt B b (.pointer (some ⟨b, 0, none⟩)) bs wr w' ∧ Wrote B w w' := by
  obtain ⟨j, hj, hjs⟩ := bld_info
  rcases h with h | h
  · have HU := Lib.hid (h.used (.pointer (some ⟨b, 0, none⟩)))
    have hB := h.1
    obtain ⟨_, v, hb, _⟩ := h
    have c0 : w.cell? ⟨b, 0, none⟩ = some (.pointer none) := by rw [Lib.cell_of_heap hb]; rfl
    have f0 : w.frozen? ⟨b, 0, none⟩ = false := Lib.frozen_of_heap hb 0
    have hsh : w.shape? b = some (65, 3) := by simp [World.shape?, hb]
    have HKO := Lib.hid (KeptO.setCell hb (by decide) 0 (.pointer (some ⟨b, 0, none⟩)))
    clear hb
    go_enter Tryz.func59, Tryz.ntmps59
    go_wp2
    rw [Lib.run_to_unsafe w ⟨b, 0, none⟩ Tryz.underlying61 Tryz.underlying130 hj (by rw [hjs]; decide) hsh (Nat.zero_lt_succ 2)]
    simp only [Result.andThen]
    rw [Oper.upon_value]
    go_wp2
    rw [run_callFunc_extern Tryz.func85 (by kernel_rfl) (by kernel_rfl) (by kernel_rfl) (e := Extern.AbiNoEscape.same) (by kernel_rfl)]
    rw [Lib.run_noEscape]
    simp only [Result.andThen]
    rw [Oper.upon_value]
    go_wp2
    rw [Lib.run_from_unsafe w ⟨b, 0, none⟩ Tryz.underlying130 Tryz.underlying61 hj hsh writer_lies]
    simp only [Result.andThen]
    rw [Oper.upon_value]
    go_wp2
    go_end0
    exact ⟨rfl, HU.out, (Below.refl B w).setCell (p := ⟨b, 0, none⟩) hB _, HKO.out⟩
  · have HU := Lib.hid h
    obtain ⟨_, v, hb, _⟩ := h
    have c0 : w.cell? ⟨b, 0, none⟩ = some (.pointer (some ⟨b, 0, none⟩)) := by rw [Lib.cell_of_heap hb]; rfl
    clear hb
    go_enter Tryz.func59, Tryz.ntmps59
    go_wp2
    rw [Lib.run_neq_ptr_same w _ Tryz.underlying61 hj]
    go_wp2
    go_end0
    exact ⟨rfl, HU.out, Wrote.refl B w⟩

theorem wwrite_facts {B b n0 cap0 : Nat} {ao0 : Option Addr} {bs : List Value} {s : ByteArray} {wr : Bool} {w w1 w2 : World} {v' : Value} (hB : B ≤ b) (hs : 0 < s.size) (hBw : B ≤ w.heap.size) (hlt : b < w1.heap.size) (hown : w1.ownsRow B 5 1 (.slice ao0 n0 cap0) bs.length bs)
    (hbk : w1.heap[b]? = some (.cells #[.pointer (some ⟨b, 0, none⟩), .slice ao0 n0 cap0, .bool wr] 65 (0, 0))) (hne : (Value.slice ao0 n0 cap0).ownBlock ≠ some b) (hb1 : Wrote B w w1)
    (hown' : w2.ownsRow B 5 1 v' (bs.length + s.size) (bs ++ Lib.strCells s)) (hgrow : w1.grownBy w2 (Value.slice ao0 n0 cap0).ownBlock) :
    ∃ ao n' cap, v' = .slice ao n' cap ∧ w2.cell? ⟨b, 1, none⟩ = some (.slice ao0 n0 cap0) ∧ w2.frozen? ⟨b, 1, none⟩ = false ∧ RowKit.Hid (WriterAt B b (.pointer (some ⟨b, 0, none⟩)) (bs ++ Lib.strCells s) wr (w2.setCell ⟨b, 1, none⟩ (.slice ao n' cap))) ∧ RowKit.Hid (Wrote B w (w2.setCell ⟨b, 1, none⟩ (.slice ao n' cap))) := by
  have hb2 : w2.heap[b]? = some (.cells #[.pointer (some ⟨b, 0, none⟩), .slice ao0 n0 cap0, .bool wr] 65 (0, 0)) := by
    rw [hgrow.block b hlt (fun e => hne e.symm)]
    exact hbk
  have d1 : w2.cell? ⟨b, 1, none⟩ = some (.slice ao0 n0 cap0) := by rw [Lib.cell_of_heap hb2]; rfl
  have f1 : w2.frozen? ⟨b, 1, none⟩ = false := Lib.frozen_of_heap hb2 1
  obtain ⟨ao, n', cap, rfl⟩ : ∃ ao n' cap, v' = .slice ao n' cap := by
    rcases hown'.2 with ⟨hv, _⟩ | ⟨g, cap, cur, hv, _⟩
    · exact ⟨_, _, _, hv⟩
    · exact ⟨_, _, _, hv⟩
  have HP := Lib.hid (writer_put (bs' := bs ++ Lib.strCells s) hB hb2 (by simpa [Lib.strCells_length] using hown') (by
    intro e
    have := congrArg List.length e
    rw [List.length_append, Lib.strCells_length, List.length_nil] at this
    omega))
  have hsz := hb1.1.size
  have HB2 : RowKit.Hid (Wrote B w (w2.setCell ⟨b, 1, none⟩ (.slice ao n' cap))) := Lib.hid ⟨(hb1.1.grown hgrow (by omega) (fun k hk => (hown.lt k hk).1)).setCell (p := ⟨b, 1, none⟩) hB (.slice ao n' cap), (hb1.2.trans (KeptO.grown hgrow fun k cs T fz t e h => Lib.ownBlock_ne hown e (fun q => by subst q; exact absurd t (by decide)) h)).trans (KeptO.setCell hb2 (by decide) 1 _)⟩
  exact ⟨ao, n', cap, rfl, d1, f1, HP, HB2⟩
set_option maxHeartbeats 2000000 in
set_option maxRecDepth 100000 in
theorem wwrite_any (B b : Nat) (bs : List Value) (s : ByteArray) (wr : Bool) (w : World) (h : IsWriter B b bs wr w) (hlen : bs.length + s.size ≤ 140737488355328) (hs : 0 < s.size) (hBw : B ≤ w.heap.size) :
    Calls Tryz.prog 64 #[.pointer (some ⟨b, 0, none⟩), .string s] w fun e w' => e = .returned (.tuple #[.int .i64 s.size, .nilIface]) ∧ WriterAt B b (.pointer (some ⟨b, 0, none⟩)) (bs ++ Lib.strCells s) wr w' ∧ Wrote B w w' := by
  obtain ⟨i0, hi, hz0, hz1, hz2⟩ := info_parts byte_info
  have HC := Lib.hid (wcopy_any B b bs wr w h)
  clear h
  go_enter Tryz.func64, Tryz.ntmps64
  go_wp2_with fail
  refine HC.out.mono ?_
  rintro e w1 ⟨rfl, h1, hb1⟩
  obtain ⟨hB, v, hbk, hown, hne, he⟩ := h1
  have c0 : w1.cell? ⟨b, 0, none⟩ = some (.pointer (some ⟨b, 0, none⟩)) := by rw [Lib.cell_of_heap hbk]; rfl
  have c1 : w1.cell? ⟨b, 1, none⟩ = some v := by rw [Lib.cell_of_heap hbk]; rfl
  obtain ⟨ao0, n0, cap0, hv0⟩ : ∃ ao n' cap, v = .slice ao n' cap := by
    rcases hown.2 with ⟨hv, _⟩ | ⟨g, cap, cur, hv, _⟩
    · exact ⟨_, _, _, hv⟩
    · exact ⟨_, _, _, hv⟩
  subst hv0
  have HOWN := Lib.hid hown
  have HBK := Lib.hid hbk
  have HNE := Lib.hid hne
  have hsz1 := hb1.1.size
  clear hown hbk hne he HC
  have hlt : b < w1.heap.size := by
    rcases Nat.lt_or_ge b w1.heap.size with h' | h'
    · exact h'
    · have := HBK.out
      simp [Array.getElem?_eq_none h'] at this
  have HF := Lib.hid (fun v' w2 => wwrite_facts (wr := wr) (w := w) (v' := v') (w2 := w2) (s := s) hB hs hBw hlt HOWN.out HBK.out HNE.out hb1)
  go_wp2_with (at_builtin; refine Lib.wpList_append_own_string _ rfl _ _ 44 9 rfl B 5 i0 Tryz.underlying44 Tryz.underlying9 hi hz0 hz1 hz2 _ _ _ rfl HOWN.out s rfl (by unfold maxLen; omega) (by omega) (by omega) ?_; intro v' w2 hown' hgrow _; obtain ⟨ao, n', cap, rfl, d1, f1, HP, HB2⟩ := HF.out v' w2 hown' hgrow; clear hown' hgrow)
  go_ret2
  exact ⟨rfl, HP.out, HB2.out⟩
set_option maxHeartbeats 2000000 in
set_option maxRecDepth 100000 in
theorem wstring_some (B b : Nat) (p : Value) (l : List UInt8) (wr : Bool) (w : World) (h : WriterAt B b p (Lib.byteCells l) wr w) (h0 : l ≠ []) :
    Calls Tryz.prog 27 #[.pointer (some ⟨b, 0, none⟩)] w fun e w' => e = .returned (.string ⟨l.toArray⟩) ∧ Below B w w' := by
  obtain ⟨hB, v, hbk, hown, hne, _⟩ := h
  have hl0 : l.length ≠ 0 := by simpa using h0
  rw [Lib.byteCells_length] at hown
  obtain ⟨g, cap, cur, rfl, hbg, hg, hnc, hcm, hcs, htake⟩ : ∃ g cap cur, v = .slice (some ⟨g, 0, none⟩) l.length cap ∧ B ≤ g ∧ w.heap[g]? = some (.cells cur 5 (0, 0)) ∧ l.length ≤ cap ∧ cap ≤ maxLen ∧ cur.size = cap * 1 ∧ cur.toList.take (l.length * 1) = Lib.byteCells l := by
    rcases hown.2 with ⟨_, hz⟩ | ⟨g, cap, cur, hv, r⟩
    · exact absurd hz hl0
    · exact ⟨g, cap, cur, hv, r⟩
  have c1 : w.drew.cell? ⟨b, 1, none⟩ = some (.slice (some ⟨g, 0, none⟩) l.length cap) := by
    have : w.drew.heap[b]? = some (.cells #[p, .slice (some ⟨g, 0, none⟩) l.length cap, .bool wr] 65 (0, 0)) := hbk
    rw [Lib.cell_of_heap this]; rfl
  have hSD : (Builtin.unsafeSliceData_ #[44] 95 #[.slice (some ⟨g, 0, none⟩) l.length cap]).run Tryz.prog w.drew = .ok (.pointer (some ⟨g, 0, none⟩)) w.drew :=
    Lib.run_unsafeSliceData_row _ _ _ _ _ _ (by omega)
  have hUS : (Builtin.unsafeString_ #[95, 3] 9 #[.pointer (some ⟨g, 0, none⟩), .int .i64 l.length]).run Tryz.prog w.drew = .ok (.string ⟨l.toArray⟩) (w.drew.freeze ⟨g, 0, none⟩ l.length) := by
    refine Lib.run_unsafeString_row w.drew 95 3 9 5 Tryz.underlying95 bldExtra.cellsByte g cur.size (by have hg' : w.drew.heap[g]? = some (.cells cur 5 (0, 0)) := hg; simp [World.shape?, hg']) l h0 (by omega) (by unfold maxLen at hcm; omega) ?_
    intro j x hx
    have := hown.cells (g := g) rfl j (.int .u8 x.toNat) (by simp [Lib.byteCells, hx])
    exact this
  clear hbk hown hne hg htake
  have mixed : Tryz.prog.follows .mixedOrders = true := by kernel_rfl
  go_enter Tryz.func27, Tryz.ntmps27
  go_wp2
  go_region_o
  all_goals (go_wp2; go_ret; exact ⟨rfl, Lib.below_freeze (Below.drew (Below.refl B w)) (p := ⟨g, 0, none⟩) hbg _⟩)

theorem wunsafeString_none (W : World) (q : Option Addr) : (Builtin.unsafeString_ #[95, 3] 9 #[.pointer q, .int .i64 0]).run Tryz.prog W = .ok (.string .empty) W :=
  Lib.run_unsafeString_none W _ _ _ q

set_option maxHeartbeats 2000000 in
set_option maxRecDepth 100000 in
theorem wstring_none (B b : Nat) (p : Value) (wr : Bool) (w : World) (h : WriterAt B b p [] wr w) :
    Calls Tryz.prog 27 #[.pointer (some ⟨b, 0, none⟩)] w fun e w' => e = .returned (.string ⟨#[]⟩) ∧ Below B w w' := by
  obtain ⟨hB, v, hbk, _, _, he⟩ := h
  have hv := he rfl
  subst hv
  have hUS := wunsafeString_none
  have c1 : w.drew.cell? ⟨b, 1, none⟩ = some (.slice none 0 0) := by
    have : w.drew.heap[b]? = some (.cells #[p, .slice none 0 0, .bool wr] 65 (0, 0)) := hbk
    rw [Lib.cell_of_heap this]; rfl
  have hSD : (Builtin.unsafeSliceData_ #[44] 95 #[.slice none 0 0]).run Tryz.prog w.drew = .ok (.pointer none) w.drew := rfl
  clear he hbk
  have mixed : Tryz.prog.follows .mixedOrders = true := by kernel_rfl
  go_enter Tryz.func27, Tryz.ntmps27
  go_wp2
  go_region_o
  all_goals (go_wp2; go_ret; exact ⟨rfl, Below.drew (Below.refl B w)⟩)

theorem IsWriter.at {B b : Nat} {bs : List Value} {wr : Bool} {w : World} (h : IsWriter B b bs wr w) : ∃ p, WriterAt B b p bs wr w := by
  rcases h with h | h
  · exact ⟨_, h⟩
  · exact ⟨_, h⟩

theorem wstring_any (B b : Nat) (l : List UInt8) (wr : Bool) (w : World) (h : IsWriter B b (Lib.byteCells l) wr w) :
    Calls Tryz.prog 27 #[.pointer (some ⟨b, 0, none⟩)] w fun e w' => e = .returned (.string ⟨l.toArray⟩) ∧ Below B w w' := by
  obtain ⟨p, h⟩ := h.at
  by_cases h0 : l = []
  · subst h0
    exact wstring_none B b p wr w h
  · exact wstring_some B b p l wr w h h0
end Go.Proofs.YtifmgmiaeoiidaaGreatDoor
