/-
  The walks of a model's Put of records that are none; of layout's Right, and of New. No condition but sizes.
-/
import Derived.Test.YtimdedkejadnfaaGreatDoorMoV
namespace Go.Proofs.YtimdedkejadnfaaGreatDoor
open Go.RowKit Go.Foldp Go.Colm Go.Wirep Go.Maps
set_option linter.unusedVariables false
set_option linter.unusedSimpArgs false
set_option linter.unusedSectionVars false

set_option maxRecDepth 100000 in
set_option maxHeartbeats 6400000 in
theorem put_bad (L : Lay) (M : Mod) (w : World) (N : Nat → Prop) (nm : List UInt8) (typ : Nat) (recs : List (List UInt8)) (A : Option Addr) (c life : Nat) (x : Int) (h : Has L M w) (hn : nm.length ≤ 100000) (ht : typ < 65536)
    (hr : RecAt N w A recs) (hl : recs.length < 1099511627776) (hll : ∀ x ∈ recs, x.length < 1099511627776) (hlent : M.lent = 0) (hp : (parseL nm).2 = 0) (hs : (sizeR recs).2 = x) (hx : x ≠ 0) :
    Calls Tryz.prog 8 #[.pointer (some ⟨L.xb, 0, none⟩), keyV nm typ, .slice A recs.length c, .int .u64 (life : Int)] w fun e w' => e = .returned (.tuple #[.slice none 0 0, .int .i64 x]) ∧ Below w.heap.size w w' := by
  obtain ⟨w0, hw0⟩ : ∃ w0, w0 = w.alloc (.cells #[.string ⟨nm.toArray⟩, .int .u16 (typ : Int)] 34) := ⟨_, rfl⟩
  have hb0 : Below w.heap.size w w0 := by rw [hw0]; exact (Below.refl _ w).alloc (Nat.le_refl _) _
  have hr0 : Whole w0 w.heap.size 34 #[.string ⟨nm.toArray⟩, .int .u16 (typ : Int)] := by rw [hw0]; exact Whole.new w _ _
  have h0 := h.below hb0
  have x0 : w0.cell? ⟨w.heap.size, 0, none⟩ = some (.string ⟨nm.toArray⟩) := hr0.cell 0
  have hfree := free_any L M w0 h0
  rw [show freeE M = 0 by rw [freeE, hlent]; rfl] at hfree
  have hparse := parse_any nm w0 (h0.comp .glob).2 hn
  have hx0 : (x == 0) = false := by simpa using hx
  have HFR := Lib.hid hfree
  have HP := Lib.hid hparse
  have HB0 := Lib.hid hb0
  have HREC := Lib.hid hr
  clear h h0 hfree hparse hb0 hr0 hr
  unfold keyV strV
  go_enter Tryz.func8, Tryz.ntmps8
  go_upto_region 1 with fail
  rw [← hw0]
  clear hw0
  go_wp2_with fail
  refine HFR.out.mono ?_
  rintro e w1 ⟨rfl, rfl⟩
  go_wp2_with fail
  refine HP.out.mono ?_
  rintro e w2 ⟨A2, c2, rfl, hrow, hcap, hb2, hfresh⟩
  rw [hp]
  have hrec2 : RecAt N w2 A recs := (HREC.out.below HB0.out).below hb2
  have hsz := sizer_any N A c recs w2 hl hll hrec2
  rw [hs] at hsz
  have HSZ := Lib.hid hsz
  have HB2 := Lib.hid hb2
  clear hsz hb2 hrow hrec2 hp hfresh hs
  go_wp2_with fail
  refine HSZ.out.mono ?_
  rintro e w3 ⟨rfl, rfl⟩
  go_wp2_with fail
  go_ret2
  exact ⟨rfl, below_chain HB0.out HB2.out⟩

set_option maxHeartbeats 3200000 in
/-- The config of chapter 29's example may be. -/
theorem right_7 (w : World) (hs : Sz w) : Calls Tryz.prog 17 #[.agg #[.int .i64 7, .int .i64 224]] w fun e w' => e = .returned (.bool true) ∧ Below w.heap.size w w' := by
  obtain ⟨w0, hw0⟩ : ∃ w0, w0 = w.alloc (.cells #[.int .i64 7, .int .i64 224] 30) := ⟨_, rfl⟩
  have hb0 : Below w.heap.size w w0 := by rw [hw0]; exact (Below.refl _ w).alloc (Nat.le_refl _) _
  have hr0 : Whole w0 w.heap.size 30 #[.int .i64 7, .int .i64 224] := by rw [hw0]; exact Whole.new w _ _
  have x0 : w0.cell? ⟨w.heap.size, 0, none⟩ = some (.int .i64 7) := hr0.cell 0
  have x1 : w0.cell? ⟨w.heap.size, 1, none⟩ = some (.int .i64 224) := hr0.cell 1
  have hbl := fun m => blocks_any 1 (w0.drewN m) ((hs.below hb0).below (below_of_drewN w0 m))
  rw [show blocksC 1 = 32 from rfl] at hbl
  have HBL := Lib.hid hbl
  have HB0 := Lib.hid hb0
  clear hbl hb0 hr0 hs
  go_enter Tryz.func17, Tryz.ntmps17
  go_upto_region 1 with fail
  rw [← hw0]
  clear hw0
  go_wp2_with fail
  go_quiet ((go_at_call 54; exact Calls.quiet_of_same (HBL.out _)))
  go_wp2
  go_ret
  exact ⟨rfl, below_drewN HB0.out _⟩

theorem part_info : (Tryz.prog.info? 197).map (fun i => (i.zero, i.size, i.bytes)) = some (some (.agg #[.int .i64 0, .map none, .slice none 0 0]), 3, 40) := by kernel_rfl
/-- A model of so many slabs that holds nothing. -/
def newM (n : Nat) : Mod := ⟨List.replicate n ⟨0, [], []⟩, [], [], [], [], [], none, 0, 0, 0, 0, 0⟩
/-- Where a new model lies. -/
def newL (x s : Nat) : Lay := ⟨x, s, x - 2, x - 1, .slice none 0 0, fun _ => none, fun _ => .slice none 0 0, fun _ => 0, fun _ => 0, fun _ => undef,
  fun k => if k = x then some .x else if k = s then some .s else if k = x - 2 then some .nm else if k = x - 1 then some .em else if k = 0 ∨ k = 1 then some .glob else none⟩
theorem new_parts (i : Nat) (p : Part) (h : (newM 7).parts[i]? = some p) : i < 7 ∧ p = ⟨0, [], []⟩ := by
  simp only [newM, List.getElem?_replicate] at h
  split at h
  · rename_i hi
    exact ⟨hi, (Option.some.inj h).symm⟩
  · cases h
theorem new_has (w W : World) (s x : Nat) (hs : Sz w) (hm : MaxL w) (hb : Below w.heap.size w W) (h1 : w.heap.size ≤ s) (h2 : s + 3 = x) (hxl : x < W.heap.size)
    (hx : Whole W x 65 (modC (newL x s) (newM 7))) (hp : Whole W s 197 (madeCells (Value.agg #[.int .i64 0, .map none, .slice none 0 0]).cells 21)) (hn : OwnL W Tryz.prog 9 (x - 2) []) (he : OwnL W Tryz.prog 34 (x - 1) []) :
    Has (newL x s) (newM 7) W := by
  have hgs : 0 < w.heap.size := hs.lt
  obtain ⟨m, hmc⟩ := hm
  have hgm : 1 < w.heap.size := lt_of_cell hmc
  refine ⟨⟨?_, ?_, ?_, ?_, ?_, ?_, ?_, ?_, ?_, ?_, ?_⟩, ?_, ?_⟩
  · simp [newL]
  · simp only [newL]
    rw [if_neg (by omega)]
    simp
  · simp only [newL]
    rw [if_neg (by omega), if_neg (by omega)]
    simp
  · simp only [newL]
    rw [if_neg (by omega), if_neg (by omega), if_neg (by omega)]
    simp
  · intro k e
    simp [newL, Value.ownBlock] at e
  · intro i b hi e
    simp [newL] at e
  · intro i k hi e
    simp [newL, Value.ownBlock] at e
  · intro i hi
    simp [newM] at hi
  · intro i hi
    simp [newM] at hi
  · simp only [newL]
    rw [if_neg (by omega), if_neg (by omega), if_neg (by omega), if_neg (by omega)]
    simp
  · simp only [newL]
    rw [if_neg (by omega), if_neg (by omega), if_neg (by omega), if_neg (by omega)]
    simp
  · intro k hk
    have hsz := hb.size
    simp only [newL] at hk
    by_cases e1 : k = x
    · omega
    · rw [if_neg e1] at hk
      by_cases e2 : k = s
      · omega
      · rw [if_neg e2] at hk
        by_cases e3 : k = x - 2
        · omega
        · rw [if_neg e3] at hk
          by_cases e4 : k = x - 1
          · omega
          · rw [if_neg e4] at hk
            by_cases e5 : k = 0 ∨ k = 1
            · omega
            · rw [if_neg e5] at hk
              exact absurd rfl hk
  · intro r
    cases r with
    | glob => exact ⟨hs.below hb, m, (hb.cell (lt_of_cell hmc)).trans hmc⟩
    | x => exact hx
    | s =>
      refine ⟨_, hp, by simp [newM, madeCells], fun i p hip => ?_⟩
      obtain ⟨hi, rfl⟩ := new_parts i p hip
      have hc : i = 0 ∨ i = 1 ∨ i = 2 ∨ i = 3 ∨ i = 4 ∨ i = 5 ∨ i = 6 := by omega
      rcases hc with rfl | rfl | rfl | rfl | rfl | rfl | rfl <;> refine ⟨?_, ?_, ?_⟩ <;> simp [madeCells, Value.cells, newL]
    | nm => exact hn
    | em => exact he
    | ring => exact own_nil _ _ _ _
    | live i =>
      intro p b hip hlb
      simp [newL] at hlb
    | free i =>
      intro p hip
      obtain ⟨hi, rfl⟩ := new_parts i p hip
      exact ⟨fun _ => ⟨rfl, rfl, rfl⟩, fun b hlb => by simp [newL] at hlb⟩
    | node i =>
      intro d hd
      simp [newM] at hd
    | ent i =>
      intro d hd
      simp [newM] at hd
    | recs =>
      intro i d hd
      simp [newM] at hd

set_option maxRecDepth 100000 in
set_option maxHeartbeats 3200000 in
theorem new_7 (w : World) (hs : Sz w) (hm : MaxL w) : Calls Tryz.prog 7 #[.agg #[.int .i64 7, .int .i64 224]] w fun e w' => ∃ L, e = .returned (.tuple #[.pointer (some ⟨L.xb, 0, none⟩), .int .i64 0]) ∧ Has L (newM 7) w' ∧ (∀ k, L.G k ≠ none → w.heap.size ≤ k ∨ k = 0 ∨ k = 1) ∧ Below w.heap.size w w' := by
  obtain ⟨w0, hw0⟩ : ∃ w0, w0 = w.alloc (.cells #[.int .i64 7, .int .i64 224] 30) := ⟨_, rfl⟩
  have hb0 : Below w.heap.size w w0 := by rw [hw0]; exact (Below.refl _ w).alloc (Nat.le_refl _) _
  have hr0 : Whole w0 w.heap.size 30 #[.int .i64 7, .int .i64 224] := by rw [hw0]; exact Whole.new w _ _
  have x0 : w0.cell? ⟨w.heap.size, 0, none⟩ = some (.int .i64 7) := hr0.cell 0
  have x1 : w0.cell? ⟨w.heap.size, 1, none⟩ = some (.int .i64 224) := hr0.cell 1
  have hri := right_7 w0 (hs.below hb0)
  have hmm := @run_makeMap Tryz.prog
  have HRI := Lib.hid hri
  have HB0 := Lib.hid hb0
  have HR0 := Lib.hid hr0
  have HS := Lib.hid hs
  have HM := Lib.hid hm
  clear hri hb0 hr0 hs hm
  go_enter Tryz.func7, Tryz.ntmps7
  go_upto_region 1 with fail
  rw [← hw0]
  clear hw0
  go_wp2_with fail
  refine HRI.out.mono ?_
  rintro e w1 ⟨rfl, hb1⟩
  have y0 : w1.cell? ⟨w.heap.size, 0, none⟩ = some (.int .i64 7) := ((Kept.below hb1 fun _ => False).whole HR0.out fun h => h).cell 0
  obtain ⟨i0, hi0, hz0, hz1, hz2⟩ := info_parts part_info
  have hmk := run_make w1 59 197 i0 (.agg #[.int .i64 0, .map none, .slice none 0 0]) Tryz.underlying59 hi0 hz0 .i64 .i64 7 7 (by omega) (by omega) (by rw [hz2]; omega) (by omega)
  rw [hz1] at hmk
  obtain ⟨w2, hw2⟩ : ∃ w2, w2 = w1.alloc (.cells (madeCells (Value.agg #[.int .i64 0, .map none, .slice none 0 0]).cells 21) 197) := ⟨_, rfl⟩
  have hmk' : (Instr.makeSlice 59 (.int .i64 7) (.int .i64 7)).run Tryz.prog w1 = .ok (.slice (some ⟨w1.heap.size, 0, none⟩) 7 7) w2 := by rw [hw2]; exact hmk
  clear hmk
  have HB1 := Lib.hid hb1
  have HW2 := Lib.hid hw2
  clear hw2 hb1
  go_wp2_with fail
  go_ret2
  have hsz2 : w2.heap.size = w1.heap.size + 1 := by rw [HW2.out]; simp
  have hw1 : Below w.heap.size w w1 := below_chain HB0.out HB1.out
  have hw2 : Below w.heap.size w w2 := by rw [HW2.out]; exact hw1.alloc hw1.size _
  have hfin : ∀ C : Array Value, Below w2.heap.size w2 (((w2.alloc (.map #[] 0)).alloc (.map #[] 0)).alloc (.cells C 65)) := fun C => (((Below.refl _ w2).alloc (Nat.le_refl _) _).alloc (by simp) _).alloc (by simp; omega) _
  refine ⟨newL (w2.heap.size + 2) w1.heap.size, rfl, new_has w _ w1.heap.size (w2.heap.size + 2) HS.out HM.out (below_chain hw2 (hfin _)) hw1.size (by omega) (by simp) ?_ ?_ ?_ ?_, ?_, below_chain hw2 (hfin _)⟩
  · have := heap_alloc_new ((w2.alloc (.map #[] 0)).alloc (.map #[] 0)) (.cells (modC (newL (w2.heap.size + 2) w1.heap.size) (newM 7)) 65)
    simpa [Whole, modC, newL, newM, ptrE] using this
  · have h0 : Whole w2 w1.heap.size 197 (madeCells (Value.agg #[.int .i64 0, .map none, .slice none 0 0]).cells 21) := by rw [HW2.out]; exact Whole.new _ _ _
    exact ((hfin _).block _ (by omega)).trans h0
  · have h0 := OwnL.made w2 Tryz.prog 9
    refine OwnL.of_block h0 ?_
    rw [show w2.heap.size + 2 - 2 = w2.heap.size by omega]
    exact (heap_alloc_old _ _ (by simp; omega)).trans (heap_alloc_old _ _ (by simp))
  · have h0 := OwnL.made (w2.alloc (.map #[] 0)) Tryz.prog 34
    have e : (w2.alloc (.map #[] 0)).heap.size = w2.heap.size + 2 - 1 := by simp
    rw [e] at h0
    exact OwnL.of_block h0 (heap_alloc_old _ _ (by simp))
  · intro k hk
    have h1 := hw1.size
    by_cases e : w.heap.size ≤ k
    · exact .inl e
    · refine .inr ?_
      simp only [newL] at hk
      rw [if_neg (by omega), if_neg (by omega), if_neg (by omega), if_neg (by omega)] at hk
      by_cases e5 : k = 0 ∨ k = 1
      · exact e5
      · rw [if_neg e5] at hk
        exact absurd rfl hk
end Go.Proofs.YtimdedkejadnfaaGreatDoor
