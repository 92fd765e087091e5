/-
  The walks of layer layout: Right, Base, Size, HeadAt, SlotAt, SlabAt. No condition but the table of sizes.
  The walks of a memory's writing: the arena's Put, Store; Kind, Config, Root, SetRoot. No condition but what lies there.
  The walks of a memory's root and rows: Root, SetRoot, Zero, Mark. No condition but what lies there.
  The walks of a memory's rows: Len, part, Zero, Mark. No condition but what lies there.
  The walks of marking: the watch's Mark, a memory's. No condition but what lies there.
-/
import Derived.Test.YtoafmlegamjlpaaGreatDoorKA
import Derived.Test.YtoafmlegamjlpaaGreatDoorKB
import Derived.Laws.ResultCell
import Derived.Lib.SliceRun
namespace Go.Proofs.YtoafmlegamjlpaaGreatDoor
open Go.RowKit Go.Colm Go.Cap
set_option linter.unusedVariables false
set_option linter.unusedSimpArgs false
set_option linter.unusedSectionVars false

def cfgV (s n : Nat) : Value := .agg #[.int .i64 (s : Int), .int .i64 (n : Int)]
theorem okC_f {s n : Nat} (h : ¬ (7 ≤ s ∧ s ≤ 64 ∧ n % 2 = 0 ∧ s * 32 ≤ n ∧ n ≤ 8192)) : okC s n = false := by
  cases e : okC s n
  · rfl
  · exact absurd (okC_iff.1 e) h

set_option maxHeartbeats 3200000 in
theorem right_any (s n : Nat) (w : World) (hs : Sz w) (h1 : s < 8589934592) (h2 : n < 8589934592) : Calls Tryz.prog 30 #[.agg #[.int .i64 (s : Int), .int .i64 (n : Int)]] w fun e w' => e = .returned (.bool (okC s n)) ∧ Below w.heap.size w w' := by
  obtain ⟨w0, hw0⟩ : ∃ w0, w0 = w.alloc (.cells #[.int .i64 (s : Int), .int .i64 (n : Int)] 30) := ⟨_, rfl⟩
  have hb0 : Below w.heap.size w w0 := by rw [hw0]; exact (Below.refl _ w).alloc (Nat.le_refl _) _
  have hr0 : Whole w0 w.heap.size 30 #[.int .i64 (s : Int), .int .i64 (n : Int)] := by rw [hw0]; exact Whole.new w _ _
  have x0 : w0.cell? ⟨w.heap.size, 0, none⟩ = some (.int .i64 (s : Int)) := hr0.cell 0
  have x1 : w0.cell? ⟨w.heap.size, 1, none⟩ = some (.int .i64 (n : Int)) := hr0.cell 1
  have hbl := fun m => blocks_any 1 (w0.drewN m) ((hs.below hb0).below (below_of_drewN w0 m))
  rw [show blocksC 1 = 32 from rfl] at hbl
  have HBL := Lib.hid hbl
  have HB0 := Lib.hid hb0
  clear hbl hb0 hr0 hs
  go_enter Tryz.func30, Tryz.ntmps30
  go_upto_region 1 with fail
  rw [← hw0]
  clear hw0
  by_cases c1 : 7 ≤ s
  · by_cases c2 : s ≤ 64
    · have z : ¬ ((s : Int) = 0) := by omega
      go_wp2_with fail
      by_cases c3 : n % 2 = 0
      · have c3' : ((n : Int) % 2 == 0) = true := by rw [beq_iff_eq]; omega
        by_cases c4 : s * 32 ≤ n
        · have c4' : decide ((s : Int) * 32 ≤ (n : Int)) = true := by simp; omega
          by_cases c5 : n ≤ 8192
          · have c5' : decide ((n : Int) ≤ 8192) = true := by simp; omega
            go_quiet ((go_at_call 54; exact Calls.quiet_of_same (HBL.out _)))
            go_wp2
            go_ret
            exact ⟨ret_bool (okC_iff.2 ⟨c1, c2, c3, c4, c5⟩).symm, below_drewN HB0.out _⟩
          · have c5' : decide ((n : Int) ≤ 8192) = false := by simp; omega
            go_quiet ((go_at_call 54; exact Calls.quiet_of_same (HBL.out _)))
            go_wp2
            go_ret
            exact ⟨ret_bool (okC_f (by omega)).symm, below_drewN HB0.out _⟩
        · have c4' : decide ((s : Int) * 32 ≤ (n : Int)) = false := by simp; omega
          go_quiet ((go_at_call 54; exact Calls.quiet_of_same (HBL.out _)))
          go_wp2
          go_ret
          exact ⟨ret_bool (okC_f (by omega)).symm, below_drewN HB0.out _⟩
      · have c3' : ((n : Int) % 2 == 0) = false := by rw [beq_eq_false_iff_ne]; omega
        go_quiet ((go_at_call 54; exact Calls.quiet_of_same (HBL.out _)))
        go_wp2
        go_ret
        exact ⟨ret_bool (okC_f (by omega)).symm, below_drewN HB0.out _⟩
    · have z : ¬ ((s : Int) = 0) := by omega
      go_wp2
      go_ret
      exact ⟨ret_bool (okC_f (by omega)).symm, HB0.out⟩
  · by_cases z : s = 0 ∧ n = 0
    · obtain ⟨rfl, rfl⟩ := z
      go_wp2
      go_ret
      exact ⟨ret_bool (okC_f (by omega)).symm, HB0.out⟩
    · go_wp2
      all_goals
        go_ret
        exact ⟨ret_bool (okC_f (by omega)).symm, HB0.out⟩

/-- A config in a box of its own. -/
theorem cfg_box (s n : Nat) (w : World) : ∃ w0, w0 = w.alloc (.cells #[.int .i64 (s : Int), .int .i64 (n : Int)] 30) ∧ Below w.heap.size w w0 ∧ w0.cell? ⟨w.heap.size, 0, none⟩ = some (.int .i64 (s : Int)) ∧ w0.cell? ⟨w.heap.size, 1, none⟩ = some (.int .i64 (n : Int)) := by
  have hr0 := Whole.new w 30 #[.int .i64 (s : Int), .int .i64 (n : Int)]
  exact ⟨_, rfl, (Below.refl _ w).alloc (Nat.le_refl _) _, hr0.cell 0, hr0.cell 1⟩
theorem cell_on {w0 w' : World} {p : Addr} {v : Value} (h : w0.cell? p = some v) (hb : Below w0.heap.size w0 w') : w'.cell? p = some v := (hb.cell (lt_of_cell h)).trans h
/-- What a region that makes memory holds on: two cells. -/
theorem held2 {w W W2 : World} {p q : Addr} {u v : Value} (h : Below w.heap.size w W ∧ W.cell? p = some u ∧ W.cell? q = some v) (k : Below W.heap.size W W2) : Below w.heap.size w W2 ∧ W2.cell? p = some u ∧ W2.cell? q = some v :=
  ⟨below_chain h.1 k, (k.cell (lt_of_cell h.2.1)).trans h.2.1, (k.cell (lt_of_cell h.2.2)).trans h.2.2⟩
theorem held2_0 {w : World} {p q : Addr} {u v : Value} (x : w.cell? p = some u) (y : w.cell? q = some v) : Below w.heap.size w w.drew ∧ w.drew.cell? p = some u ∧ w.drew.cell? q = some v := ⟨(Below.refl _ _).drew, x, y⟩

set_option maxHeartbeats 800000 in
theorem slots_any (s n : Nat) (w : World) (h1 : s < 8589934592) : Calls Tryz.prog 161 #[.agg #[.int .i64 (s : Int), .int .i64 (n : Int)]] w fun e w' => e = .returned (.int .i64 (slotsC s : Nat)) ∧ Below w.heap.size w w' := by
  obtain ⟨w0, hw0, hb0, x0, x1⟩ := cfg_box s n w
  have HB0 := Lib.hid hb0
  clear hb0
  go_enter Tryz.func161, Tryz.ntmps161
  go_upto_region 1 with fail
  rw [← hw0]
  clear hw0
  go_wp2
  go_ret
  exact ⟨ret_int (by rw [slotsC]; omega), HB0.out⟩
set_option maxHeartbeats 800000 in
theorem padded_any (n : Nat) (w : World) (h1 : n < 8589934592) : Calls Tryz.prog 210 #[.int .i64 (n : Int)] w fun e w' => e = .returned (.int .i64 ((n + 15) / 16 * 16 : Nat)) ∧ w' = w := by
  go_enter Tryz.func210, Tryz.ntmps210
  go_wp2
  go_ret
  exact ⟨ret_int (by omega), rfl⟩
set_option maxHeartbeats 3200000 in
theorem base_any (s n : Nat) (w : World) (hs : Sz w) (ok : okC s n = true) : Calls Tryz.prog 147 #[.agg #[.int .i64 (s : Int), .int .i64 (n : Int)]] w fun e w' => e = .returned (.int .i64 (baseC s n : Nat)) ∧ Below w.heap.size w w' := by
  obtain ⟨w0, hw0, hb0, x0, x1⟩ := cfg_box s n w
  have hk := okC_iff.1 ok
  have HR := Lib.hid (right_any s n w0 (hs.below hb0) (by omega) (by omega))
  have HB0 := Lib.hid hb0
  have hn : n ≤ 8192 := hk.2.2.2.2
  have hs64 : s ≤ 64 := hk.2.1
  obtain ⟨z, hz⟩ : ∃ z, z = slotsC s := ⟨_, rfl⟩
  have hl : z ≤ 2000 := by rw [hz, slotsC]; omega
  have hsl := fun W => slots_any s n W (by omega)
  have hpd := fun W => padded_any (z + n * 4) W (by omega)
  rw [← hz] at hsl
  rw [show ((z + n * 4 : Nat) : Int) = (z : Int) + (n : Int) * 4 by omega] at hpd
  have HSL := Lib.hid hsl
  have HPD := Lib.hid hpd
  have HZ : Hid ((z + n * 4 + 15) / 16 * 16 = baseC s n) := Lib.hid (by rw [hz, baseC])
  rw [ok] at HR
  clear hb0 hs hsl ok hk hz hpd
  go_enter Tryz.func147, Tryz.ntmps147
  go_upto_region 1 with fail
  rw [← hw0]
  clear hw0
  go_wp2_with fail
  refine HR.out.mono ?_
  rintro e w1 ⟨rfl, hb1⟩
  have y0 := cell_on x0 hb1
  have y1 := cell_on x1 hb1
  have HB1 := Lib.hid (below_chain HB0.out hb1)
  clear x0 x1 hb1
  have hw1 : IntKind.i64.wrap ((n : Int) * 4) = (n : Int) * 4 := IntWalk.i64_in _ (by omega)
  have hw2 : IntKind.i64.wrap ((z : Int) + (n : Int) * 4) = (z : Int) + (n : Int) * 4 := IntWalk.i64_in _ (by omega)
  go_wp2_with fail
  have hs0 := held2_0 y0 y1
  go_region_held3 (fun w' => Below w1.heap.size w1 w' ∧ w'.cell? ⟨w.heap.size, 0, none⟩ = some (.int .i64 (s : Int)) ∧ w'.cell? ⟨w.heap.size, 1, none⟩ = some (.int .i64 (n : Int)))
    (first | exact hs0 | assumption | exact held2 (by assumption) (by assumption))
    (first
      | ((go_at_call 161; with_reducible refine (HSL.out _).mono ?_); rintro e w2 ⟨rfl, hb2⟩)
      | ((go_at_call 210; with_reducible refine (HPD.out _).mono ?_); rintro e w2 ⟨rfl, rfl⟩))
  go_wp2_with fail
  go_ret
  exact ⟨ret_int (by rw [← HZ.out]; omega), below_chain HB1.out (And.left (by assumption))⟩

set_option maxHeartbeats 3200000 in
theorem size_any (s n : Nat) (w : World) (hs : Sz w) (ok : okC s n = true) : Calls Tryz.prog 80 #[.agg #[.int .i64 (s : Int), .int .i64 (n : Int)]] w fun e w' => e = .returned (.int .i64 (sizeC s n : Nat)) ∧ Below w.heap.size w w' := by
  obtain ⟨w0, hw0, hb0, x0, x1⟩ := cfg_box s n w
  have hk := okC_iff.1 ok
  have HR := Lib.hid (right_any s n w0 (hs.below hb0) (by omega) (by omega))
  have HB0 := Lib.hid hb0
  have hs64 : s ≤ 64 := hk.2.1
  have hsz := sizeC_le ok
  obtain ⟨z, hz⟩ : ∃ z, z = baseC s n := ⟨_, rfl⟩
  have hba := fun W (h : Below w0.heap.size w0 W) => base_any s n W ((hs.below hb0).below h) ok
  rw [← hz] at hba hsz
  have hl : z ≤ 200000 := by omega
  have HBA := Lib.hid hba
  have HZ : Hid (z + s * 1024 = sizeC s n) := Lib.hid hsz.2.2.2.2.2
  rw [ok] at HR
  clear hb0 hs ok hk hz hba hsz
  go_enter Tryz.func80, Tryz.ntmps80
  go_upto_region 1 with fail
  rw [← hw0]
  clear hw0
  go_wp2_with fail
  refine HR.out.mono ?_
  rintro e w1 ⟨rfl, hb1⟩
  have y0 := cell_on x0 hb1
  have y1 := cell_on x1 hb1
  have HB1 := Lib.hid (below_chain HB0.out hb1)
  have HB01 := Lib.hid hb1
  clear x0 x1 hb1
  have hw1 : IntKind.i64.wrap ((s : Int) * 1024) = (s : Int) * 1024 := IntWalk.i64_in _ (by omega)
  have hw2 : IntKind.i64.wrap ((z : Int) + (s : Int) * 1024) = (z : Int) + (s : Int) * 1024 := IntWalk.i64_in _ (by omega)
  go_wp2_with fail
  have hs0 := held2_0 y0 y1
  go_region_held3 (fun w' => Below w1.heap.size w1 w' ∧ w'.cell? ⟨w.heap.size, 0, none⟩ = some (.int .i64 (s : Int)) ∧ w'.cell? ⟨w.heap.size, 1, none⟩ = some (.int .i64 (n : Int)))
    (first | exact hs0 | assumption | exact held2 (by assumption) (by assumption))
    (first
      | ((go_at_call 147; with_reducible refine (HBA.out _ (below_chain HB01.out (by first | assumption | exact And.left (by assumption)))).mono ?_); rintro e w2 ⟨rfl, hb2⟩))
  go_wp2_with fail
  go_ret
  exact ⟨ret_int (by rw [← HZ.out]; omega), below_chain HB1.out (And.left (by assumption))⟩

set_option maxHeartbeats 3200000 in
theorem in_any (s n i many start size : Nat) (w : World) (hs : Sz w) (ok : okC s n = true) (hi : i < many) (hm : many < 8589934592) (hst : start < 8589934592) (hsz : size ≤ 1024) :
    Calls Tryz.prog 160 #[.agg #[.int .i64 (s : Int), .int .i64 (n : Int)], .int .i64 (i : Int), .int .i64 (many : Int), .int .i64 (start : Int), .int .i64 (size : Int)] w fun e w' => e = .returned (.int .i64 ((start + i * size : Nat) : Int)) ∧ Below w.heap.size w w' := by
  obtain ⟨w0, hw0, hb0, x0, x1⟩ := cfg_box s n w
  have hk := okC_iff.1 ok
  have HR := Lib.hid (right_any s n w0 (hs.below hb0) (by omega) (by omega))
  have HB0 := Lib.hid hb0
  have hmul : i * size ≤ 8589934592 * 1024 := Nat.mul_le_mul (by omega) hsz
  obtain ⟨q, hq⟩ : ∃ q, q = i * size := ⟨_, rfl⟩
  have hq' : (i : Int) * (size : Int) = (q : Int) := by rw [hq]; simp
  rw [← hq] at hmul ⊢
  rw [ok] at HR
  clear hb0 hs ok hk hq
  go_enter Tryz.func160, Tryz.ntmps160
  go_upto_region 1 with fail
  rw [← hw0]
  clear hw0
  go_wp2_with fail
  refine HR.out.mono ?_
  rintro e w1 ⟨rfl, hb1⟩
  have HB1 := Lib.hid (below_chain HB0.out hb1)
  clear x0 x1 hb1
  go_wp2
  go_ret
  exact ⟨ret_int (by omega), HB1.out⟩

set_option maxHeartbeats 3200000 in
theorem headAt_any (s n i : Nat) (w : World) (hs : Sz w) (ok : okC s n = true) (hi : i < s) : Calls Tryz.prog 217 #[.agg #[.int .i64 (s : Int), .int .i64 (n : Int)], .int .i64 (i : Int)] w fun e w' => e = .returned (.int .i64 ((128 + i * 16 : Nat) : Int)) ∧ Below w.heap.size w w' := by
  obtain ⟨w0, hw0, hb0, x0, x1⟩ := cfg_box s n w
  have hk := okC_iff.1 ok
  have HIN := Lib.hid (in_any s n i s 128 16 w0 (hs.below hb0) ok hi (by omega) (by omega) (by omega))
  have HB0 := Lib.hid hb0
  clear hb0 hs ok hk
  go_enter Tryz.func217, Tryz.ntmps217
  go_upto_region 1 with fail
  rw [← hw0]
  clear hw0
  go_wp2_with fail
  refine HIN.out.mono ?_
  rintro e w1 ⟨rfl, hb1⟩
  go_wp2
  go_ret
  exact ⟨rfl, below_chain HB0.out hb1⟩

set_option maxHeartbeats 3200000 in
theorem slotAt_any (s n i : Nat) (w : World) (hs : Sz w) (ok : okC s n = true) (hi : i < n) : Calls Tryz.prog 90 #[.agg #[.int .i64 (s : Int), .int .i64 (n : Int)], .int .i64 (i : Int)] w fun e w' => e = .returned (.int .i64 ((slotsC s + i * 4 : Nat) : Int)) ∧ Below w.heap.size w w' := by
  obtain ⟨w0, hw0, hb0, x0, x1⟩ := cfg_box s n w
  have hk := okC_iff.1 ok
  have HR := Lib.hid (right_any s n w0 (hs.below hb0) (by omega) (by omega))
  have HB0 := Lib.hid hb0
  obtain ⟨z, hz⟩ : ∃ z, z = slotsC s := ⟨_, rfl⟩
  have hl : z ≤ 2000 := by rw [hz, slotsC]; omega
  have hsl := fun W => slots_any s n W (by omega)
  have hin := fun W (h : Below w0.heap.size w0 W) => in_any s n i n z 4 W ((hs.below hb0).below h) ok hi (by omega) (by omega) (by omega)
  rw [← hz] at hsl ⊢
  have HSL := Lib.hid hsl
  have HIN := Lib.hid hin
  rw [ok] at HR
  clear hb0 hs hsl ok hk hz hin
  go_enter Tryz.func90, Tryz.ntmps90
  go_upto_region 1 with fail
  rw [← hw0]
  clear hw0
  go_wp2_with fail
  refine HR.out.mono ?_
  rintro e w1 ⟨rfl, hb1⟩
  have y0 := cell_on x0 hb1
  have y1 := cell_on x1 hb1
  have HB1 := Lib.hid (below_chain HB0.out hb1)
  have HB01 := Lib.hid hb1
  clear x0 x1 hb1
  go_wp2_with fail
  have hs0 := held2_0 y0 y1
  go_region_held3 (fun w' => Below w1.heap.size w1 w' ∧ w'.cell? ⟨w.heap.size, 0, none⟩ = some (.int .i64 (s : Int)) ∧ w'.cell? ⟨w.heap.size, 1, none⟩ = some (.int .i64 (n : Int)))
    (first | exact hs0 | assumption | exact held2 (by assumption) (by assumption))
    (first
      | ((go_at_call 161; with_reducible refine (HSL.out _).mono ?_); rintro e w2 ⟨rfl, hb2⟩)
      | ((go_at_call 160; refine (HIN.out _ (below_chain HB01.out (by first | assumption | exact And.left (by assumption)))).mono ?_); rintro e w2 ⟨rfl, hb2⟩))
  go_wp2_with fail
  go_ret
  exact ⟨rfl, below_chain HB1.out (And.left (by assumption))⟩

set_option maxHeartbeats 3200000 in
theorem slabAt_any (s n i : Nat) (w : World) (hs : Sz w) (ok : okC s n = true) (hi : i < s) : Calls Tryz.prog 261 #[.agg #[.int .i64 (s : Int), .int .i64 (n : Int)], .int .i64 (i : Int)] w fun e w' => e = .returned (.int .i64 ((baseC s n + i * 1024 : Nat) : Int)) ∧ Below w.heap.size w w' := by
  obtain ⟨w0, hw0, hb0, y0, y1⟩ := cfg_box s n w
  have hk := okC_iff.1 ok
  have HB0 := Lib.hid hb0
  have hsz := sizeC_le ok
  obtain ⟨z, hz⟩ : ∃ z, z = baseC s n := ⟨_, rfl⟩
  have hba := fun W (h : Below w0.heap.size w0 W) => base_any s n W ((hs.below hb0).below h) ok
  rw [← hz] at hba hsz ⊢
  have hin := fun W (h : Below w0.heap.size w0 W) => in_any s n i s z 1024 W ((hs.below hb0).below h) ok hi (by omega) (by omega) (by omega)
  have HBA := Lib.hid hba
  have HIN := Lib.hid hin
  clear hb0 hs ok hk hz hin hba hsz
  go_enter Tryz.func261, Tryz.ntmps261
  go_upto_region 1 with fail
  rw [← hw0]
  clear hw0
  go_wp2_with fail
  have hs0 := held2_0 y0 y1
  go_region_held3 (fun w' => Below w0.heap.size w0 w' ∧ w'.cell? ⟨w.heap.size, 0, none⟩ = some (.int .i64 (s : Int)) ∧ w'.cell? ⟨w.heap.size, 1, none⟩ = some (.int .i64 (n : Int)))
    (first | exact hs0 | assumption | exact held2 (by assumption) (by assumption))
    (first
      | ((go_at_call 147; with_reducible refine (HBA.out _ (by first | assumption | exact And.left (by assumption))).mono ?_); rintro e w2 ⟨rfl, hb2⟩)
      | ((go_at_call 160; refine (HIN.out _ (by first | assumption | exact And.left (by assumption))).mono ?_); rintro e w2 ⟨rfl, hb2⟩))
  go_wp2_with fail
  go_ret
  exact ⟨rfl, below_chain HB0.out (And.left (by assumption))⟩
end Go.Proofs.YtoafmlegamjlpaaGreatDoor
namespace Go.Proofs.YtoafmlegamjlpaaGreatDoor
open Go.RowKit Go.Colm Go.Cap
set_option linter.unusedVariables false
set_option linter.unusedSimpArgs false
section
variable {Λ : MLay} {μ : Mm} {w : World}
set_option maxHeartbeats 1600000 in
theorem fits64_ok (v b : Nat) (w : World) (hb : widthP b) (hv : v < 256 ^ b) : Calls Tryz.prog 148 #[.int .u64 (v : Int), .int .i64 (b : Int)] w fun e w' => e = .returned (.bool true) ∧ w' = w := by
  have HW := Lib.hid (width_any b w hb)
  go_enter Tryz.func148, Tryz.ntmps148
  rcases hb with rfl | rfl | rfl | rfl
  · go_wp2_with fail
    refine HW.out.mono ?_
    rintro e w1 ⟨rfl, rfl⟩
    go_wp2_with fail
    go_ret
    exact ⟨ret_bool (by simp; omega), rfl⟩
  · go_wp2_with fail
    refine HW.out.mono ?_
    rintro e w1 ⟨rfl, rfl⟩
    go_wp2_with fail
    go_ret
    exact ⟨ret_bool (by simp; omega), rfl⟩
  · go_wp2_with fail
    refine HW.out.mono ?_
    rintro e w1 ⟨rfl, rfl⟩
    go_wp2_with fail
    go_ret
    exact ⟨ret_bool (by simp; omega), rfl⟩
  · go_wp2_with fail
    go_ret
    exact ⟨rfl, rfl⟩
set_option maxHeartbeats 3200000 in
theorem aput_A {ab gb gc n : Nat} {t : Tr} (h : ArA ab gb gc n t w) (hn5 : n ≤ 1200000) (a b v : Nat) (hb : widthP b) (hd : a % b = 0) (hr : a + b ≤ n) (hv : v < 256 ^ b) :
    Calls Tryz.prog 81 #[.pointer (some ⟨ab, 0, none⟩), .int .i64 (a : Int), .int .i64 (b : Int), .int .u64 (v : Int)] w fun e w' => e = .returned (.int .i64 0) ∧ ArA ab gb gc n (t.store a b v) w' ∧ Kept (fun k => k = gb) w w' := by
  have HN := Lib.hid (anone_A h)
  have hl := load_ok gb 0 n gc a b (fun j => t.get (a + j)) w hb hd hr (by omega) (fun j => Tr.get_lt _ _) (fun j hj => by rw [Nat.zero_add]; exact h.2.1.cell (by omega))
  rw [leF_load] at hl
  have c0 := h.1.cell 0
  simp only [List.getElem?_toArray, List.getElem?_cons_zero] at c0
  have HF := Lib.hid (fits64_ok v b w hb hv)
  have h8 : b ≤ 8 := by rcases hb with rfl | rfl | rfl | rfl <;> omega
  have hv64 : v < 18446744073709551616 := by
    have : 256 ^ b ≤ 256 ^ 8 := Nat.pow_le_pow_right (by decide) h8
    have e8 : 256 ^ 8 = 18446744073709551616 := by decide
    omega
  have hne : ab ≠ gb := by
    obtain ⟨cs, hcs, _⟩ := h.2.1
    exact whole_apart h.1 hcs (by decide)
  have HH := Lib.hid h
  obtain ⟨z, hz0⟩ : ∃ z, z = t.load a b := ⟨_, rfl⟩
  rw [← hz0] at hl
  have HL := Lib.hid hl
  clear h hl hb hd hz0 hv
  go_enter Tryz.func81, Tryz.ntmps81
  go_wp2_with fail
  refine HN.out.mono ?_
  rintro e w1 ⟨rfl, rfl⟩
  go_wp2_with fail
  refine HL.out.mono ?_
  rintro e w2 ⟨rfl, rfl⟩
  go_wp2_with fail
  refine HF.out.mono ?_
  rintro e w3 ⟨rfl, rfl⟩
  have HG0 : Hid (ArA ab gb gc n (t.store a 0 v) w3 ∧ Kept (fun k => k = gb) w3 w3) := Lib.hid ⟨HH.out, Kept.refl _ _⟩
  go_wp2_with fail
  clear c0
  go_loopw [11, 36] (fun _ s36 wr => ∃ k : Nat, k ≤ b ∧ s36 = .int .i64 k ∧ Hid (ArA ab gb gc n (t.store a k v) wr ∧ Kept (fun k => k = gb) w3 wr)) (fun _ s36 _ => match s36 with | .int _ m => b - m.toNat | _ => 0)
  case atStart => exact ⟨0, Nat.zero_le _, rfl, HG0⟩
  case round =>
    obtain ⟨k, hk, rfl, HG⟩ := hrel
    by_cases hlt : k < b
    · have c0 := HG.out.1.1.cell 0
      simp only [List.getElem?_toArray, List.getElem?_cons_zero] at c0
      have hfz := HG.out.1.2.1.frozen (a + k)
      have hcell := HG.out.1.2.1.cell (i := a + k) (by omega)
      have HW : Hid (∀ x : Int, x = ((v / 256 ^ k % 256 : Nat) : Int) → ArA ab gb gc n (t.store a (k + 1) v) (wr.setCell ⟨gb, a + k, none⟩ (.int .u8 x)) ∧ Kept (fun k => k = gb) w3 (wr.setCell ⟨gb, a + k, none⟩ (.int .u8 x))) := Lib.hid (by
        rintro x rfl
        have h1 := HG.out.1.2.1.put (i := a + k) (by omega) (by omega) (v / 256 ^ k % 256)
        rw [Nat.mod_mod] at h1
        rw [Tr.store_succ]
        have hk1 : Kept (fun k => k = gb) wr (wr.setCell ⟨gb, a + k, none⟩ (.int .u8 ((v / 256 ^ k % 256 : Nat) : Int))) := (Kept.refl (fun k => k = gb) wr).setCell (p := ⟨gb, a + k, none⟩) (.inl rfl) _
        exact ⟨⟨hk1.whole HG.out.1.1 hne, h1, HG.out.1.2.2⟩, HG.out.2.trans hk1⟩)
      have hk8 : k = 0 ∨ k = 1 ∨ k = 2 ∨ k = 3 ∨ k = 4 ∨ k = 5 ∨ k = 6 ∨ k = 7 := by omega
      rcases hk8 with rfl | rfl | rfl | rfl | rfl | rfl | rfl | rfl
      all_goals
        try rw [Nat.add_zero] at hfz hcell
        go_wp2_with fail
        go_region
        all_goals
          go_wp2_with fail
          go_roundw
          case rel => exact ⟨_, hlt, rfl, Lib.hid ⟨(HW.out _ (by simp <;> omega)).1.kept (Kept.refl (fun _ => False) _).drew id id, (HW.out _ (by simp <;> omega)).2.drew⟩⟩
          case measure => simp; omega
    · have hkk : k = b := by omega
      go_wp2_with fail
      go_ret
      refine ⟨rfl, ?_⟩
      rw [← hkk]
      exact HG.out
theorem aput_ok (h : HasM Λ μ w) (a b v : Nat) (hb : widthP b) (hd : a % b = 0) (hr : a + b ≤ μ.size) (hv : v < 256 ^ b) :
    Calls Tryz.prog 81 #[.pointer (some ⟨Λ.ab, 0, none⟩), .int .i64 (a : Int), .int .i64 (b : Int), .int .u64 (v : Int)] w fun e w' => e = .returned (.int .i64 0) ∧ MG Λ w { μ with b := μ.b.store a b v } w' := by
  have := h.sz
  refine (aput_A h.a (by omega) a b v hb hd hr hv).mono ?_
  rintro e w' ⟨rfl, h1, h2⟩
  exact ⟨rfl, h.setA h2 h1⟩
theorem st_some {a b kind v : Nat} {μ' : Mm} (h : μ.st a b kind v = some μ') : μ.may a b kind = true ∧ v < 256 ^ b ∧ μ' = { μ with b := μ.b.store a b v } := by
  unfold Mm.st at h
  split at h
  · rename_i h1
    exact ⟨h1.1, h1.2, (Option.some.inj h).symm⟩
  · cases h
set_option maxHeartbeats 1600000 in
theorem mstore_ok (h : HasM Λ μ w) (a b kind v : Nat) (μ' : Mm) (hv : μ.st a b kind v = some μ') : Calls Tryz.prog 157 #[.pointer (some ⟨Λ.mb, 0, none⟩), .int .i64 (a : Int), .int .i64 (b : Int), .int .i64 (kind : Int), .int .u64 (v : Int)] w fun e w' => e = .returned (.bool true) ∧ MG Λ w μ' w' := by
  obtain ⟨hm, hvb, rfl⟩ := st_some hv
  obtain ⟨h1, h2, h3, h4⟩ := may_iff.1 hm
  have hin := kindAt_in h4 h3
  have HN := Lib.hid (mnone_any h)
  have HL := Lib.hid (look_ok h a b kind hm)
  obtain ⟨c0, c1, _, _⟩ := h.mc
  have hput := fun (w' : World) (hw : MG Λ w μ w') => aput_ok hw.has a b v h1 h2 hin hvb
  have HP := Lib.hid hput
  obtain ⟨μ', hμ⟩ : ∃ μ', μ' = { μ with b := μ.b.store a b v } := ⟨_, rfl⟩
  rw [← hμ] at HP ⊢
  clear hv hm h1 h2 h3 h4 hin h hput hμ hvb
  go_enter Tryz.func157, Tryz.ntmps157
  go_wp2_with fail
  refine HN.out.mono ?_
  rintro e w1 ⟨rfl, rfl⟩
  go_wp2_with fail
  refine HL.out.mono ?_
  rintro e w2 ⟨rfl, hg2⟩
  obtain ⟨d0, d1, _, _⟩ := hg2.has.mc
  have HG2 := Lib.hid hg2
  clear hg2
  go_wp2_with fail
  refine (HP.out _ HG2.out).mono ?_
  rintro e w3 ⟨rfl, hg3⟩
  have HG3 := Lib.hid (HG2.out.trans hg3)
  clear hg3
  go_wp2_with fail
  go_ret
  exact ⟨rfl, HG3.out⟩
set_option maxHeartbeats 1600000 in
theorem mkind_ok (h : HasM Λ μ w) (a n : Nat) (hn : 1 ≤ n) (hr : a + n ≤ μ.size) : Calls Tryz.prog 270 #[.pointer (some ⟨Λ.mb, 0, none⟩), .int .i64 (a : Int), .int .i64 (n : Int)] w fun e w' => e = .returned (.int .i64 (μ.kindAt a n : Nat)) ∧ w' = w := by
  have HN := Lib.hid (mnone_any h)
  have HK := Lib.hid (kind_ok h a n hn hr)
  obtain ⟨c0, c1, _, _⟩ := h.mc
  clear h hr
  go_enter Tryz.func270, Tryz.ntmps270
  go_wp2_with fail
  refine HN.out.mono ?_
  rintro e w1 ⟨rfl, rfl⟩
  go_wp2_with fail
  refine HK.out.mono ?_
  rintro e w2 ⟨rfl, rfl⟩
  go_wp2_with fail
  go_ret
  exact ⟨rfl, rfl⟩
theorem place2m {w : World} {rb : Nat} {T : TypeId} {a0 a1 : Value} (h : Whole w rb T #[a0, a1]) (x y : Value) : Whole ((w.setCell ⟨rb, 0, none⟩ x).setCell ⟨rb, 1, none⟩ y) rb T #[x, y] := (h.put 0 x).put 1 y
set_option maxHeartbeats 1600000 in
theorem config_any (h : HasM Λ μ w) : Calls Tryz.prog 61 #[.pointer (some ⟨Λ.mb, 0, none⟩)] w fun e w' => e = .returned (.agg #[.int .i64 (μ.slabs : Int), .int .i64 (μ.slots : Int)]) ∧ Below w.heap.size w w' := by
  obtain ⟨w0, hw0⟩ : ∃ w0, w0 = w.alloc (.cells #[.int .i64 0, .int .i64 0] 30) := ⟨_, rfl⟩
  have hb0 : Below w.heap.size w w0 := by rw [hw0]; exact (Below.refl _ w).alloc (Nat.le_refl _) _
  have hr0 : Whole w0 w.heap.size 30 #[.int .i64 0, .int .i64 0] := by rw [hw0]; exact Whole.new w _ _
  have h0 := h.below hb0
  have HN := Lib.hid (mnone_any h0)
  obtain ⟨_, _, c2, c3⟩ := h0.mc
  have x0 := hr0.cell 0
  have x1 := hr0.cell 1
  simp only [List.getElem?_toArray, List.getElem?_cons_zero, List.getElem?_cons_succ] at x0 x1
  have f0 := hr0.frozen 0
  have f1 := hr0.frozen 1
  have HB0 := Lib.hid hb0
  have HR0 := Lib.hid hr0
  clear h h0 hb0 hr0
  go_enter Tryz.func61, Tryz.ntmps61
  go_upto_region 1 with fail
  rw [← hw0]
  clear hw0
  go_wp2_with fail
  refine HN.out.mono ?_
  rintro e w1 ⟨rfl, rfl⟩
  go_wp2_with fail
  refine bodyPost_ret (results_cell_row rfl _ _ w.heap.size 30 _ (0, 0) _ rfl (place2m HR0.out _ _) Tryz.underlying30 rfl (by kernel_rfl)) rfl ?_
  exact ⟨rfl, Kept.to_below (S := fun k => k = w.heap.size) ((((Kept.below HB0.out (fun k => k = w.heap.size))).setCell (p := ⟨w.heap.size, 0, none⟩) (.inl rfl) _).setCell (p := ⟨w.heap.size, 1, none⟩) (.inl rfl) _) (Nat.le_refl _) (fun i hi e => by omega)⟩
end
end Go.Proofs.YtoafmlegamjlpaaGreatDoor
namespace Go.Proofs.YtoafmlegamjlpaaGreatDoor
open Go.RowKit Go.Colm Go.Cap
set_option linter.unusedVariables false
set_option linter.unusedSimpArgs false
section
variable {Λ : MLay} {μ : Mm} {w : World}
set_option maxHeartbeats 1600000 in
theorem field_ok (f : Nat) (w : World) (he : EnvC w) (hf : f < 21) : Calls Tryz.prog 156 #[.int .i64 (f : Int)] w fun e w' => e = .returned (.tuple #[.int .i64 (Mm.rootAt f : Nat), .int .i64 (Mm.rootW f : Nat)]) ∧ w' = w := by
  have hc := he.fl f hf
  have HE : Hid (fldL.getD f 0 = Mm.rootAt f) := Lib.hid rfl
  obtain ⟨z, hz⟩ : ∃ z, z = fldL.getD f 0 := ⟨_, rfl⟩
  rw [← hz] at hc HE
  clear hz he
  go_enter Tryz.func156, Tryz.ntmps156
  by_cases h : f = 16
  · subst h
    go_wp2
    go_ret2
    rw [← HE.out]
    exact ⟨rfl, rfl⟩
  · have HW : Hid (Mm.rootW f = 4) := Lib.hid (by rw [Mm.rootW, if_neg h])
    have h' : ((f : Int) == 16) = false := by rw [beq_eq_false_iff_ne]; omega
    go_wp2
    go_ret2
    rw [← HE.out, HW.out]
    exact ⟨rfl, rfl⟩
theorem rootW_pos (f : Nat) : 1 ≤ Mm.rootW f ∧ Mm.rootW f ≤ 8 := by
  unfold Mm.rootW
  split <;> omega
theorem rootAt_lt (f : Nat) : Mm.rootAt f ≤ 92 := by
  unfold Mm.rootAt
  rcases Nat.lt_or_ge f 21 with h | h
  · have : ∀ g, g < 21 → [8, 12, 16, 20, 24, 28, 32, 36, 40, 44, 48, 52, 56, 60, 64, 68, 72, 80, 84, 88, 92].getD g 0 ≤ 92 := by decide
    exact this f h
  · rw [List.getD_eq_getElem?_getD, List.getElem?_eq_none (by simpa using h)]
    decide
set_option maxHeartbeats 1600000 in
theorem root_ok (h : HasM Λ μ w) (f v : Nat) (hf : f < 21) (hv : μ.root f = some v) : Calls Tryz.prog 180 #[.pointer (some ⟨Λ.mb, 0, none⟩), .int .i64 (f : Int)] w fun e w' => e = .returned (.int .u64 (v : Int)) ∧ MG Λ w μ w' := by
  have HF := Lib.hid (field_ok f w h.env hf)
  have HL := Lib.hid (mload_ok h (Mm.rootAt f) (Mm.rootW f) 2 v hv)
  obtain ⟨hw1, hw2⟩ := rootW_pos f
  obtain ⟨a, ha⟩ : ∃ a, a = Mm.rootAt f := ⟨_, rfl⟩
  obtain ⟨b, hb⟩ : ∃ b, b = Mm.rootW f := ⟨_, rfl⟩
  rw [← ha, ← hb] at HF HL
  rw [← hb] at hw1 hw2
  have hne : ((b : Int) == 0) = false := by rw [beq_eq_false_iff_ne]; omega
  clear h hv ha hb
  go_enter Tryz.func180, Tryz.ntmps180
  go_wp2_with fail
  refine HF.out.mono ?_
  rintro e w1 ⟨rfl, rfl⟩
  go_wp2_with fail
  refine HL.out.mono ?_
  rintro e w2 ⟨rfl, hg⟩
  go_wp2
  go_ret
  exact ⟨rfl, hg⟩
set_option maxHeartbeats 1600000 in
theorem setRoot_ok (h : HasM Λ μ w) (f v : Nat) (μ' : Mm) (hf : f < 21) (hv : μ.setRoot f v = some μ') : Calls Tryz.prog 87 #[.pointer (some ⟨Λ.mb, 0, none⟩), .int .i64 (f : Int), .int .u64 (v : Int)] w fun e w' => e = .returned (.bool true) ∧ MG Λ w μ' w' := by
  have HF := Lib.hid (field_ok f w h.env hf)
  have HL := Lib.hid (mstore_ok h (Mm.rootAt f) (Mm.rootW f) 2 v μ' hv)
  obtain ⟨hw1, hw2⟩ := rootW_pos f
  obtain ⟨a, ha⟩ : ∃ a, a = Mm.rootAt f := ⟨_, rfl⟩
  obtain ⟨b, hb⟩ : ∃ b, b = Mm.rootW f := ⟨_, rfl⟩
  rw [← ha, ← hb] at HF HL
  rw [← hb] at hw1 hw2
  clear h hv ha hb
  go_enter Tryz.func87, Tryz.ntmps87
  go_wp2_with fail
  refine HF.out.mono ?_
  rintro e w1 ⟨rfl, rfl⟩
  go_wp2_with fail
  refine HL.out.mono ?_
  rintro e w2 ⟨rfl, hg⟩
  go_wp2
  go_ret
  exact ⟨rfl, hg⟩
end
end Go.Proofs.YtoafmlegamjlpaaGreatDoor
namespace Go.Proofs.YtoafmlegamjlpaaGreatDoor
open Go.RowKit Go.Colm Go.Cap
set_option linter.unusedVariables false
set_option linter.unusedSimpArgs false
section
variable {Λ : MLay} {μ : Mm} {w : World}
set_option maxHeartbeats 1600000 in
theorem alen_any (h : HasM Λ μ w) : Calls Tryz.prog 98 #[.pointer (some ⟨Λ.ab, 0, none⟩)] w fun e w' => e = .returned (.int .i64 (μ.size : Int)) ∧ w' = w := by
  have HN := Lib.hid (anone_any h)
  have c0 := h.ar.cell 0
  simp only [List.getElem?_toArray, List.getElem?_cons_zero] at c0
  obtain ⟨q, hq⟩ : ∃ q, q = μ.size := ⟨_, rfl⟩
  rw [← hq] at c0 ⊢
  clear h hq
  go_enter Tryz.func98, Tryz.ntmps98
  go_wp2_with fail
  refine HN.out.mono ?_
  rintro e w1 ⟨rfl, rfl⟩
  go_wp2
  go_ret
  exact ⟨rfl, rfl⟩
theorem row_in {a n kind : Nat} (h : μ.row a n kind = true) : a + n ≤ μ.size ∧ ∀ i, i < n → μ.may (a + i) 1 kind = true := by
  unfold Mm.row at h
  simp only [Bool.and_eq_true, decide_eq_true_eq, List.all_eq_true, List.mem_range] at h
  exact h
set_option maxHeartbeats 3200000 in
theorem row_ok (h : HasM Λ μ w) (a n kind : Nat) (hr : μ.row a n kind = true) : Calls Tryz.prog 158 #[.pointer (some ⟨Λ.mb, 0, none⟩), .int .i64 (a : Int), .int .i64 (n : Int), .int .i64 (kind : Int)] w fun e w' => e = .returned (.bool true) ∧ MG Λ w μ w' := by
  obtain ⟨hin, hmay⟩ := row_in hr
  have HN := Lib.hid (mnone_any h)
  have HA := Lib.hid (alen_any h)
  obtain ⟨c0, c1, _, _⟩ := h.mc
  have hz := h.sz.1
  have HM := Lib.hid hmay
  have HG0 := Lib.hid (MG.refl h)
  obtain ⟨q, hq⟩ : ∃ q, q = μ.size := ⟨_, rfl⟩
  rw [← hq] at HA hz hin
  have e1 : decide ((n : Int) < 0) = false := by simp
  have e2 : decide ((a : Int) < 0) = false := by simp
  have e3 : decide ((q : Int) < (a : Int)) = false := by simp; omega
  have e5 : decide (q < a) = false := by simp; omega
  have e4 : decide ((q : Int) - (a : Int) < (n : Int)) = false := by simp; omega
  clear h hr hmay hq
  go_enter Tryz.func158, Tryz.ntmps158
  go_wp2_with fail
  refine HN.out.mono ?_
  rintro e w1 ⟨rfl, rfl⟩
  go_wp2_with fail
  refine HA.out.mono ?_
  rintro e w2 ⟨rfl, rfl⟩
  go_wp2_with fail
  refine HA.out.mono ?_
  rintro e w3 ⟨rfl, rfl⟩
  go_wp2_with fail
  clear c0 c1
  go_loopw [8, 9, 49] (fun _ _ s49 wr => ∃ k : Nat, k ≤ n ∧ s49 = .int .i64 k ∧ Hid (MG Λ w3 μ wr)) (fun _ _ s49 _ => match s49 with | .int _ m => n - m.toNat | _ => 0)
  case atStart => exact ⟨0, Nat.zero_le _, rfl, HG0⟩
  case round =>
    obtain ⟨k, hk, rfl, HG⟩ := hrel
    by_cases hlt : k < n
    · obtain ⟨c0, c1, _, _⟩ := HG.out.has.mc
      have hl := look_ok HG.out.has (a + k) 1 kind (HM.out k hlt)
      rw [show ((a + k : Nat) : Int) = (a : Int) + (k : Int) by omega] at hl
      have HL := Lib.hid hl
      clear hl
      go_wp2_with fail
      refine HL.out.mono ?_
      rintro e w4 ⟨rfl, hg4⟩
      have HG4 := Lib.hid (HG.out.trans hg4)
      clear hg4
      go_wp2_with fail
      go_roundw
      case rel => exact ⟨k + 1, hlt, by go_num, HG4⟩
      case measure => simp; omega
    · go_wp2_with fail
      go_ret
      exact ⟨rfl, HG.out⟩
set_option maxHeartbeats 1600000 in
theorem part_ok (h : HasM Λ μ w) (a n : Nat) (hn : 1 ≤ n) (hr : a + n ≤ μ.size) : Calls Tryz.prog 260 #[.pointer (some ⟨Λ.ab, 0, none⟩), .int .i64 (a : Int), .int .i64 (n : Int)] w fun e w' => e = .returned (.tuple #[.slice (some ⟨Λ.gb, a, none⟩) n n, .int .i64 0]) ∧ w' = w := by
  have HN := Lib.hid (anone_any h)
  have c0 := h.ar.cell 0
  simp only [List.getElem?_toArray, List.getElem?_cons_zero] at c0
  have hz := h.sz.1
  have hgc := h.gc
  obtain ⟨q, hq⟩ : ∃ q, q = μ.size := ⟨_, rfl⟩
  rw [← hq] at c0 hz hr hgc
  have e1 : decide ((n : Int) < 0) = false := by simp
  have e2 : decide ((a : Int) < 0) = false := by simp
  have e3 : decide ((q : Int) < (a : Int)) = false := by simp; omega
  have e5 : decide (q < a) = false := by simp; omega
  have e4 : decide ((q : Int) - (a : Int) < (n : Int)) = false := by simp; omega
  clear h hq
  go_enter Tryz.func260, Tryz.ntmps260
  go_wp2_with fail
  refine HN.out.mono ?_
  rintro e w1 ⟨rfl, rfl⟩
  have e6 : a + n - a = n := by omega
  go_wp2
  go_ret2
  rw [e6]
  exact ⟨rfl, rfl⟩
/-- Bytes are noughts. -/
theorem HasM.zeroed : ∀ (n : Nat) {μ : Mm} {w : World} (h : HasM Λ μ w) (a : Nat), a + n ≤ μ.size → HasM Λ { μ with b := μ.b.fill a n 0 } (w.setCells Λ.gb a (List.replicate n (.int .u8 0))) ∧ Kept (MOwn Λ) w (w.setCells Λ.gb a (List.replicate n (.int .u8 0)))
  | 0, μ, w, h, a, _ => ⟨h, Kept.refl _ _⟩
  | n + 1, μ, w, h, a, hr => by
    have h1 := h.wrote (i := a) (by omega) 0
    obtain ⟨h2, k2⟩ := HasM.zeroed n h1 (a + 1) (by show a + 1 + n ≤ μ.size; omega)
    rw [List.replicate_succ, World.setCells]
    exact ⟨h2, ((Kept.refl (MOwn Λ) w).setCell (p := ⟨Λ.gb, a, none⟩) (.inl (.inr (.inl rfl))) _).trans k2⟩
set_option maxHeartbeats 1600000 in
theorem zero1_ok (h : HasM Λ μ w) (a n : Nat) (hn : 1 ≤ n) (hr : a + n ≤ μ.size) : Calls Tryz.prog 216 #[.slice (some ⟨Λ.gb, a, none⟩) n n] w fun e w' => e = .returned (.tuple #[]) ∧ MG Λ w { μ with b := μ.b.fill a n 0 } w' := by
  have hc := fun ty => Lib.run_clear_slice w 22 5 ty (.int .u8 0) Tryz.underlying22 Tryz.zeroValue5 rfl rfl Λ.gb a n n (by omega) (fun j hj => by rw [h.by_.cell (i := a + j) (by omega)]; rfl) (fun j hj => h.by_.frozen _)
  have hz := HasM.zeroed n h a hr
  have HZ := Lib.hid hz
  clear hz h hr
  go_enter Tryz.func216, Tryz.ntmps216
  go_wp2
  go_end0
  exact ⟨rfl, HZ.out.1, HZ.out.2⟩
set_option maxHeartbeats 1600000 in
theorem written_ok (h : HasM Λ μ w) (a n : Nat) (hn : 1 ≤ n) (hr : a + n ≤ μ.size) : Calls Tryz.prog 215 #[.pointer (some ⟨Λ.ab, 0, none⟩), .int .i64 (a : Int), .int .i64 (n : Int), .func (.func 216) #[] #[]] w fun e w' => e = .returned (.int .i64 0) ∧ MG Λ w { μ with b := μ.b.fill a n 0 } w' := by
  have HP := Lib.hid (part_ok h a n hn hr)
  have HZ := Lib.hid (zero1_ok h a n hn hr)
  clear h hn hr
  go_enter Tryz.func215, Tryz.ntmps215
  go_wp2_with fail
  refine HP.out.mono ?_
  rintro e w1 ⟨rfl, rfl⟩
  go_wp2_with fail
  refine HZ.out.mono ?_
  rintro e w2 ⟨rfl, hg⟩
  go_wp2
  go_ret
  exact ⟨rfl, hg⟩
set_option maxHeartbeats 1600000 in
theorem azero_ok (h : HasM Λ μ w) (a n : Nat) (hn : 1 ≤ n) (hr : a + n ≤ μ.size) : Calls Tryz.prog 159 #[.pointer (some ⟨Λ.ab, 0, none⟩), .int .i64 (a : Int), .int .i64 (n : Int)] w fun e w' => e = .returned (.int .i64 0) ∧ MG Λ w { μ with b := μ.b.fill a n 0 } w' := by
  have HP := Lib.hid (part_ok h a n hn hr)
  have HW := Lib.hid (written_ok h a n hn hr)
  clear h hn hr HP
  go_enter Tryz.func159, Tryz.ntmps159
  go_wp2_with fail
  refine HW.out.mono ?_
  rintro e w1 ⟨rfl, hg⟩
  go_wp2
  go_ret
  exact ⟨rfl, hg⟩
set_option maxHeartbeats 1600000 in
theorem mzero_ok (h : HasM Λ μ w) (a n kind : Nat) (μ' : Mm) (hn : 1 ≤ n) (hz : μ.zero a n kind = some μ') : Calls Tryz.prog 89 #[.pointer (some ⟨Λ.mb, 0, none⟩), .int .i64 (a : Int), .int .i64 (n : Int), .int .i64 (kind : Int)] w fun e w' => e = .returned (.bool true) ∧ MG Λ w μ' w' := by
  unfold Mm.zero at hz
  split at hz
  rotate_left
  · cases hz
  rename_i hr
  obtain rfl := Option.some.inj hz
  have HR := Lib.hid (row_ok h a n kind hr)
  have haz := fun w' (hg : MG Λ w μ w') => azero_ok hg.has a n hn (row_in hr).1
  have HZ := Lib.hid haz
  clear h haz hr hz
  go_enter Tryz.func89, Tryz.ntmps89
  go_wp2_with fail
  refine HR.out.mono ?_
  rintro e w1 ⟨rfl, hg⟩
  obtain ⟨c0, c1, _, _⟩ := hg.has.mc
  have HG := Lib.hid hg
  clear hg
  go_wp2_with fail
  refine (HZ.out _ HG.out).mono ?_
  rintro e w2 ⟨rfl, hg2⟩
  have HG2 := Lib.hid (HG.out.trans hg2)
  clear hg2
  go_wp2
  go_ret
  exact ⟨rfl, HG2.out⟩
end
end Go.Proofs.YtoafmlegamjlpaaGreatDoor
namespace Go.Proofs.YtoafmlegamjlpaaGreatDoor
open Go.RowKit Go.Colm Go.Cap
set_option linter.unusedVariables false
set_option linter.unusedSimpArgs false
section
variable {Λ : MLay} {μ : Mm} {w : World}
theorem mark_some {a n kind : Nat} {μ' : Mm} (h : μ.mark a n kind = some μ') : a + n ≤ μ.size ∧ a % 4 = 0 ∧ n % 4 = 0 ∧ kind ≤ 8 ∧ μ' = { μ with k := μ.k.fill (a / 4) (n / 4) kind } := by
  unfold Mm.mark at h
  split at h
  · rename_i h1
    exact ⟨h1.1, h1.2.1, h1.2.2.1, h1.2.2.2, (Option.some.inj h).symm⟩
  · cases h
set_option maxHeartbeats 3200000 in
theorem wmark_W {wb kb kc N : Nat} {T : Tr} (h : WaA wb kb kc N T w) (hn5 : N ≤ 300000) (a n kind : Nat) (hin : a + n ≤ 4 * N) (ha4 : a % 4 = 0) (hn4 : n % 4 = 0) (hk8 : kind ≤ 8) :
    Calls Tryz.prog 103 #[.pointer (some ⟨wb, 0, none⟩), .int .i64 (a : Int), .int .i64 (n : Int), .int .i64 (kind : Int)] w fun e w' => e = .returned (.int .i64 0) ∧ WaA wb kb kc N (T.fill (a / 4) (n / 4) kind) w' ∧ Kept (fun k => k = kb) w w' := by
  have HN := Lib.hid (wnone_W h)
  have HF := Lib.hid (fits_W h hn5 a n hin)
  have hne : wb ≠ kb := by
    obtain ⟨⟨c, hc⟩, ⟨cs, hcs, _⟩, _⟩ := h
    exact whole_apart hc hcs (by decide)
  have HG0 : Hid (WaA wb kb kc N (T.fill (a / 4) 0 kind) w ∧ Kept (fun k => k = kb) w w) := Lib.hid ⟨h, Kept.refl _ _⟩
  obtain ⟨⟨k0, hk0⟩, _, hkc⟩ := h
  have c0 := hk0.cell 0
  simp only [List.getElem?_toArray, List.getElem?_cons_zero] at c0
  obtain ⟨f, hf⟩ : ∃ f, f = a / 4 := ⟨_, rfl⟩
  obtain ⟨t, ht⟩ : ∃ t, t = n / 4 := ⟨_, rfl⟩
  have hft : f + t ≤ N := by omega
  have EF : Hid ((a : Int) / 4 = (f : Int)) := Lib.hid (by omega)
  have ET : Hid (((a : Int) + (n : Int)) / 4 = ((f + t : Nat) : Int)) := Lib.hid (by omega)
  have m1 : (a : Int) % 4 = 0 := by omega
  have m2 : (n : Int) % 4 = 0 := by omega
  have z1 : a ≤ 1200000 := by omega
  have z2 : n ≤ 1200000 := by omega
  rw [← hf] at HG0
  rw [← hf, ← ht]
  have HM1 := Lib.hid m1
  have HM2 := Lib.hid m2
  clear hk0 hf ht m1 m2 ha4 hn4 hin
  go_enter Tryz.func103, Tryz.ntmps103
  go_wp2_with fail
  refine HN.out.mono ?_
  rintro e w1 ⟨rfl, rfl⟩
  go_wp2_with fail
  refine HF.out.mono ?_
  rintro e w2 ⟨rfl, rfl⟩
  have m1 := HM1.out
  have m2 := HM2.out
  have ef := EF.out
  have et := ET.out
  have e6 : f + t - f = t := by omega
  rcases Nat.eq_zero_or_pos t with h0 | hpos
  · subst h0
    go_wp2_with fail
    all_goals
      clear c0
      go_loopw [10, 49] (fun _ s49 wr => s49 = .int .i64 ((0 : Nat) : Int) ∧ wr = w2) (fun _ s49 _ => 0)
      case atStart => exact ⟨rfl, rfl⟩
      case round =>
        obtain ⟨rfl, rfl⟩ := hrel
        go_wp2_with fail
        go_ret
        exact ⟨rfl, HG0.out⟩
  · have hcap : f < kc := by omega
    go_wp2_with fail
    clear c0 m1 m2 ef et
    go_loopw [10, 49] (fun _ s49 wr => ∃ j : Nat, j ≤ t ∧ s49 = .int .i64 j ∧ Hid (WaA wb kb kc N (T.fill f j kind) wr ∧ Kept (fun k => k = kb) w2 wr)) (fun _ s49 _ => match s49 with | .int _ m => t - m.toNat | _ => 0)
    case atStart => exact ⟨0, Nat.zero_le _, rfl, HG0⟩
    case round =>
      obtain ⟨j, hj, rfl, HG⟩ := hrel
      by_cases hlt : j < t
      · have hfz := HG.out.1.2.1.frozen (f + j)
        have hcell := HG.out.1.2.1.cell (i := f + j) (by omega)
        have HW : Hid (∀ x : Int, x = ((kind % 256 : Nat) : Int) → WaA wb kb kc N (T.fill f (j + 1) kind) (wr.setCell ⟨kb, f + j, none⟩ (.int .u8 x)) ∧ Kept (fun k => k = kb) w2 (wr.setCell ⟨kb, f + j, none⟩ (.int .u8 x))) := Lib.hid (by
          rintro x rfl
          have h1 := HG.out.1.2.1.put (i := f + j) (by omega) (by omega) kind
          rw [Tr.fill_succ]
          have hk1 : Kept (fun k => k = kb) wr (wr.setCell ⟨kb, f + j, none⟩ (.int .u8 ((kind % 256 : Nat) : Int))) := (Kept.refl (fun k => k = kb) wr).setCell (p := ⟨kb, f + j, none⟩) (.inl rfl) _
          obtain ⟨⟨c, hc⟩, _, h3⟩ := HG.out.1
          exact ⟨⟨⟨c, hk1.whole hc hne⟩, h1, h3⟩, HG.out.2.trans hk1⟩)
        go_wp2_with fail
        go_roundw
        case rel => exact ⟨j + 1, hlt, by go_num, Lib.hid (HW.out _ (by omega))⟩
        case measure => simp; omega
      · have hjt : j = t := by omega
        go_wp2_with fail
        go_ret
        refine ⟨rfl, ?_⟩
        rw [← hjt]
        exact HG.out
theorem wmark_ok (h : HasM Λ μ w) (a n kind : Nat) (μ' : Mm) (hm : μ.mark a n kind = some μ') :
    Calls Tryz.prog 103 #[.pointer (some ⟨Λ.wb, 0, none⟩), .int .i64 (a : Int), .int .i64 (n : Int), .int .i64 (kind : Int)] w fun e w' => e = .returned (.int .i64 0) ∧ MG Λ w μ' w' := by
  obtain ⟨hin, ha4, hn4, hk8, rfl⟩ := mark_some hm
  have := h.sz
  refine (wmark_W h.wa (by omega) a n kind (by omega) ha4 hn4 hk8).mono ?_
  rintro e w' ⟨rfl, h1, h2⟩
  exact ⟨rfl, h.setW h2 h1⟩
set_option maxHeartbeats 1600000 in
theorem mmark_ok (h : HasM Λ μ w) (a n kind : Nat) (μ' : Mm) (hm : μ.mark a n kind = some μ') :
    Calls Tryz.prog 59 #[.pointer (some ⟨Λ.mb, 0, none⟩), .int .i64 (a : Int), .int .i64 (n : Int), .int .i64 (kind : Int)] w fun e w' => e = .returned (.int .i64 0) ∧ MG Λ w μ' w' := by
  have HN := Lib.hid (mnone_any h)
  have HM := Lib.hid (wmark_ok h a n kind μ' hm)
  obtain ⟨c0, c1, _, _⟩ := h.mc
  clear h hm
  go_enter Tryz.func59, Tryz.ntmps59
  go_wp2_with fail
  refine HN.out.mono ?_
  rintro e w1 ⟨rfl, rfl⟩
  go_wp2_with fail
  refine HM.out.mono ?_
  rintro e w2 ⟨rfl, hg⟩
  go_wp2
  go_ret
  exact ⟨rfl, hg⟩
end
end Go.Proofs.YtoafmlegamjlpaaGreatDoor
