/-
  The walks of layer image's small functions, and of the document's: may, number, with, blank, sum. No condition but what lies there.
  The walks of layer image's with and blank, and of the document's four and blank. No condition but what lies there.
  The walks of image.Squeeze and of the document's. No condition but what lies there.
-/
import Derived.Test.YtoafmlegamjlpaaGreatDoorKB
import Derived.Test.YtoafmlegamjlpaaGreatDoorKQ
import Derived.Laws.Cover3
import Derived.WalkMore
import Derived.Test.YtoafmlegamjlpaaGreatDoorKI
import Derived.Test.YtoafmlegamjlpaaGreatDoorKA
import Derived.Test.YtoafmlegamjlpaaGreatDoorKL
import Derived.Test.YtoafmlegamjlpaaGreatDoorKD
import Derived.Deep.RegionLaw
namespace Go.Proofs.YtoafmlegamjlpaaGreatDoor
open Go.RowKit Go.Colm Go.Cap Go.Mixp Go.Imgp
set_option linter.unusedVariables false
set_option linter.unusedSimpArgs false
theorem mayB_int (n : Nat) : decide (16 ≤ n ∧ n ≤ 1048576 ∧ n % 16 = 0) = mayB n := rfl
set_option maxHeartbeats 800000 in
theorem imay_any (n : Nat) (w : World) (hn : n < 1099511627776) : Calls Tryz.prog 20 #[.int .i64 (n : Int)] w fun e w' => e = .returned (.bool (mayB n)) ∧ w' = w := by
  have HM : Hid (mayB n = decide (16 ≤ n ∧ n ≤ 1048576 ∧ n % 16 = 0)) := Lib.hid rfl
  go_enter Tryz.func20, Tryz.ntmps20
  by_cases h1 : 16 ≤ n
  · have d1 : decide ((16 : Int) ≤ (n : Int)) = true := by simp; omega
    by_cases h2 : n ≤ 1048576
    · have d2 : decide ((n : Int) ≤ 1048576) = true := by simp; omega
      go_wp2_with fail
      go_ret
      refine ⟨ret_bool ?_, rfl⟩
      rw [HM.out]
      exact Bool.eq_iff_iff.2 (by simp; omega)
    · have d2 : decide ((n : Int) ≤ 1048576) = false := by simp; omega
      go_wp2_with fail
      go_ret
      refine ⟨ret_bool ?_, rfl⟩
      rw [HM.out]
      exact Bool.eq_iff_iff.2 (by simp; omega)
  · have d1 : decide ((16 : Int) ≤ (n : Int)) = false := by simp; omega
    go_wp2_with fail
    go_ret
    refine ⟨ret_bool ?_, rfl⟩
    rw [HM.out]
    simp
    omega
set_option maxHeartbeats 800000 in
theorem rmay_any (n : Nat) (w : World) (hn : n < 1099511627776) : Calls Tryz.prog 25 #[.int .i64 (n : Int)] w fun e w' => e = .returned (.bool (mayB n)) ∧ w' = w := by
  have HM : Hid (mayB n = decide (16 ≤ n ∧ n ≤ 1048576 ∧ n % 16 = 0)) := Lib.hid rfl
  go_enter Tryz.func25, Tryz.ntmps25
  by_cases h1 : 16 ≤ n
  · have d1 : decide ((16 : Int) ≤ (n : Int)) = true := by simp; omega
    by_cases h2 : n ≤ 1048576
    · have d2 : decide ((n : Int) ≤ 1048576) = true := by simp; omega
      go_wp2_with fail
      go_ret
      refine ⟨ret_bool ?_, rfl⟩
      rw [HM.out]
      exact Bool.eq_iff_iff.2 (by simp; omega)
    · have d2 : decide ((n : Int) ≤ 1048576) = false := by simp; omega
      go_wp2_with fail
      go_ret
      refine ⟨ret_bool ?_, rfl⟩
      rw [HM.out]
      exact Bool.eq_iff_iff.2 (by simp; omega)
  · have d1 : decide ((16 : Int) ≤ (n : Int)) = false := by simp; omega
    go_wp2_with fail
    go_ret
    refine ⟨ret_bool ?_, rfl⟩
    rw [HM.out]
    simp
    omega
theorem run_cut_in {P : Program} {t e : TypeId} {s : Nat} (ht : P.underlying t = some (.slice e)) (hs : ∀ w, (sizeOf e).run P w = .ok s w) (A : Option Addr) (n c : Nat) (kd ke : IntKind) (lo hi : Int) (h0 : 0 ≤ lo) (h1 : lo ≤ hi) (h2 : hi ≤ c) (w : World) :
    (Instr.slice t (.slice A n c) (some (.int kd lo)) (some (.int ke hi)) none).run P w = .ok (.slice (cutA A c lo.toNat s) (hi.toNat - lo.toNat) (c - lo.toNat)) w := by
  have e1 : (Instr.sliceBound (.int ke hi) c .sliceAcap).run P w = .ok hi.toNat w := run_sliceBound w ke hi c _ (by omega) h2
  have e2 : ∀ code, (Instr.sliceBound (.int kd lo) hi.toNat code).run P w = .ok lo.toNat w := fun code => run_sliceBound w kd lo hi.toNat code h0 (by omega)
  simp [Instr.slice, run_underlying ht, Instr.sliceBounds, e1, e2, hs, cutA]
theorem cutA_some (g off c k : Nat) (h : k < c) : cutA (some ⟨g, off, none⟩) c k 1 = some ⟨g, off + k, none⟩ := by
  rw [cutA, if_neg (by omega)]
  simp [Addr.add]
theorem leF_num4 (b : List UInt8) (a : Nat) : leF (fun j => (b.getD (a + j) 0).toNat) 4 = num4 (b.drop a) := by
  simp only [leF, num4, List.getD_eq_getElem?_getD, List.getElem?_drop]
  simp only [Nat.add_zero, Nat.zero_add, Nat.mul_zero, Nat.reduceAdd]
  omega
theorem row_at {w : World} {g off : Nat} {b : List UInt8} (hr : RowV w (some ⟨g, off, none⟩) (bytesV b)) {i : Nat} (hi : i < b.length) : w.cell? ⟨g, off + i, none⟩ = some (.int .u8 ((b.getD i 0).toNat : Int)) := by
  obtain ⟨g', off', e, hc⟩ := hr.byte hi
  cases e
  rw [hc, List.getD_eq_getElem?_getD, List.getElem?_eq_getElem hi]
  rfl
set_option maxHeartbeats 1600000 in
theorem inum_ok (g off cap a : Nat) (b : List UInt8) (w : World) (hr : RowV w (some ⟨g, off, none⟩) (bytesV b)) (hcap : b.length ≤ cap) (hb : b.length < 1099511627776) (ha : a + 4 ≤ b.length) : Calls Tryz.prog 29 #[.slice (some ⟨g, off, none⟩) b.length cap, .int .i64 (a : Int)] w fun e w' => e = .returned (.int .i64 (num4 (b.drop a) : Nat)) ∧ w' = w := by
  have hcut := fun W => run_cut_in (P := Tryz.prog) Tryz.underlying22 Tryz.sizeOf5 (some ⟨g, off, none⟩) b.length cap .i64 .i64 (a : Int) ((a : Int) + 4) (by omega) (by omega) (by omega) W
  rw [show ((a : Int)).toNat = a by omega, show ((a : Int) + 4).toNat - a = 4 by omega, cutA_some _ _ _ _ (by omega)] at hcut
  have hl := load_ok g (off + a) 4 (cap - a) 0 4 (fun j => (b.getD (a + j) 0).toNat) w (.inr (.inr (.inl rfl))) rfl (by decide) (by decide) (fun j => UInt8.toNat_lt _) (fun j hj => by
    have := row_at hr (i := a + j) (by omega)
    rw [show off + a + (0 + j) = off + (a + j) by omega]
    exact this)
  rw [leF_num4] at hl
  obtain ⟨v, hv⟩ : ∃ v, v = num4 (b.drop a) := ⟨_, rfl⟩
  have hv4 := num4_lt (b.drop a)
  rw [← hv] at hl hv4 ⊢
  have HL := Lib.hid hl
  clear hr hl hv
  go_enter Tryz.func29, Tryz.ntmps29
  go_wp2_with fail
  refine HL.out.mono ?_
  rintro e w1 ⟨rfl, rfl⟩
  go_wp2_with fail
  go_ret
  exact ⟨rfl, rfl⟩
set_option maxHeartbeats 1600000 in
theorem rnum_ok (g off cap a : Nat) (b : List UInt8) (w : World) (hr : RowV w (some ⟨g, off, none⟩) (bytesV b)) (hcap : b.length ≤ cap) (hb : b.length < 1099511627776) (ha : a + 4 ≤ b.length) : Calls Tryz.prog 31 #[.slice (some ⟨g, off, none⟩) b.length cap, .int .i64 (a : Int)] w fun e w' => e = .returned (.int .i64 (num4 (b.drop a) : Nat)) ∧ ∃ n, w' = w.drewN n := by
  have c0 := row_at hr (i := a) (by omega)
  have c1 := row_at hr (i := a + 1) (by omega)
  have c2 := row_at hr (i := a + 2) (by omega)
  have c3 := row_at hr (i := a + 3) (by omega)
  have hv : num4 (b.drop a) = (b.getD a 0).toNat + 256 * (b.getD (a + 1) 0).toNat + 65536 * (b.getD (a + 2) 0).toNat + 16777216 * (b.getD (a + 3) 0).toNat := by
    simp only [num4, List.getD_eq_getElem?_getD, List.getElem?_drop, Nat.add_zero]
  have l0 := UInt8.toNat_lt (b.getD a 0)
  have l1 := UInt8.toNat_lt (b.getD (a + 1) 0)
  have l2 := UInt8.toNat_lt (b.getD (a + 2) 0)
  have l3 := UInt8.toNat_lt (b.getD (a + 3) 0)
  rw [hv]
  generalize (b.getD a 0).toNat = x0 at *
  generalize (b.getD (a + 1) 0).toNat = x1 at *
  generalize (b.getD (a + 2) 0).toNat = x2 at *
  generalize (b.getD (a + 3) 0).toNat = x3 at *
  clear hr hv
  go_enter Tryz.func31, Tryz.ntmps31
  go_wp2_with fail
  go_quiet (fail)
  go_wp2_with fail
  go_ret
  exact ⟨ret_int (by omega), _, rfl⟩
end Go.Proofs.YtoafmlegamjlpaaGreatDoor
namespace Go.Proofs.YtoafmlegamjlpaaGreatDoor
open Go.RowKit Go.Colm Go.Cap Go.Mixp Go.Imgp
set_option linter.unusedVariables false
set_option linter.unusedSimpArgs false
theorem le4_values (n : Nat) : bytesV (le4 n) = [.int .u8 ((n : Int) % 256), .int .u8 ((n : Int) / 256 % 256), .int .u8 ((n : Int) / 65536 % 256), .int .u8 ((n : Int) / 16777216 % 256)] := by
  simp only [bytesV, le4, List.map_cons, List.map_nil, UInt8.toNat_ofNat', List.cons.injEq, Value.int.injEq, true_and, and_true]
  refine ⟨?_, ?_, ?_, ?_⟩ <;> omega
theorem le4_values2 {n : Nat} (h : n < 4294967296) : bytesV (le4 n) = [.int .u8 ((n : Int) % 256), .int .u8 ((n : Int) / 256 % 256), .int .u8 ((n : Int) / 65536 % 256), .int .u8 ((n : Int) / 16777216)] := by
  rw [le4_values, show (n : Int) / 16777216 % 256 = (n : Int) / 16777216 by omega]
/-- Behind an append: what is handed back lies where the old row lay, or is new. -/
def OwnNext (w : World) (v v' : Value) : Prop := v'.ownBlock = v.ownBlock ∨ ∃ k, w.heap.size ≤ k ∧ v'.ownBlock = some k
set_option maxRecDepth 100000 in
set_option maxHeartbeats 1600000 in
theorem with_ok (B : Nat) (v : Value) (l : List UInt8) (n : Nat) (w : World) (h : BOwn 5 B w v l) (hB : B ≤ w.heap.size) (hl : l.length < 1099511627776) (hn : n < 4294967296) : Calls Tryz.prog 23 #[v, .int .i64 (n : Int)] w fun e w' => ∃ v', e = .returned v' ∧ BOwn 5 B w' v' (l ++ le4 n) ∧ Kept (fun k => v.ownBlock = some k) w w' ∧ OwnNext w v v' := by
  have HL := Lib.hid (le4_values2 hn)
  have hst : ∀ o : Obj, BOwn 5 B (w.alloc o) v l := fun o => h.stays (S := fun _ => False) ((Kept.refl _ w).alloc o) (fun _ _ => id)
  have HST := Lib.hid hst
  have HB : Hid (∀ o : Obj, B ≤ (w.alloc o).heap.size) := Lib.hid (fun o => by simp; omega)
  have HAL : Hid (∀ o : Obj, Kept (fun k => v.ownBlock = some k) w (w.alloc o)) := Lib.hid (fun o => (Kept.refl _ w).alloc o)
  clear h hst
  go_enter Tryz.func23, Tryz.ntmps23
  go_wp2_with (at_builtin; (refine wpList_app_b rfl _ _ 22 rfl 5 Tryz.underlying22 u8_info B v l rfl (HST.out _) (some ⟨w.heap.size, 0, none⟩) (le4 n) 4 rfl (by rw [HL.out]; exact RowV.new _ _ _) (fun h => by cases h) (by rw [le4_length]; omega) (HB.out _) ?_; intro v' w' h1 h2 h3))
  go_ret
  refine ⟨v', rfl, h1, (HAL.out _).trans h2, h3.elim .inl fun h => .inr ⟨_, ?_, h⟩⟩
  simp
set_option maxHeartbeats 1600000 in
theorem four_ok (n : Nat) (w : World) (hn : n < 4294967296) : Calls Tryz.prog 27 #[.int .i64 (n : Int)] w fun e w' => e = .returned (.slice (some ⟨w.heap.size, 0, none⟩) 4 4) ∧ BOwn 5 w.heap.size w' (.slice (some ⟨w.heap.size, 0, none⟩) 4 4) (le4 n) ∧ Below w.heap.size w w' := by
  have HL := Lib.hid (le4_values n)
  go_enter Tryz.func27, Tryz.ntmps27
  go_wp2_with fail
  go_ret
  refine ⟨rfl, ?_, (Below.refl _ _).alloc (Nat.le_refl _) _⟩
  unfold BOwn
  rw [HL.out]
  exact World.ownsRow_lit w _ 4 (Nat.le_refl _) (by decide) (by simp)
theorem eq_step {a : Int} {b : Bool} {X : Result Bool} {w : World} (h : X = .ok b w) : (if a = 0 then X else .ok false w) = .ok (a == 0 && b) w := by
  by_cases h0 : a = 0
  · rw [if_pos h0, h, h0]; rfl
  · rw [if_neg h0, beq_eq_false_iff_ne.2 h0]; rfl
theorem eq_last {a : Int} {w : World} : (if a = 0 then (.ok true w : Result Bool) else .ok false w) = .ok (a == 0) w := by
  by_cases h0 : a = 0
  · rw [if_pos h0, h0]; rfl
  · rw [if_neg h0, beq_eq_false_iff_ne.2 h0]
@[go_sem] theorem eq16 (a0 a1 a2 a3 a4 a5 a6 a7 a8 a9 a10 a11 a12 a13 a14 a15 : Int) (w : World) : (Op.equalIn 10000 87 (.agg #[.int .u8 a0, .int .u8 a1, .int .u8 a2, .int .u8 a3, .int .u8 a4, .int .u8 a5, .int .u8 a6, .int .u8 a7, .int .u8 a8, .int .u8 a9, .int .u8 a10, .int .u8 a11, .int .u8 a12, .int .u8 a13, .int .u8 a14, .int .u8 a15]) (.agg #[.int .u8 0, .int .u8 0, .int .u8 0, .int .u8 0, .int .u8 0, .int .u8 0, .int .u8 0, .int .u8 0, .int .u8 0, .int .u8 0, .int .u8 0, .int .u8 0, .int .u8 0, .int .u8 0, .int .u8 0, .int .u8 0])).run Tryz.prog w = .ok (a0 == 0 && (a1 == 0 && (a2 == 0 && (a3 == 0 && (a4 == 0 && (a5 == 0 && (a6 == 0 && (a7 == 0 && (a8 == 0 && (a9 == 0 && (a10 == 0 && (a11 == 0 && (a12 == 0 && (a13 == 0 && (a14 == 0 && a15 == 0))))))))))))))) w := by
  have u3 := Tryz.underlying5
  have a3 := Tryz.isAgg5
  have z3 := Tryz.sizeOf5
  rw [show (10000 : Nat) = 9999 + 1 from rfl, Op.equalIn]
  simp only [Sem.run_bind, run_underlying Tryz.underlying87, Result.andThen_ok]
  simp only [Std.Legacy.Range.forIn_eq_forIn_range', Std.Legacy.Range.size, Nat.sub_zero, Nat.add_sub_cancel, Nat.div_one, List.range'_succ, List.range'_zero, List.forIn_cons, List.forIn_nil]
  go_simp
  exact eq_step (eq_step (eq_step (eq_step (eq_step (eq_step (eq_step (eq_step (eq_step (eq_step (eq_step (eq_step (eq_step (eq_step (eq_step eq_last))))))))))))))
@[go_sem] theorem build16 (w : World) : (Instr.build 87 #[]).run Tryz.prog w = .ok (.agg #[.int .u8 0, .int .u8 0, .int .u8 0, .int .u8 0, .int .u8 0, .int .u8 0, .int .u8 0, .int .u8 0, .int .u8 0, .int .u8 0, .int .u8 0, .int .u8 0, .int .u8 0, .int .u8 0, .int .u8 0, .int .u8 0]) w := run_build w 87 _ _ (by kernel_rfl)
set_option maxHeartbeats 1600000 in
theorem blank_ok (g off cap : Nat) (c : List UInt8) (w : World) (hr : RowV w (some ⟨g, off, none⟩) (bytesV c)) (hc : c.length = 16) : Calls Tryz.prog 22 #[.slice (some ⟨g, off, none⟩) 16 cap] w fun e w' => e = .returned (.bool (blankL c)) ∧ w' = w := by
  rcases c with _ | ⟨b0, _ | ⟨b1, _ | ⟨b2, _ | ⟨b3, _ | ⟨b4, _ | ⟨b5, _ | ⟨b6, _ | ⟨b7, _ | ⟨b8, _ | ⟨b9, _ | ⟨b10, _ | ⟨b11, _ | ⟨b12, _ | ⟨b13, _ | ⟨b14, _ | ⟨b15, _ | ⟨b16, c⟩⟩⟩⟩⟩⟩⟩⟩⟩⟩⟩⟩⟩⟩⟩⟩⟩ <;> simp at hc
  have hbl : blankL [b0, b1, b2, b3, b4, b5, b6, b7, b8, b9, b10, b11, b12, b13, b14, b15] = ((b0.toNat : Int) == 0 && ((b1.toNat : Int) == 0 && ((b2.toNat : Int) == 0 && ((b3.toNat : Int) == 0 && ((b4.toNat : Int) == 0 && ((b5.toNat : Int) == 0 && ((b6.toNat : Int) == 0 && ((b7.toNat : Int) == 0 && ((b8.toNat : Int) == 0 && ((b9.toNat : Int) == 0 && ((b10.toNat : Int) == 0 && ((b11.toNat : Int) == 0 && ((b12.toNat : Int) == 0 && ((b13.toNat : Int) == 0 && ((b14.toNat : Int) == 0 && (b15.toNat : Int) == 0))))))))))))))) := by
    have e : ∀ b : UInt8, (b == 0) = ((b.toNat : Int) == 0) := fun b => by
      rw [Bool.eq_iff_iff, beq_iff_eq, beq_iff_eq]
      constructor
      · rintro rfl; rfl
      · intro h
        exact UInt8.toNat_inj.1 (by have : b.toNat = 0 := by omega
                                    rw [this]; rfl)
    simp only [blankL, List.all_cons, List.all_nil, Bool.and_true, e]
  have HBL := Lib.hid hbl
  have c0 := row_at hr (i := 0) (by simp)
  have c1 := row_at hr (i := 1) (by simp)
  have c2 := row_at hr (i := 2) (by simp)
  have c3 := row_at hr (i := 3) (by simp)
  have c4 := row_at hr (i := 4) (by simp)
  have c5 := row_at hr (i := 5) (by simp)
  have c6 := row_at hr (i := 6) (by simp)
  have c7 := row_at hr (i := 7) (by simp)
  have c8 := row_at hr (i := 8) (by simp)
  have c9 := row_at hr (i := 9) (by simp)
  have c10 := row_at hr (i := 10) (by simp)
  have c11 := row_at hr (i := 11) (by simp)
  have c12 := row_at hr (i := 12) (by simp)
  have c13 := row_at hr (i := 13) (by simp)
  have c14 := row_at hr (i := 14) (by simp)
  have c15 := row_at hr (i := 15) (by simp)
  simp only [List.getD_cons_zero, List.getD_cons_succ, Nat.add_zero] at c0 c1 c2 c3 c4 c5 c6 c7 c8 c9 c10 c11 c12 c13 c14 c15
  have hat : ∀ w, (Instr.arrayAt 87 (.slice (some ⟨g, off, none⟩) 16 cap)).run Tryz.prog w = .ok (.pointer (some ⟨g, off, none⟩)) w := fun w => run_arrayAt w 87 _ 16 _ 16 cap Tryz.underlying87 (Nat.le_refl _)
  clear hr hbl hc
  go_enter Tryz.func22, Tryz.ntmps22
  go_wp2_with (simp only [hat])
  go_ret
  exact ⟨ret_bool HBL.out.symm, rfl⟩
set_option maxHeartbeats 1600000 in
theorem rblank_ok (g off cap a : Nat) (b : List UInt8) (w : World) (hr : RowV w (some ⟨g, off, none⟩) (bytesV b)) (hb : b.length < 1099511627776) (ha : a + 16 ≤ b.length) : Calls Tryz.prog 26 #[.slice (some ⟨g, off, none⟩) b.length cap, .int .i64 (a : Int)] w fun e w' => e = .returned (.bool (blankL ((b.drop a).take 16))) ∧ w' = w := by
  have hcell := fun i (hi : i < b.length) => row_at hr hi
  have HC := Lib.hid hcell
  have HBT : Hid ((∀ j, j < 16 → (b.getD (a + j) 0).toNat = 0) → blankL ((b.drop a).take 16) = true) := Lib.hid (fun h => by
    rw [blank_iff]
    intro u hu
    obtain ⟨j, hj, rfl⟩ := List.mem_iff_getElem.1 hu
    simp only [List.length_take, List.length_drop] at hj
    have := h j (by omega)
    rw [List.getD_eq_getElem?_getD, List.getElem?_eq_getElem (by omega)] at this
    simp only [Option.getD_some] at this
    rw [List.getElem_take, List.getElem_drop]
    exact UInt8.toNat_inj.1 this)
  have HBF : Hid (∀ j, j < 16 → (b.getD (a + j) 0).toNat ≠ 0 → blankL ((b.drop a).take 16) = false) := Lib.hid (fun j hj h => by
    rw [Bool.eq_false_iff]
    intro hb0
    have h1 : a + j < b.length := by omega
    have := blank_iff.1 hb0 b[a + j] (List.mem_iff_getElem.2 ⟨j, by simp only [List.length_take, List.length_drop]; omega, by rw [List.getElem_take, List.getElem_drop]⟩)
    rw [List.getD_eq_getElem?_getD, List.getElem?_eq_getElem h1] at h
    simp only [Option.getD_some, this] at h
    exact h rfl)
  obtain ⟨q, hq⟩ : ∃ q, q = blankL ((b.drop a).take 16) := ⟨_, rfl⟩
  rw [← hq] at HBT HBF ⊢
  clear hr hcell hq
  go_enter Tryz.func26, Tryz.ntmps26
  go_wp2_with fail
  go_loop [4, 5] (fun s4 s5 => ∃ j : Nat, j ≤ 16 ∧ s5 = .int .i64 j ∧ s4 = .bool false ∧ Hid (∀ i, i < j → (b.getD (a + i) 0).toNat = 0)) (fun _ s5 => match s5 with | .int _ m => 16 - m.toNat | _ => 0)
  case atStart => exact ⟨0, Nat.zero_le _, rfl, rfl, Lib.hid (fun i h => by omega)⟩
  case round =>
    obtain ⟨j, hj, rfl, rfl, HA⟩ := hrel
    by_cases hlt : j < 16
    · have hc := HC.out (a + j) (by omega)
      have hx := UInt8.toNat_lt (b.getD (a + j) 0)
      obtain ⟨x, hxx⟩ : ∃ x, x = (b.getD (a + j) 0).toNat := ⟨_, rfl⟩
      rw [← hxx] at hc hx
      have HX := Lib.hid hxx
      clear hxx
      by_cases h0 : x = 0
      · subst h0
        go_wp2_with fail
        go_round
        case rel => exact ⟨j + 1, hlt, by go_num, rfl, Lib.hid fun i hi => by
          by_cases e : i = j
          · rw [e, ← HX.out]
          · exact HA.out i (by omega)⟩
        case measure => simp; omega
      · have hq : q = false := HBF.out j hlt (by rw [← HX.out]; exact h0)
        subst hq
        have t1 : ((x : Int) != 0) = true := by rw [bne_iff_ne]; omega
        go_wp2_with fail
        go_ret
        exact ⟨rfl, rfl⟩
    · have hjj : j = 16 := by omega
      have hq : q = true := HBT.out (by rw [← hjj]; exact HA.out)
      subst hq
      go_wp2_with fail
      go_ret
      exact ⟨rfl, rfl⟩
set_option maxHeartbeats 800000 in
theorem isum_ok (A : Option Addr) (c : Nat) (l : List UInt8) (w : World) (hr : RowV w A (bytesV l)) (hl : l.length ≤ 140737488355328) : Calls Tryz.prog 24 #[.slice A l.length c] w fun e w' => e = .returned (.int .i64 (sumL l : Nat)) ∧ w' = w := by
  have HB := Lib.hid (bytes_any 2166136261 A l c w (by decide) (by decide) hl hr)
  have HS : Hid (mBytes (Int.toNat 2166136261) l = sumL l) := Lib.hid rfl
  have hlt := sum_lt l
  rw [HS.out] at HB
  obtain ⟨s, hs⟩ : ∃ s, s = sumL l := ⟨_, rfl⟩
  rw [← hs] at HB hlt ⊢
  clear hr HS hs
  go_enter Tryz.func24, Tryz.ntmps24
  go_wp2_with fail
  refine HB.out.mono ?_
  rintro e w1 ⟨rfl, rfl⟩
  go_wp2_with fail
  go_ret
  exact ⟨rfl, rfl⟩
end Go.Proofs.YtoafmlegamjlpaaGreatDoor
namespace Go.Proofs.YtoafmlegamjlpaaGreatDoor
open Go.RowKit Go.Colm Go.Cap Go.Mixp Go.Imgp
set_option linter.unusedVariables false
set_option linter.unusedSimpArgs false
/-- A box with a row of bytes. -/
def LinesAt (lb : Nat) (l : List UInt8) (w : World) : Prop := ∃ v, Whole w lb 22 #[v] ∧ BOwn 5 lb w v l
theorem LinesAt.below {lb : Nat} {l : List UInt8} {w w' : World} (h : LinesAt lb l w) (hb : Below w.heap.size w w') : LinesAt lb l w' := by
  obtain ⟨v, h1, h2⟩ := h
  exact ⟨v, (hb.block _ h1.lt).trans h1, h2.stays (Kept.below hb fun _ => False) fun _ _ h => h⟩
theorem bown_far {B : Nat} {w : World} {v : Value} {l : List UInt8} {g : Nat} {t : TypeId} {cs : Array Value} (h : BOwn 5 B w v l) (hw : Whole w g t cs) (ht : t ≠ 5) : v.ownBlock ≠ some g := own_far h hw ht
set_option maxRecDepth 100000 in
set_option maxHeartbeats 3200000 in
theorem sq1_ok (lb n g off cap : Nat) (c l : List UInt8) (w : World) (h : LinesAt lb l w) (hr : RowV w (some ⟨g, off, none⟩) (bytesV c)) (hc : c.length = 16) (hl : l.length < 1000000000) (hn : n < 4294967296) (hg : g < lb) :
    Calls Tryz.prog 21 #[.int .i64 (n : Int), .slice (some ⟨g, off, none⟩) 16 cap, .pointer (some ⟨lb, 0, none⟩)] w fun x w' => x = .returned (.tuple #[]) ∧ LinesAt lb (addL l n c) w' ∧ Kept (fun j => lb ≤ j) w w' := by
  obtain ⟨v, h1, h2⟩ := h
  have HBL := Lib.hid (blank_ok g off cap c w hr hc)
  have hfar := bown_far h2 h1 (by decide)
  have c0 := h1.cell 0
  simp only [List.getElem?_toArray, List.getElem?_cons_zero] at c0
  have HW := Lib.hid (with_ok lb v l n w h2 (Nat.le_of_lt h1.lt) (by omega) hn)
  have H1 := Lib.hid h1
  have H2 := Lib.hid h2
  have HR := Lib.hid hr
  have HC := Lib.hid hc
  have HG := Lib.hid hg
  have HFAR := Lib.hid hfar
  have HLB := Lib.hid h1.lt
  clear h1 h2 hr hc hg hfar
  go_enter Tryz.func21, Tryz.ntmps21
  go_wp2_with fail
  refine HBL.out.mono ?_
  rintro e w1 ⟨rfl, rfl⟩
  cases hb : blankL c
  · go_wp2_with fail
    refine HW.out.mono ?_
    rintro e w2 ⟨v2, rfl, hb2, hk2, ho2⟩
    have hge2 : ∀ k, v.ownBlock = some k → lb ≤ k := fun k hk => (own_ge H2.out hk).1
    have hw2 : Whole w2 lb 22 #[v] := hk2.whole H1.out HFAR.out
    have hr2 : RowV w2 (some ⟨g, off, none⟩) (bytesV c) := row_kept HR.out hk2 fun a e hh => by
      cases e
      have h5 : lb ≤ g := hge2 _ hh
      have := HG.out
      omega
    have hK2 : Kept (fun j => lb ≤ j) w1 w2 := hk2.mono fun k _ hk => hge2 k hk
    have hsz : lb ≤ w2.heap.size := Nat.le_of_lt hw2.lt
    have HRC : Hid (RowV w2 (some ⟨g, off, none⟩) (bytesV c) ∧ c.length = 16) := Lib.hid ⟨hr2, HC.out⟩
    have HB2 := Lib.hid hb2
    have HW2 := Lib.hid hw2
    have HK2 := Lib.hid hK2
    have HO2 := Lib.hid ho2
    have HLL : Hid ((l ++ le4 n).length + c.length ≤ 140737488355328) := Lib.hid (by rw [List.length_append, le4_length, HC.out]; omega)
    obtain ⟨ln, hln⟩ : ∃ ln, ln = (l ++ le4 n ++ c).length := ⟨_, rfl⟩
    have HLN := Lib.hid hln
    clear hb2 hk2 ho2 hge2 hw2 hr2 hK2 hln
    go_wp2_with (at_builtin; refine wpList_app_b rfl _ _ 22 rfl 5 Tryz.underlying22 u8_info lb v2 (l ++ le4 n) rfl HB2.out (some ⟨g, off, none⟩) c cap (by rw [HRC.out.2]; rfl) HRC.out.1 (fun h => by cases h) HLL.out hsz ?_; intro v' w' h1 h2 h3; have hfar2 : v2.ownBlock ≠ some lb := bown_far HB2.out HW2.out (by decide); have hw3 : Whole w' lb 22 #[v] := h2.whole HW2.out hfar2; have z0 := hw3.cell 0; simp only [List.getElem?_toArray, List.getElem?_cons_zero] at z0; have f0 := hw3.frozen 0; have HFN := Lib.hid (bown_far h1 hw3 (by decide)); have H1' := Lib.hid h1; have H2' := Lib.hid h2; have HW3 := Lib.hid hw3; obtain ⟨A3, cap3, hv3⟩ := own_slice h1; rw [← HLN.out] at hv3; have HV3 := Lib.hid hv3; rw [hv3]; clear h1 h2 hw3 hfar2 hv3)
    go_end0
    refine ⟨rfl, ⟨v', ?_, ?_⟩, ?_⟩
    · rw [HV3.out]
      exact HW3.out.put 0 _
    · rw [addL, if_neg (by rw [hb]; decide), ← List.append_assoc]
      exact H1'.out.stays ((Kept.refl (fun j => j = lb) w').setCell (p := ⟨lb, 0, none⟩) (.inl rfl) _) (fun j hj e => HFN.out (by rw [hj, e]))
    · refine ((HK2.out.trans (H2'.out.mono (S' := fun j => lb ≤ j) fun k _ hk => (own_ge HB2.out hk).1))).setCell (p := ⟨lb, 0, none⟩) (.inl (Nat.le_refl _)) _
  · go_wp2_with fail
    go_end0
    refine ⟨rfl, ⟨v, H1.out, ?_⟩, Kept.refl _ _⟩
    rw [addL, if_pos hb]
    exact H2.out
theorem step_call2i {P : Program} {ops : Array Oper} {o : Oper} {a : Act} {w : World} {K : Act → World → Prop} {Q : Exit → Act → World → Prop} {E : Prop} (hg : o.guard = none) (f : FuncId) (args : Array Value) (hrun : (execOp a.eval o).run P w = .ok (.enter f args) w)
    (R : Value → World → Prop) (hc : Calls P f args w fun e w' => ∃ v, e = .returned v ∧ R v w') (h : ∀ v w', R v w' → K (a.put o.dst v) w') :
    if Region.wanted o (yielded ops a.tmps) = true then Oper.wp P o a w K Q else E := by
  have hw : Region.wanted o (yielded ops a.tmps) = true := by simp [Region.wanted, hg]
  rw [if_pos hw]
  unfold Oper.wp
  rw [hrun, Oper.upon_enter]
  refine hc.mono fun e w' hh => ?_
  obtain ⟨v, rfl, hR⟩ := hh
  exact h v w' hR
/-- A box with this row of bytes, and all of it old. -/
structure SqJ (lb S0 : Nat) (v : Value) (l : List UInt8) (W : World) : Prop where
  box : Whole W lb 22 #[v]
  row : BOwn 5 lb W v l
  lt : lb < S0
  own : ∀ k, v.ownBlock = some k → k < S0
  sz : S0 ≤ W.heap.size
theorem SqJ.next {lb S0 : Nat} {v : Value} {l : List UInt8} {W W2 : World} (h : SqJ lb S0 v l W) (k : Kept (fun j => S0 ≤ j) W W2) : SqJ lb S0 v l W2 :=
  ⟨k.whole h.box (by have := h.lt; omega), h.row.stays k (fun j hj h2 => by have := h.own j hj; omega), h.lt, h.own, Nat.le_trans h.sz k.size⟩
theorem SqJ.cell {lb S0 : Nat} {v : Value} {l : List UInt8} {W : World} (h : SqJ lb S0 v l W) : W.cell? ⟨lb, 0, none⟩ = some v := h.box.cell 0
/-- A first number onto no bytes, or a further one. -/
theorem with_sq {lb S0 : Nat} {v : Value} {l : List UInt8} {W : World} (h : SqJ lb S0 v l W) (u : Value) (m : List UInt8) (hu : BOwn 5 S0 W u m) (n : Nat) (hn : n < 4294967296) (hm : m.length < 1000000) :
    Calls Tryz.prog 23 #[u, .int .i64 (n : Int)] W fun e w' => ∃ u', e = .returned u' ∧ (SqJ lb S0 v l w' ∧ BOwn 5 S0 w' u' (m ++ le4 n) ∧ Kept (fun j => S0 ≤ j) W w') := by
  refine (with_ok S0 u m n W hu h.sz (by omega) hn).mono ?_
  rintro e w' ⟨u', rfl, h1, h2, _⟩
  have hk : Kept (fun j => S0 ≤ j) W w' := h2.mono fun k _ hk => (own_ge hu hk).1
  exact ⟨u', rfl, h.next hk, h1, hk⟩
set_option maxRecDepth 100000 in
set_option maxHeartbeats 6400000 in
theorem isqz_ok (A : Option Addr) (cap : Nat) (b : List UInt8) (w : World) (hr : RowV w A (bytesV b)) (hcap : b.length ≤ cap) (hlen : b.length < 1099511627776) :
    Calls Tryz.prog 8 #[.slice A b.length cap] w fun e w' => ∃ v', e = .returned (.tuple #[v', .int .i64 ((sqz b).2 : Int)]) ∧ BOwn 5 w.heap.size w' v' (sqz b).1 ∧ Below w.heap.size w w' := by
  have HM := Lib.hid (imay_any b.length w hlen)
  cases hm : mayB b.length
  · rw [hm] at HM
    have HS : Hid (sqz b = ([], 2)) := Lib.hid (by rw [sqz, hm]; rfl)
    go_enter Tryz.func8, Tryz.ntmps8
    go_wp2_with fail
    refine HM.out.mono ?_
    rintro e w1 ⟨rfl, rfl⟩
    go_wp2_with fail
    go_ret2
    rw [HS.out]
    exact ⟨_, rfl, BOwn.nil _ _ _, Below.refl _ _⟩
  · rw [hm] at HM
    obtain ⟨m1, m2, m3⟩ := Go.Imgp.may_iff.1 hm
    have HS : Hid (sqz b = (sqzL b, 0)) := Lib.hid (by rw [sqz, hm]; rfl)
    obtain ⟨g, off, rfl, hgw⟩ := hr.some_of (by omega)
    have HR := Lib.hid hr
    have HGW := Lib.hid hgw
    obtain ⟨q, hq⟩ : ∃ q, q = b.length / 16 := ⟨_, rfl⟩
    have hq16 : b.length = 16 * q := by omega
    have HQ := Lib.hid hq
    have HQ16 := Lib.hid hq16
    have HLL : Hid (∀ i, i ≤ q → (linesL b i).length = 20 * cnt b i ∧ cnt b i ≤ i) := Lib.hid fun i hi => ⟨linesL_length b i (by omega), cnt_le b i⟩
    obtain ⟨w1, hw1⟩ : ∃ w1, w1 = w.alloc (.cells #[.slice none 0 0] 22) := ⟨_, rfl⟩
    have hb1 : Below w.heap.size w w1 := by rw [hw1]; exact (Below.refl _ _).alloc (Nat.le_refl _) _
    have hl1 : LinesAt w.heap.size (linesL b 0) w1 := ⟨.slice none 0 0, by rw [hw1]; exact Whole.new _ _ _, BOwn.nil _ _ _⟩
    have HB1 := Lib.hid hb1
    have HL1 := Lib.hid hl1
    have HW1 := Lib.hid hw1
    have hqv : (b.length : Int) / 16 = (q : Int) := by omega
    have hql : q ≤ 65536 := by omega
    have HBL : Hid (b.length ≤ 1048576) := Lib.hid (by omega)
    clear hr hgw hb1 hl1 hw1 hq m1 m2 m3 hm hq16
    go_enter Tryz.func8, Tryz.ntmps8
    go_wp2_with fail
    refine HM.out.mono ?_
    rintro e w1' ⟨rfl, rfl⟩
    go_wp2_with fail
    rw [← HW1.out]
    go_loopw [6, 16] (fun _ s16 wr => ∃ i : Nat, i ≤ q ∧ s16 = .int .i64 i ∧ Hid (LinesAt w1'.heap.size (linesL b i) wr) ∧ Hid (Kept (fun j => w1'.heap.size ≤ j) w1 wr)) (fun _ s16 _ => match s16 with | .int _ m => q - m.toNat | _ => 0)
    case atStart => exact ⟨0, Nat.zero_le _, rfl, HL1, Lib.hid (Kept.refl _ _)⟩
    case round =>
      obtain ⟨i, hi, rfl, HL, HK⟩ := hrel
      by_cases hlt : i < q
      · have hQ := HQ16.out
        have hcut := fun W => run_cut_in (P := Tryz.prog) Tryz.underlying22 Tryz.sizeOf5 (some ⟨g, off, none⟩) b.length cap .i64 .i64 ((i : Int) * 16) (((i : Int) + 1) * 16) (by omega) (by omega) (by omega) W
        rw [show ((i : Int) * 16).toNat = 16 * i by omega, show (((i : Int) + 1) * 16).toNat - 16 * i = 16 by omega, cutA_some _ _ _ _ (by omega)] at hcut
        have hrr : RowV wr (some ⟨g, off, none⟩) (bytesV b) := row_kept (HR.out.below HB1.out) HK.out fun a e hh => by
          cases e
          have := HGW.out
          dsimp only at hh
          omega
        have hll := HLL.out i hi
        have hS := sq1_ok w1'.heap.size i g (off + 16 * i) (cap - 16 * i) (chunk b i) (linesL b i) wr HL.out (hrr.sub (16 * i) 16) (chunk_length (by omega)) (by omega) (by omega) HGW.out
        have HS1 := Lib.hid hS
        clear hS hrr hQ hll
        go_wp2_with fail
        refine HS1.out.mono ?_
        rintro e w2 ⟨rfl, hl2, hk2⟩
        have HL2 : Hid (LinesAt w1'.heap.size (linesL b (i + 1)) w2) := Lib.hid hl2
        have HK2 := Lib.hid (HK.out.trans hk2)
        clear hl2 hk2
        go_wp2_with fail
        go_roundw
        case rel => exact ⟨i + 1, hlt, by go_num, HL2, HK2⟩
        case measure => simp; omega
      · have hii : i = q := by omega
        subst hii
        have hll := HLL.out i hi
        obtain ⟨v, hbx, hrw⟩ := HL.out
        have HJ : Hid (SqJ w1'.heap.size wr.heap.size v (linesL b i) wr.drew) := Lib.hid ⟨hbx, hrw, hbx.lt, fun k hk => (own_ge hrw hk).2, Nat.le_refl _⟩
        have hfr := bown_far hrw hbx (by decide)
        obtain ⟨A3, c3, hv, hc3, hrv, hnone, _⟩ := hrw.slice
        obtain ⟨ln, hln⟩ : ∃ ln, ln = (linesL b i).length := ⟨_, rfl⟩
        rw [← hln] at hv hc3 hll
        obtain ⟨k, hk⟩ : ∃ k, k = cnt b i := ⟨_, rfl⟩
        rw [← hk] at hll
        have hk6 : k ≤ 65536 := by omega
        have hln2 : ln ≤ 2000000 := by omega
        have c0 : wr.cell? ⟨w1'.heap.size, 0, none⟩ = some (.slice A3 ln c3) := by rw [← hv]; exact HJ.out.cell
        subst hv
        have HLN := Lib.hid hln
        have HQI : Hid (i = b.length / 16) := Lib.hid (by have := HQ16.out; omega)
        have hq20 : (ln : Int) / 20 = (k : Int) := by omega
        have hwk : IntKind.i64.wrap (k : Int) = (k : Int) := by rw [IntKind.wrap_i64]; omega
        have hbl := HBL.out
        have hHD : Hid (headL b = le4 b.length ++ le4 k ++ linesL b i) := Lib.hid (by rw [headL, ← HQI.out, ← HLN.out, show ln / 20 = k by omega])
        have HHL : Hid ((headL b).length < 1099511627776) := Lib.hid (by rw [hHD.out, List.length_append, List.length_append, le4_length, le4_length, ← hln]; omega)
        have HN3 : Hid (A3 = none → c3 = 0) := Lib.hid hnone
        have HW1 := Lib.hid (fun W (hj : SqJ w1'.heap.size wr.heap.size (.slice A3 ln c3) (linesL b i) W) => with_sq hj (.slice none 0 0) [] (BOwn.nil _ _ _) b.length (by omega) (by simp))
        have HW2 := Lib.hid (fun W u (hj : SqJ w1'.heap.size wr.heap.size (.slice A3 ln c3) (linesL b i) W) (hu : BOwn 5 wr.heap.size W u (le4 b.length)) => with_sq hj u (le4 b.length) hu k (by omega) (by rw [le4_length]; omega))
        have LR : Hid (∀ W, SqJ w1'.heap.size wr.heap.size (.slice A3 ln c3) (linesL b i) W → RowV W A3 (bytesV (linesL b i))) := Lib.hid fun W hj => by
          obtain ⟨A', c', e', _, hrow', _⟩ := hj.row.slice
          cases e'
          exact hrow'
        have HLE : Hid ((([] ++ le4 b.length) ++ le4 k).length + (linesL b i).length ≤ 140737488355328) := Lib.hid (by rw [← hln]; simp [le4_length]; omega)
        clear hbx hrw hfr hrv hnone hc3 hln HLL hll hk
        go_wp2_with fail
        go_region_law (first
          | (refine step_call2i rfl 23 #[.slice none 0 0, .int .i64 (b.length : Int)] (by first | kernel_rfl | rfl | (simp [execOp, go_sem])) _ (HW1.out _ HJ.out) ?_
             intro v5 w5 h5
             have d0 : w5.cell? ⟨w1'.heap.size, 0, none⟩ = some (.slice A3 ln c3) := h5.1.cell)
          | (refine step_call2i rfl 23 #[v5, .int .i64 (k : Int)] (by first | kernel_rfl | rfl | (simp [execOp, go_sem])) _ (HW2.out _ _ h5.1 h5.2.1) ?_
             intro v6 w6 h6
             have d1 : w6.cell? ⟨w1'.heap.size, 0, none⟩ = some (.slice A3 ln c3) := h6.1.cell)
          | (refine step_app_b rfl _ _ 22 rfl 5 Tryz.underlying22 u8_info wr.heap.size v6 _ rfl h6.2.1 A3 (linesL b i) c3 (by rw [← HLN.out]; rfl) (LR.out _ h6.1) HN3.out HLE.out h6.1.sz ?_
             intro v7 w7 h7 hk7 _
             have HF7 : Hid (BOwn 5 wr.heap.size w7 v7 (headL b) ∧ Kept (fun j => wr.heap.size ≤ j) wr.drew w7) := Lib.hid ⟨by rw [hHD.out]; exact h7, (h5.2.2.trans h6.2.2).trans (hk7.mono fun k _ hk => (own_ge h6.2.1 hk).1)⟩))
        all_goals
          obtain ⟨A7, c7, e7, _, hr7, _⟩ := HF7.out.1.slice
          subst e7
          have hsl := sum_lt (headL b)
          have hhl : (headL b).length < 1099511627776 := HHL.out
          obtain ⟨hl, hhh⟩ : ∃ hl, hl = (headL b).length := ⟨_, rfl⟩
          have HSU := Lib.hid (isum_ok A7 c7 (headL b) w7 hr7 (by omega))
          have HWW := Lib.hid (with_ok wr.heap.size _ (headL b) (sumL (headL b)) w7 HF7.out.1 (HF7.out.2.size) hhl hsl)
          have HSQ : Hid (headL b ++ le4 (sumL (headL b)) = sqzL b) := Lib.hid rfl
          rw [HSQ.out] at HWW
          obtain ⟨sm, hsm⟩ : ∃ sm, sm = sumL (headL b) := ⟨_, rfl⟩
          rw [← hsm] at HSU HWW
          rw [← hhh] at HSU HWW ⊢
          have HKB : Hid (Below w1'.heap.size w1' w7) := Lib.hid (by
            have h1 := HK.out.trans ((Kept.drew (Kept.refl _ wr)).trans (HF7.out.2.mono (S' := fun j => w1'.heap.size ≤ j) fun k _ hk => by have := (HB1.out.size); have := HK.out.size; omega))
            exact HB1.out.trans (h1.to_below HB1.out.size fun k hk e => by omega))
          clear hr7 h5 h6 h7 hk7 d0 d1 hhh hsm hhl hsl
          go_wp2_with fail
          refine HSU.out.mono ?_
          rintro e w8 ⟨rfl, rfl⟩
          go_wp2_with fail
          refine HWW.out.mono ?_
          rintro e w9 ⟨v9, rfl, h9, hk9, _⟩
          have HF9 : Hid (BOwn 5 w1'.heap.size w9 v9 (sqzL b) ∧ Below w1'.heap.size w1' w9) := Lib.hid ⟨h9.base (Nat.le_trans HB1.out.size HK.out.size), HKB.out.trans (hk9.to_below HKB.out.size fun k hk e => by
            have e2 : (Value.slice A7 (headL b).length c7).ownBlock = some k := by cases A7 <;> exact e
            have h1 := (own_ge HF7.out.1 e2).1
            have := HB1.out.size
            have := HK.out.size
            omega)⟩
          clear h9 hk9
          go_wp2_with fail
          go_ret2
          rw [HS.out]
          exact ⟨_, rfl, HF9.out⟩
end Go.Proofs.YtoafmlegamjlpaaGreatDoor
