/-
  The walks that make a memory: watch.New, arena.New. No condition but sizes.
  The walks that make a memory: watched, memory.New; and what a new one is. No condition but the tables.
  The walk of memory.New. No condition but the tables.
  Layer lists in plain Lean: slabs' heads, lists of slabs. No program in sight. No condition.
-/
import Derived.Test.YtoafmlegamjlpaaGreatDoorKD
import Derived.Laws.MakeOwn
import Derived.Test.YtoafmlegamjlpaaGreatDoorKA
namespace Go.Proofs.YtoafmlegamjlpaaGreatDoor
open Go.RowKit Go.Colm Go.Cap Go.Maps
set_option linter.unusedVariables false
set_option linter.unusedSimpArgs false

theorem bys_made (w : World) (N : Nat) : Bys (w.alloc (.cells (madeCells #[.int .u8 0] N) 5)) w.heap.size N Tr.nil := by
  refine ⟨_, Whole.new w _ _, by simp [madeCells], fun i hi => ?_⟩
  rw [Tr.get_nil]
  simp [madeCells, hi, Nat.mod_one]
theorem Bys.zeroed : ∀ (n : Nat) {w : World} {g N : Nat} {t : Tr} (h : Bys w g N t) (a : Nat), a + n ≤ N → N < 16000000 → Bys (w.setCells g a (List.replicate n (.int .u8 0))) g N (t.fill a n 0) ∧ Kept (fun k => k = g) w (w.setCells g a (List.replicate n (.int .u8 0)))
  | 0, w, g, N, t, h, a, _, _ => ⟨h, Kept.refl _ _⟩
  | n + 1, w, g, N, t, h, a, hr, hN => by
    have h1 := h.put (i := a) (by omega) (by omega) 0
    obtain ⟨h2, k2⟩ := Bys.zeroed n h1 (a + 1) (by omega) hN
    rw [List.replicate_succ, World.setCells]
    exact ⟨h2, ((Kept.refl (fun k => k = g) w).setCell (p := ⟨g, a, none⟩) (.inl rfl) _).trans k2⟩
set_option maxHeartbeats 1600000 in
theorem watchNew_ok (n : Nat) (w : World) (h4 : n % 4 = 0) (h1 : 4 ≤ n) (h2 : n ≤ 1048576) : Calls Tryz.prog 149 #[.int .i64 (n : Int)] w fun e w' => ∃ wb kb, e = .returned (.pointer (some ⟨wb, 0, none⟩)) ∧ WaA wb kb (n / 4) (n / 4) Tr.nil w' ∧ w.heap.size ≤ wb ∧ w.heap.size ≤ kb ∧ Below w.heap.size w w' := by
  obtain ⟨i0, hi, hz0, hz1, hz2⟩ := info_parts u8_info
  obtain ⟨q, hq⟩ : ∃ q, q = n / 4 := ⟨_, rfl⟩
  have hmk := run_make w 22 5 i0 (.int .u8 0) Tryz.underlying22 hi hz0 .i64 .i64 q q (by omega) (by omega) (by rw [hz2]; omega) (by omega)
  rw [hz1, show (Value.int .u8 0).cells = #[.int .u8 0] from rfl] at hmk
  simp only [Int.toNat_natCast, Nat.mul_one] at hmk
  have hby := bys_made w q
  obtain ⟨w1, hw1⟩ : ∃ w1, w1 = w.alloc (.cells (madeCells #[.int .u8 0] q) 5) := ⟨_, rfl⟩
  rw [← hw1] at hmk hby
  have hb1 : Below w.heap.size w w1 := by rw [hw1]; exact (Below.refl _ _).alloc (Nat.le_refl _) _
  obtain ⟨kb, hkb⟩ : ∃ kb, kb = w.heap.size := ⟨_, rfl⟩
  rw [← hkb] at hmk hby
  obtain ⟨w2, hw2⟩ : ∃ w2, w2 = w1.alloc (.cells #[.slice (some ⟨kb, 0, none⟩) q q, .int .i64 0, .int .i64 0] 222) := ⟨_, rfl⟩
  have hb2 : Below w1.heap.size w1 w2 := by rw [hw2]; exact (Below.refl _ _).alloc (Nat.le_refl _) _
  have hwh : Whole w2 w1.heap.size 222 #[.slice (some ⟨kb, 0, none⟩) q q, .int .i64 0, .int .i64 0] := by rw [hw2]; exact Whole.new _ _ _
  have hby2 : Bys w2 kb q Tr.nil := hby.kept (Kept.below hb2 fun _ => False) id
  have hq1 : 1 ≤ q := by omega
  have hcl := fun ty => Lib.run_clear_slice w2 22 5 ty (.int .u8 0) Tryz.underlying22 Tryz.zeroValue5 rfl rfl kb 0 q q (by omega) (fun j hj => by rw [Nat.zero_add, hby2.cell hj]; rfl) (fun j hj => hby2.frozen _)
  obtain ⟨hz, kz⟩ := hby2.zeroed q 0 (by omega) (by omega)
  obtain ⟨w3, hw3⟩ : ∃ w3, w3 = w2.setCells kb 0 (List.replicate q (.int .u8 0)) := ⟨_, rfl⟩
  rw [← hw3] at hcl hz kz
  have c0 := hwh.cell 0
  simp only [List.getElem?_toArray, List.getElem?_cons_zero] at c0
  have HNE : Hid (w1.heap.size ≠ kb) := Lib.hid (by
    have := hby.lt
    omega)
  have HZ := Lib.hid hz
  have HKZ := Lib.hid kz
  have HWH := Lib.hid hwh
  have HB := Lib.hid (below_chain hb1 hb2)
  have HS1 := Lib.hid hb1.size
  have HKB := Lib.hid hkb
  have HQ := Lib.hid hq
  have m4 : (n : Int) % 4 = 0 := by omega
  have e1 : decide ((n : Int) < 4) = false := by simp; omega
  have e2 : decide (1048576 < (n : Int)) = false := by simp; omega
  have e3 : decide (n < 4) = false := by simp; omega
  have e4 : decide (1048576 < n) = false := by simp; omega
  have D4 : Hid ((n : Int) / 4 = (q : Int)) := Lib.hid (by omega)
  have HMK := Lib.hid hmk
  have HCL := Lib.hid hcl
  have C0 := Lib.hid c0
  have HW2 := Lib.hid hw2
  clear hz kz hby2 hby hb1 hb2 hwh hkb hw1 hq hw3 h4 hw2 hmk hcl c0 hi hz0 hz1 hz2
  go_enter Tryz.func149, Tryz.ntmps149
  go_upto_region 3 with fail
  have d4 := D4.out
  have hmk := HMK.out
  go_upto_region 4 with fail
  rw [← HW2.out]
  clear m4 d4 hmk
  have hcl := HCL.out
  have c0 := C0.out
  go_wp2_with fail
  go_ret
  refine ⟨_, kb, rfl, ?_, HS1.out, by rw [HKB.out]; exact Nat.le_refl _, ?_⟩
  · rw [← HQ.out]
    exact ⟨⟨0, HKZ.out.whole HWH.out HNE.out⟩, HZ.out.congr fun i hi => by rw [Tr.get_fill _ _ _ _ _ (by have := HQ.out; omega), Tr.get_nil]; split <;> rfl, Nat.le_refl _⟩
  · exact HB.out.trans (HKZ.out.to_below HB.out.size fun k hk e => by have := HKB.out; omega)
set_option maxHeartbeats 1600000 in
theorem amay_ok (n : Nat) (w : World) (h16 : n % 16 = 0) (h1 : 16 ≤ n) (h2 : n ≤ 1048576) : Calls Tryz.prog 146 #[.int .i64 (n : Int)] w fun e w' => e = .returned (.bool true) ∧ w' = w := by
  have m16 : (n : Int) % 16 = 0 := by omega
  have e1 : decide ((16 : Int) ≤ (n : Int)) = true := by simp; omega
  have e2 : decide ((n : Int) ≤ 1048576) = true := by simp; omega
  have e3 : decide (16 ≤ n) = true := by simp; omega
  have e4 : decide (n ≤ 1048576) = true := by simp; omega
  clear h16 h1 h2
  go_enter Tryz.func146, Tryz.ntmps146
  go_wp2
  go_ret
  exact ⟨rfl, rfl⟩
set_option maxHeartbeats 1600000 in
theorem arenaNew_ok (n : Nat) (w : World) (h16 : n % 16 = 0) (h1 : 16 ≤ n) (h2 : n ≤ 1048576) : Calls Tryz.prog 79 #[.int .i64 (n : Int)] w fun e w' => ∃ ab gb, e = .returned (.pointer (some ⟨ab, 0, none⟩)) ∧ ArA ab gb n n Tr.nil w' ∧ w.heap.size ≤ ab ∧ w.heap.size ≤ gb ∧ Below w.heap.size w w' := by
  obtain ⟨i0, hi, hz0, hz1, hz2⟩ := info_parts u8_info
  have hmk := run_make w 22 5 i0 (.int .u8 0) Tryz.underlying22 hi hz0 .i64 .i64 n n (by omega) (by omega) (by rw [hz2]; omega) (by omega)
  rw [hz1, show (Value.int .u8 0).cells = #[.int .u8 0] from rfl] at hmk
  simp only [Int.toNat_natCast, Nat.mul_one] at hmk
  have hby := bys_made w n
  obtain ⟨w1, hw1⟩ : ∃ w1, w1 = w.alloc (.cells (madeCells #[.int .u8 0] n) 5) := ⟨_, rfl⟩
  rw [← hw1] at hmk hby
  have hb1 : Below w.heap.size w w1 := by rw [hw1]; exact (Below.refl _ _).alloc (Nat.le_refl _) _
  have HMAY := Lib.hid (amay_ok n w h16 h1 h2)
  have HB1 := Lib.hid hb1
  have HBY := Lib.hid hby
  have hb2 := (Below.refl w1.heap.size w1).alloc (Nat.le_refl _) (.cells #[.slice (some ⟨w.heap.size, 0, none⟩) n n] 120)
  have hwh := Whole.new w1 120 #[.slice (some ⟨w.heap.size, 0, none⟩) n n]
  have HB2 := Lib.hid hb2
  have HWH := Lib.hid hwh
  clear hi hz0 hz1 hz2 hby hb1 hw1 h16 h1 h2 hb2 hwh
  go_enter Tryz.func79, Tryz.ntmps79
  go_wp2_with fail
  refine HMAY.out.mono ?_
  rintro e w2 ⟨rfl, rfl⟩
  go_wp2_with fail
  go_ret
  exact ⟨_, _, rfl, ⟨HWH.out, HBY.out.kept (Kept.below HB2.out fun _ => False) id, Nat.le_refl _⟩, HB1.out.size, Nat.le_refl _, below_chain HB1.out HB2.out⟩
end Go.Proofs.YtoafmlegamjlpaaGreatDoor
namespace Go.Proofs.YtoafmlegamjlpaaGreatDoor
open Go.RowKit Go.Colm Go.Cap Go.Maps
set_option linter.unusedVariables false
set_option linter.unusedSimpArgs false

theorem layR_go {l : List Rn} {e k a : Nat} (h : nextR l = a) (he : a < e) : layR l e k = l ++ [⟨a, e - a, k⟩] ∧ nextR (layR l e k) = e := by
  subst h
  have h2 := nextR_layR l e k
  unfold layR at h2 ⊢
  rw [if_pos he] at h2 ⊢
  exact ⟨rfl, by omega⟩
theorem runsC_eq {s n : Nat} (ok : okC s n = true) : runsC s n = [⟨0, 8, 1⟩, ⟨8, 120, 2⟩, ⟨128, s * 16, 3⟩, ⟨slotsC s, n * 4, 4⟩] ++ (if slotsC s + n * 4 < baseC s n then [⟨slotsC s + n * 4, baseC s n - (slotsC s + n * 4), 8⟩] else []) ++ [⟨baseC s n, s * 1024, 7⟩] := by
  obtain ⟨h1, h2, h3, h4, h5⟩ := okC_iff.1 ok
  obtain ⟨z1, z2, z3, z4, z5, z6⟩ := sizeC_le ok
  have hs : slotsC s = 128 + s * 16 := rfl
  obtain ⟨a1, b1⟩ := layR_go (l := []) (e := 8) (k := 1) (a := 0) rfl (by decide)
  obtain ⟨a2, b2⟩ := layR_go (e := 128) (k := 2) b1 (by decide)
  obtain ⟨a3, b3⟩ := layR_go (e := slotsC s) (k := 3) b2 (by omega)
  obtain ⟨a4, b4⟩ := layR_go (e := slotsC s + n * 4) (k := 4) b3 (by omega)
  unfold runsC
  by_cases hb : slotsC s + n * 4 < baseC s n
  · obtain ⟨a5, b5⟩ := layR_go (e := baseC s n) (k := 8) b4 hb
    obtain ⟨a6, _⟩ := layR_go (e := sizeC s n) (k := 7) b5 (by omega)
    rw [a6, a5, a4, a3, a2, a1, if_pos hb, show sizeC s n - baseC s n = s * 1024 by omega, show slotsC s - 128 = s * 16 by omega, show slotsC s + n * 4 - slotsC s = n * 4 by omega]
    rfl
  · have e : slotsC s + n * 4 = baseC s n := by omega
    have a5 : layR (layR (layR (layR (layR [] 8 1) 128 2) (slotsC s) 3) (slotsC s + n * 4) 4) (baseC s n) 8 = layR (layR (layR (layR [] 8 1) 128 2) (slotsC s) 3) (slotsC s + n * 4) 4 := by
      rw [layR, if_neg (by rw [b4]; omega)]
    obtain ⟨a6, _⟩ := layR_go (e := sizeC s n) (k := 7) b4 (by omega)
    rw [a5, a6, a4, a3, a2, a1, if_neg hb, e, show sizeC s n - baseC s n = s * 1024 by omega, show slotsC s - 128 = s * 16 by omega, show baseC s n - slotsC s = n * 4 by omega]
    rfl
theorem runsC_fit {s n : Nat} (ok : okC s n = true) : ∀ r ∈ runsC s n, r.a % 4 = 0 ∧ r.n % 4 = 0 ∧ r.a + r.n ≤ sizeC s n ∧ r.k ≤ 8 := by
  obtain ⟨h1, h2, h3, h4, h5⟩ := okC_iff.1 ok
  obtain ⟨z1, z2, z3, z4, z5, z6⟩ := sizeC_le ok
  have hs : slotsC s = 128 + s * 16 := rfl
  rw [runsC_eq ok]
  intro r hr
  simp only [List.mem_append, List.mem_cons, List.not_mem_nil, or_false] at hr
  rcases hr with ((rfl | rfl | rfl | rfl) | hr) | rfl
  · dsimp only; omega
  · dsimp only; omega
  · dsimp only; omega
  · dsimp only; omega
  · split at hr
    · simp at hr
      subst hr
      dsimp only
      omega
    · simp at hr
  · dsimp only; omega
theorem runsC_len {s n : Nat} (ok : okC s n = true) : (runsC s n).length ≤ 6 ∧ 1 ≤ (runsC s n).length := by
  rw [runsC_eq ok]
  split <;> simp
/-- The kinds that runs lay. -/
def kindsL (l : List Rn) : Tr := l.foldl (fun t r => t.fill (r.a / 4) (r.n / 4) r.k) Tr.nil
theorem kindsL_take {l : List Rn} {i : Nat} (h : i < l.length) : kindsL (l.take (i + 1)) = (kindsL (l.take i)).fill (l[i].a / 4) (l[i].n / 4) l[i].k := by
  rw [kindsL, List.take_succ_eq_append_getElem h, List.foldl_append]
  rfl
set_option maxHeartbeats 3200000 in
theorem watched_ok (s n : Nat) (w : World) (hs : Sz w) (ok : okC s n = true) : Calls Tryz.prog 82 #[.agg #[.int .i64 (s : Int), .int .i64 (n : Int)]] w fun e w' => ∃ wb kb, e = .returned (.pointer (some ⟨wb, 0, none⟩)) ∧ WaA wb kb (sizeC s n / 4) (sizeC s n / 4) (kindsL (runsC s n)) w' ∧ w.heap.size ≤ wb ∧ w.heap.size ≤ kb ∧ Below w.heap.size w w' := by
  obtain ⟨w0, hw0, hb0, x0, x1⟩ := cfg_box s n w
  obtain ⟨z1, z2, z3, z4, z5, z6⟩ := sizeC_le ok
  have HSI := Lib.hid (size_any s n w0 (hs.below hb0) ok)
  have HB0 := Lib.hid hb0
  have HS := Lib.hid hs
  have HOK := Lib.hid ok
  obtain ⟨sc, hsc⟩ : ∃ sc, sc = sizeC s n := ⟨_, rfl⟩
  rw [← hsc] at HSI z1 z2 z3
  have HSC := Lib.hid hsc
  have hwn := fun W => watchNew_ok sc W (by omega) (by omega) (by omega)
  have HWN := Lib.hid hwn
  have hsc4 : sc / 4 ≤ 50000 := by omega
  have HSC4 : Hid (sc / 4 * 4 = sc) := Lib.hid (by omega)
  clear hb0 hs ok hsc hwn z1 z2 z3 z4 z5 z6
  go_enter Tryz.func82, Tryz.ntmps82
  go_upto_region 1 with fail
  rw [← hw0]
  clear hw0
  go_wp2_with fail
  refine HSI.out.mono ?_
  rintro e w1 ⟨rfl, hb1⟩
  have y0 := cell_on x0 hb1
  have y1 := cell_on x1 hb1
  have HB1 := Lib.hid (below_chain HB0.out hb1)
  clear x0 x1 hb1
  go_wp2_with fail
  refine (HWN.out _).mono ?_
  rintro e w2 ⟨wb, kb, rfl, hwa, hwb, hkb, hb2⟩
  have y0 := cell_on y0 hb2
  have y1 := cell_on y1 hb2
  have HB2 := Lib.hid (below_chain HB1.out hb2)
  have HWA := Lib.hid hwa
  have HWB : Hid (w.heap.size ≤ wb ∧ w.heap.size ≤ kb) := Lib.hid (by have := HB1.out.size; omega)
  have HRU := Lib.hid (runs_any s n w2 (HS.out.below HB2.out) HOK.out)
  have HKL : Hid (kb < w2.heap.size) := Lib.hid hwa.2.1.lt
  clear hb2 hwa hwb hkb HWN HSI
  go_wp2_with fail
  refine HRU.out.mono ?_
  rintro e w3 ⟨v, rfl, hru, hb3⟩
  obtain ⟨l, hl⟩ : ∃ l, l = runsC s n := ⟨_, rfl⟩
  rw [← hl] at hru
  have hlen : l.length ≤ 6 ∧ 1 ≤ l.length := by rw [hl]; exact runsC_len HOK.out
  have HFIT : Hid (∀ r ∈ l, r.a % 4 = 0 ∧ r.n % 4 = 0 ∧ r.a + r.n ≤ sc ∧ r.k ≤ 8) := Lib.hid (by rw [hl, HSC.out]; exact runsC_fit HOK.out)
  obtain ⟨A, c, rfl⟩ := own_slice hru
  obtain ⟨g, rfl, hg, hcap, hcell⟩ := own_cells hru hlen.2 (by decide)
  have HL := Lib.hid hl
  have HWA3 : Hid (WaA wb kb (sc / 4) (sc / 4) (kindsL (l.take 0)) w3) := Lib.hid (HWA.out.kept (Kept.below hb3 fun _ => False) id id)
  have HB3 := Lib.hid (below_chain HB2.out hb3)
  have HC := Lib.hid hcell
  have HGK : Hid (g ≠ kb) := Lib.hid (by have := HKL.out; omega)
  obtain ⟨hl6, hl1⟩ := hlen
  clear hru hb3 hcell hl y0 y1 HRU HWA hg
  go_wp2_with fail
  go_loopw [5, 12] (fun _ s12 wr => ∃ i : Nat, i ≤ l.length ∧ s12 = .int .i64 i ∧ Hid (WaA wb kb (sc / 4) (sc / 4) (kindsL (l.take i)) wr) ∧ Hid (Kept (fun k => k = kb) w3 wr)) (fun _ s12 _ => match s12 with | .int _ m => l.length - m.toNat | _ => 0)
  case atStart => exact ⟨0, Nat.zero_le _, rfl, HWA3, Lib.hid (Kept.refl _ _)⟩
  case round =>
    obtain ⟨i, hi, rfl, HW, HK⟩ := hrel
    by_cases hlt : i < l.length
    · obtain ⟨g0, g1, g2⟩ := runsV_get l i hlt
      have d0 := HK.out.cell (HC.out _ _ g0) HGK.out
      have d1 := HK.out.cell (HC.out _ _ g1) HGK.out
      have d2 := HK.out.cell (HC.out _ _ g2) HGK.out
      obtain ⟨f1, f2, f3, f4⟩ := HFIT.out l[i] (List.getElem_mem hlt)
      obtain ⟨r, hr⟩ : ∃ r, r = l[i] := ⟨_, rfl⟩
      rw [← hr] at d0 d1 d2 f1 f2 f3 f4
      have HKT : Hid (kindsL (l.take (i + 1)) = (kindsL (l.take i)).fill (r.a / 4) (r.n / 4) r.k) := Lib.hid (by rw [kindsL_take hlt, ← hr])
      obtain ⟨ra, rn, rk⟩ := r
      dsimp only at d0 d1 d2 f1 f2 f3 f4 HKT
      obtain ⟨w4, hw4⟩ : ∃ w4, w4 = wr.alloc (.cells #[.int .i64 (ra : Int), .int .i64 (rn : Int), .int .i64 (rk : Int)] 101) := ⟨_, rfl⟩
      have hb4 : Below wr.heap.size wr w4 := by rw [hw4]; exact (Below.refl _ _).alloc (Nat.le_refl _) _
      have hm := wmark_W (HW.out.kept (Kept.below hb4 fun _ => False) id id) (by omega) ra rn rk (by have := HSC4.out; omega) f1 f2 f4
      have HK4 := Lib.hid (HK.out.trans (Kept.below hb4 _))
      rw [hw4] at hm
      have HM := Lib.hid hm
      have HW4 := Lib.hid hw4
      clear f1 f2 f3 f4 hr hb4 hm g0 g1 g2 hw4
      go_wp2_with fail
      refine HM.out.mono ?_
      rintro e w5 ⟨rfl, hwa5, hk5⟩
      rw [← HW4.out] at hk5
      have HW5 : Hid (WaA wb kb (sc / 4) (sc / 4) (kindsL (l.take (i + 1))) w5) := Lib.hid (by rw [HKT.out]; exact hwa5)
      have HK5 := Lib.hid (HK4.out.trans hk5)
      clear hwa5 hk5
      go_wp2_with fail
      go_roundw
      case rel => exact ⟨i + 1, hlt, by go_num, HW5, HK5⟩
      case measure => simp; omega
    · have hii : i = l.length := by omega
      go_wp2_with fail
      go_ret
      refine ⟨_, kb, rfl, ?_, HWB.out.1, HWB.out.2, HB3.out.trans (HK.out.to_below HB3.out.size fun k hk e => by have := HWB.out; omega)⟩
      have h := HW.out
      rw [hii, List.take_length, HL.out] at h
      rw [← HSC.out]
      exact h
end Go.Proofs.YtoafmlegamjlpaaGreatDoor
namespace Go.Proofs.YtoafmlegamjlpaaGreatDoor
open Go.RowKit Go.Colm Go.Cap Go.Maps
set_option linter.unusedVariables false
set_option linter.unusedSimpArgs false

/-- The bytes of a new arena, so many fields of the root written. -/
def newB (s n : Nat) : Nat → Tr
  | 0 => Tr.nil
  | 1 => Tr.nil.store 8 4 1129270338
  | 2 => (Tr.nil.store 8 4 1129270338).store 12 4 s
  | _ => ((Tr.nil.store 8 4 1129270338).store 12 4 s).store 16 4 n
def newMm (s n : Nat) : Mm := ⟨s, n, newB s n 3, kindsL (runsC s n)⟩
/-- All of a memory's blocks are from B on. -/
structure MFrom (B : Nat) (Λ : MLay) : Prop where
  mb : B ≤ Λ.mb
  wb : B ≤ Λ.wb
  ab : B ≤ Λ.ab
  gb : B ≤ Λ.gb
  kb : B ≤ Λ.kb
theorem EnvC.fld {w : World} (h : EnvC w) {i : Nat} (hi : i < 21) {v : Nat} (hv : fldL.getD i 0 = v) : w.cell? ⟨0, i, none⟩ = some (.int .i64 (v : Int)) := by rw [h.fl i hi, hv]
set_option maxHeartbeats 3200000 in
theorem memNew_ok (s n : Nat) (w : World) (he : EnvC w) (ok : okC s n = true) : Calls Tryz.prog 45 #[.agg #[.int .i64 (s : Int), .int .i64 (n : Int)]] w fun e w' => ∃ Λ : MLay, e = .returned (.pointer (some ⟨Λ.mb, 0, none⟩)) ∧ HasM Λ (newMm s n) w' ∧ MFrom w.heap.size Λ ∧ Below w.heap.size w w' := by
  obtain ⟨w0, hw0, hb0, x0, x1⟩ := cfg_box s n w
  obtain ⟨k1, k2, k3, k4, k5⟩ := okC_iff.1 ok
  obtain ⟨z1, z2, z3, z4, z5, z6⟩ := sizeC_le ok
  have hs := he.szs
  have HR := Lib.hid (right_any s n w0 (hs.below hb0) (by omega) (by omega))
  have HSI := Lib.hid (fun W (h : Below w.heap.size w W) => size_any s n W (hs.below h) ok)
  have HWA := Lib.hid (fun W (h : Below w.heap.size w W) => watched_ok s n W (hs.below h) ok)
  have HB0 := Lib.hid hb0
  have HE := Lib.hid he
  have HOK := Lib.hid ok
  obtain ⟨sc, hsc⟩ : ∃ sc, sc = sizeC s n := ⟨_, rfl⟩
  rw [← hsc] at HSI HWA z1 z2 z3
  have HSC := Lib.hid hsc
  have HAN := Lib.hid (fun W => arenaNew_ok sc W (by omega) (by omega) (by omega))
  rw [ok] at HR
  have hn : n ≤ 8192 := k5
  have hs64 : s ≤ 64 := k2
  have HZ1 : Hid (20 ≤ sc ∧ sc ≤ 1200000) := Lib.hid (by omega)
  clear hb0 hs ok hsc he k1 k2 k3 k4 k5 z1 z2 z3 z4 z5 z6
  go_enter Tryz.func45, Tryz.ntmps45
  go_upto_region 1 with fail
  rw [← hw0]
  clear hw0
  go_wp2_with fail
  refine HR.out.mono ?_
  rintro e w1 ⟨rfl, hb1⟩
  have y0 := cell_on x0 hb1
  have y1 := cell_on x1 hb1
  have HB1 := Lib.hid (below_chain HB0.out hb1)
  have HSI1 := Lib.hid (HSI.out _ HB1.out)
  clear x0 x1 hb1 HSI
  go_wp2_with fail
  refine HSI1.out.mono ?_
  rintro e w2 ⟨rfl, hb2⟩
  have y0 := cell_on y0 hb2
  have y1 := cell_on y1 hb2
  have HB2 := Lib.hid (below_chain HB1.out hb2)
  clear hb2 HSI1
  go_wp2_with fail
  refine (HAN.out _).mono ?_
  rintro e w3 ⟨ab, gb, rfl, haa, hab, hgb, hb3⟩
  have y0 := cell_on y0 hb3
  have y1 := cell_on y1 hb3
  have HB3 := Lib.hid (below_chain HB2.out hb3)
  have HAB : Hid (w.heap.size ≤ ab ∧ w.heap.size < gb) := Lib.hid (by
    have := lt_of_cell y0
    have := HB2.out.size
    have h1 := lt_of_cell (w := w2) (a := ⟨w.heap.size, 0, none⟩) (by assumption)
    dsimp only at h1
    omega)
  obtain ⟨w4, hw4⟩ : ∃ w4, w4 = w3.alloc (.cells #[.int .i64 1129270338, .int .i64 (s : Int), .int .i64 (n : Int)] 3) := ⟨_, rfl⟩
  have hb4 : Below w3.heap.size w3 w4 := by rw [hw4]; exact (Below.refl _ _).alloc (Nat.le_refl _) _
  obtain ⟨sb, hsb⟩ : ∃ sb, sb = w3.heap.size := ⟨_, rfl⟩
  have hws : Whole w4 sb 3 #[.int .i64 1129270338, .int .i64 (s : Int), .int .i64 (n : Int)] := by rw [hw4, hsb]; exact Whole.new _ _ _
  have hne : sb ≠ gb := by
    have := haa.2.1.lt
    omega
  have ha4 : ArA ab gb sc sc (newB s n 0) w4 := haa.kept (Kept.below hb4 fun _ => False) id id
  have HA4 := Lib.hid ha4
  have HWS := Lib.hid hws
  have HNE := Lib.hid hne
  have HB4 := Lib.hid (below_chain HB3.out hb4)
  have HE4 := Lib.hid (HE.out.below (below_chain HB3.out hb4))
  have HY : Hid (w4.cell? ⟨w.heap.size, 0, none⟩ = some (.int .i64 (s : Int)) ∧ w4.cell? ⟨w.heap.size, 1, none⟩ = some (.int .i64 (n : Int))) := Lib.hid ⟨cell_on y0 hb4, cell_on y1 hb4⟩
  have hgt : ∀ k, Tab k → k ≠ gb := fun k hk e => by
    have h1 := HE.out.lt hk
    have := HAB.out
    omega
  have HGT := Lib.hid hgt
  have HW4 := Lib.hid hw4
  have HSB := Lib.hid hsb
  clear haa hab hgb hb3 hb4 hws hne ha4 hgt hw4 hsb HAN
  go_wp2_with fail
  rw [← HW4.out, ← HSB.out]
  clear y0 y1
  go_loopw [4, 5, 18] (fun _ _ s18 wr => ∃ i : Nat, i ≤ 3 ∧ s18 = .int .i64 i ∧ Hid (ArA ab gb sc sc (newB s n i) wr) ∧ Hid (Kept (fun k => k = gb) w4 wr)) (fun _ _ s18 _ => match s18 with | .int _ m => 3 - m.toNat | _ => 0)
  case atStart => exact ⟨0, Nat.zero_le _, rfl, HA4, Lib.hid (Kept.refl _ _)⟩
  case round =>
    obtain ⟨i, hi, rfl, HA, HK⟩ := hrel
    have HE5 := Lib.hid (HE4.out.kept HK.out HGT.out)
    have hw5 := HK.out.whole HWS.out HNE.out
    have d0 := hw5.cell 0
    have d1 := hw5.cell 1
    have d2 := hw5.cell 2
    simp only [List.getElem?_toArray, List.getElem?_cons_zero, List.getElem?_cons_succ] at d0 d1 d2
    have hcs : i = 0 ∨ i = 1 ∨ i = 2 ∨ i = 3 := by omega
    rcases hcs with rfl | rfl | rfl | rfl
    · have e0 := HE5.out.fld (i := 0) (by decide) (v := 8) rfl
      have hp := aput_A HA.out HZ1.out.2 8 4 1129270338 (.inr (.inr (.inl rfl))) (by decide) (by have := HZ1.out; omega) (by decide)
      have HP := Lib.hid hp
      clear hp hw5 d1 d2
      go_wp2_with fail
      refine HP.out.mono ?_
      rintro e w5 ⟨rfl, ha5, hk5⟩
      have HA5 : Hid (ArA ab gb sc sc (newB s n 1) w5) := Lib.hid ha5
      have HK5 := Lib.hid (HK.out.trans hk5)
      clear ha5 hk5
      go_wp2_with fail
      go_roundw
      case rel => exact ⟨1, by decide, rfl, HA5, HK5⟩
      case measure => simp
    · have e0 := HE5.out.fld (i := 1) (by decide) (v := 12) rfl
      have hp := aput_A HA.out HZ1.out.2 12 4 s (.inr (.inr (.inl rfl))) (by decide) (by have := HZ1.out; omega) (by omega)
      have HP := Lib.hid hp
      clear hp hw5 d0 d2
      go_wp2_with fail
      refine HP.out.mono ?_
      rintro e w5 ⟨rfl, ha5, hk5⟩
      have HA5 : Hid (ArA ab gb sc sc (newB s n 2) w5) := Lib.hid ha5
      have HK5 := Lib.hid (HK.out.trans hk5)
      clear ha5 hk5
      go_wp2_with fail
      go_roundw
      case rel => exact ⟨2, by decide, rfl, HA5, HK5⟩
      case measure => simp
    · have e0 := HE5.out.fld (i := 2) (by decide) (v := 16) rfl
      have hp := aput_A HA.out HZ1.out.2 16 4 n (.inr (.inr (.inl rfl))) (by decide) (by have := HZ1.out; omega) (by omega)
      have HP := Lib.hid hp
      clear hp hw5 d0 d1
      go_wp2_with fail
      refine HP.out.mono ?_
      rintro e w5 ⟨rfl, ha5, hk5⟩
      have HA5 : Hid (ArA ab gb sc sc (newB s n 3) w5) := Lib.hid ha5
      have HK5 := Lib.hid (HK.out.trans hk5)
      clear ha5 hk5
      go_wp2_with fail
      go_roundw
      case rel => exact ⟨3, by decide, rfl, HA5, HK5⟩
      case measure => simp
    · have hgb := HAB.out.2
      have y0 := HK.out.cell HY.out.1 (by simp; omega)
      have y1 := HK.out.cell HY.out.2 (by simp; omega)
      have HB5 : Hid (Below w.heap.size w wr) := Lib.hid (HB4.out.trans (HK.out.to_below HB4.out.size fun k hk e => by omega))
      have HWA5 := Lib.hid (HWA.out wr.drew HB5.out.drew)
      clear hw5 d0 d1 d2 hgb
      go_wp2_with fail
      have hs0 := held2_0 y0 y1
      go_region_held3 (fun w' => Below wr.heap.size wr w' ∧ w'.cell? ⟨w.heap.size, 0, none⟩ = some (.int .i64 (s : Int)) ∧ w'.cell? ⟨w.heap.size, 1, none⟩ = some (.int .i64 (n : Int)))
        (first | exact hs0 | assumption | exact held2 (by assumption) (by assumption) | exact held2 (by assumption) ((Below.refl _ _).alloc (Nat.le_refl _) _))
        (first
          | ((go_at_call 82; with_reducible refine HWA5.out.mono ?_); rintro e w6 ⟨wb, kb, rfl, hwa6, hwb6, hkb6, hb6⟩))
      go_wp2_with fail
      go_ret
      have hbW := (Below.refl w6.heap.size w6).alloc (Nat.le_refl _) (.cells #[.pointer (some ⟨wb, 0, none⟩), .pointer (some ⟨ab, 0, none⟩), .int .i64 (s : Int), .int .i64 (n : Int)] 83)
      have hb6' : Below wr.heap.size wr w6 := below_chain (Below.refl _ wr).drew hb6
      have hwa := hwa6.kept (Kept.below hbW fun _ => False) id id
      have haa := (HA.out.kept (Kept.below hb6' fun _ => False) id id).kept (Kept.below hbW fun _ => False) id id
      have hlt := HA.out.2.1.lt
      have hdr : wr.drew.heap.size = wr.heap.size := rfl
      have hsz : (newMm s n).size = sc := HSC.out.symm
      have hall := below_chain HB5.out (below_chain hb6' hbW)
      refine ⟨⟨w6.heap.size, wb, ab, gb, kb, sc, sc / 4⟩, rfl, ⟨HE.out.below hall, HOK.out, Whole.new _ _ _, ?_, ?_, ?_, ?_, ?_, ?_, ?_⟩, ⟨?_, ?_, HAB.out.1, Nat.le_of_lt HAB.out.2, ?_⟩, hall⟩
      · rw [hsz]; exact hwa.1
      · rw [hsz]; exact haa.1
      · rw [hsz]; exact haa.2.1
      · rw [hsz]; exact hwa.2.1
      · show gb ≠ kb
        omega
      · rw [hsz]; exact Nat.le_refl _
      · rw [hsz]; exact Nat.le_refl _
      · exact (below_chain HB5.out hb6').size
      · show w.heap.size ≤ wb
        have := HB5.out.size
        omega
      · show w.heap.size ≤ kb
        have := HB5.out.size
        omega
end Go.Proofs.YtoafmlegamjlpaaGreatDoor
namespace Go.Cap
set_option linter.unusedVariables false

/-- A part of a slab's head. -/
def partM (s off w : Nat) (m : Mm) : Option Nat := if s < m.slabs then m.ld (128 + s * 16 + off) w 3 else none
def putM (s off w v : Nat) (m : Mm) : Option Mm := if s < m.slabs then m.st (128 + s * 16 + off) w 3 v else none
def afterM (c prev next : Nat) (m : Mm) : Option Mm := if 0 < prev then putM (prev - 1) 8 4 next m else m.setRoot (3 + c) next
def linkM (c s prev next : Nat) (m : Mm) : Option Mm :=
  (putM s 12 4 prev m).bind fun m1 => (putM s 8 4 next m1).bind fun m2 => (if 0 < next then putM (next - 1) 12 4 (s + 1) m2 else some m2).bind fun m3 => afterM c prev (s + 1) m3
/-- All lists are empty from c on, so many. -/
def nilListsM (c : Nat) : Nat → Mm → Option Mm
  | 0, m => some m
  | k + 1, m => (m.setRoot (3 + c) 0).bind (nilListsM (c + 1) k)
/-- So many slabs are put ahead of the free ones, the last ones first. -/
def freeSlabsM : Nat → Mm → Option Mm
  | 0, m => some m
  | k + 1, m => (m.root 3).bind fun f => (linkM 0 k 0 f m).bind (freeSlabsM k)
def listsBeginM (m : Mm) : Option Mm := (m.zero 128 (m.slabs * 16) 3).bind fun m1 => (nilListsM 0 10 m1).bind fun m2 => freeSlabsM m.slabs m2
end Go.Cap
