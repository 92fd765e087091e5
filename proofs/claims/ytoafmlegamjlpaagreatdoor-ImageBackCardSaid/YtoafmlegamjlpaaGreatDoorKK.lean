/-
  The walk of region.mapped over an image of free slabs. No condition but what lies there.
-/
import Derived.Test.YtoafmlegamjlpaaGreatDoorKJ
set_option linter.unusedVariables false
set_option linter.unusedSimpArgs false
namespace Go.Proofs.YtoafmlegamjlpaaGreatDoor
open Go.RowKit Go.Colm Go.Cap Go.Maps
set_option linter.unusedVariables false
set_option linter.unusedSimpArgs false
def baseS (l : List Rn) (r : Rn) : List Rn := if r.k = 7 then l else layV l r.n r.k
/-- All of an arena but its slabs. -/
def baseR (s n : Nat) : List Rn := (runsC s n).foldl baseS []
def freeR (l : List Rn) : Nat → List Rn
  | 0 => l
  | i + 1 => layV (freeR l i) 1024 7
/-- The runs of an arena of free slabs. -/
def mapR (s n : Nat) : List Rn := joinL (freeR (baseR s n) s)
theorem layV_next (l : List Rn) (n k : Nat) : nextR (layV l n k) = nextR l + n := by
  unfold layV
  split
  · rw [nextR_snoc]
  · omega
theorem layV_len (l : List Rn) (n k : Nat) : (layV l n k).length ≤ l.length + 1 := by
  unfold layV
  split <;> simp
theorem layV_small {l : List Rn} {n k : Nat} (h : SmallR l) (hn : nextR l + n < 4294967296) (hk : k < 256) : SmallR (layV l n k) := by
  unfold layV
  split
  · intro r hr
    rcases List.mem_append.1 hr with hr | hr
    · exact h r hr
    · simp at hr
      subst hr
      exact ⟨hn, hk⟩
  · exact h
theorem base_inv {l : List Rn} {z : Nat} (hz : z ≤ 200000) (hl : ∀ r ∈ l, r.n ≤ z ∧ r.k ≤ 8) : ∀ i, i ≤ l.length → i ≤ 10 → nextR ((l.take i).foldl baseS []) ≤ i * z ∧ ((l.take i).foldl baseS []).length ≤ i ∧ SmallR ((l.take i).foldl baseS [])
  | 0, _, _ => ⟨Nat.zero_le _, Nat.le_refl _, fun r hr => by simp at hr⟩
  | i + 1, h, h10 => by
    obtain ⟨h1, h2, h3⟩ := base_inv hz hl i (by omega) (by omega)
    obtain ⟨r1, r2⟩ := hl l[i] (List.getElem_mem (by omega))
    have hmul : i * z ≤ 10 * z := Nat.mul_le_mul_right _ (by omega)
    rw [List.take_succ_eq_append_getElem (by omega), List.foldl_append, Nat.succ_mul]
    simp only [List.foldl_cons, List.foldl_nil, baseS]
    split
    · exact ⟨Nat.le_trans h1 (Nat.le_add_right _ _), Nat.le_succ_of_le h2, h3⟩
    · refine ⟨by rw [layV_next]; omega, Nat.le_trans (layV_len _ _ _) (by omega), layV_small h3 ?_ (by omega)⟩
      omega
theorem free_inv {l : List Rn} {z : Nat} (hz : z ≤ 2000000) (h1 : nextR l ≤ z) (h2 : l.length ≤ 10) (h3 : SmallR l) : ∀ i, i ≤ 64 → nextR (freeR l i) ≤ z + i * 1024 ∧ (freeR l i).length ≤ 10 + i ∧ SmallR (freeR l i)
  | 0, _ => ⟨by show nextR l ≤ _; omega, by show l.length ≤ _; omega, h3⟩
  | i + 1, h => by
    obtain ⟨g1, g2, g3⟩ := free_inv hz h1 h2 h3 i (by omega)
    exact ⟨by rw [freeR, layV_next]; omega, Nat.le_trans (layV_len _ _ _) (by omega), layV_small g3 (by omega) (by decide)⟩
theorem rowR_own {B : Nat} {w : World} {A : Option Addr} {n c : Nat} {l : List Rn} (h : RunsOwn B w (.slice A n c) l) : RowV w A (runsV l) := by
  rcases h.2 with ⟨h1, h0⟩ | ⟨g, cap, cur, h1, hb, hg, hn, hm, hs, ht⟩
  · have : l = [] := List.eq_nil_of_length_eq_zero h0
    subst this
    exact RowV.nil _ _
  · simp only [Value.slice.injEq] at h1
    obtain ⟨rfl, rfl, rfl⟩ := h1
    intro i v hv
    obtain ⟨g', hA, _, _, hc⟩ := own_cells (A := some ⟨g, 0, none⟩) (c := c) h (by
      have := (List.getElem?_eq_some_iff.1 hv).1
      rw [runsV_length] at this
      omega) (by decide)
    cases hA
    exact ⟨g, 0, rfl, by rw [Nat.zero_add]; exact hc i v hv⟩
set_option maxRecDepth 100000 in
set_option maxHeartbeats 12800000 in
theorem mapped_ok (s n : Nat) (A : Option Addr) (cap : Nat) (b : List UInt8) (t : Tr) (w : World) (hr : RowV w A (bytesV b)) (ht : BytesOf b t) (hs : Sz w) (ok : okC s n = true) (hlen : b.length = sizeC s n) (hcap : b.length ≤ cap) (hf : ∀ sl, sl < s → FreeAt t s n sl) :
    Calls Tryz.prog 101 #[.agg #[.int .i64 (s : Int), .int .i64 (n : Int)], .slice A b.length cap] w fun e w' => ∃ v, e = .returned (.tuple #[v, .nilIface]) ∧ RunsOwn w.heap.size w' v (mapR s n) ∧ Below w.heap.size w w' := by
  obtain ⟨z1, z2, z3, z4, z5, z6⟩ := sizeC_le ok
  obtain ⟨k1, k2, k3, k4, k5⟩ := okC_iff.1 ok
  obtain ⟨g, off, rfl, hgw⟩ := hr.some_of (by omega)
  obtain ⟨w0, hw0, hb0, x0, x1⟩ := cfg_box s n w
  obtain ⟨L, hL⟩ : ∃ L, L = b.length := ⟨_, rfl⟩
  obtain ⟨w1, hw1⟩ : ∃ w1, w1 = w0.alloc (.cells #[.int .i64 (s : Int), .int .i64 (n : Int), .slice (some ⟨g, off, none⟩) L cap, .slice none 0 0] 214) := ⟨_, rfl⟩
  have hb1 : Below w0.heap.size w0 w1 := by rw [hw1]; exact (Below.refl _ _).alloc (Nat.le_refl _) _
  have hs0 : w0.heap.size = w.heap.size + 1 := by rw [hw0]; simp
  obtain ⟨vb, hvb⟩ : ∃ vb, vb = w.heap.size + 1 := ⟨_, rfl⟩
  have hv1 : Whole w1 vb 214 #[.int .i64 (s : Int), .int .i64 (n : Int), .slice (some ⟨g, off, none⟩) L cap, .slice none 0 0] := by rw [hw1, hvb, ← hs0]; exact Whole.new _ _ _
  have HV1 : Hid (∀ G, ViewAt vb G s n (some ⟨g, off, none⟩) L cap [] w1) := Lib.hid fun G => ⟨_, hv1, RunsOwn.nil _ _, fun h => by cases h⟩
  have x0 := cell_on x0 hb1
  have x1 := cell_on x1 hb1
  have HB1 := Lib.hid (below_chain hb0 hb1)
  have HVB : Hid (vb = w.heap.size + 1 ∧ vb < w1.heap.size) := Lib.hid ⟨hvb, hv1.lt⟩
  have HRU := Lib.hid (runs_any s n w1 (hs.below (below_chain hb0 hb1)) ok)
  have hfit := runsC_fit ok
  have hrl := runsC_len ok
  have HFIT : Hid (∀ r ∈ runsC s n, r.n ≤ 200000 ∧ r.k ≤ 8) := Lib.hid fun r hr => by
    have := hfit r hr
    omega
  have HSL : Hid (∀ (sl G : Nat) (l : List Rn) (W : World), sl < s → ViewAt vb G s n (some ⟨g, off, none⟩) L cap l W → Below w.heap.size w W → G < W.heap.size → l.length < 100000 → nextR l < 8589934592 → Calls Tryz.prog 166 #[.pointer (some ⟨vb, 0, none⟩), .int .i64 (sl : Int)] W fun e w' => e = .returned .nilIface ∧ ViewAt vb G s n (some ⟨g, off, none⟩) L cap (layV l 1024 7) w' ∧ Kept (fun j => vb ≤ j ∧ (j ≠ G ∨ j = vb)) W w') := Lib.hid fun sl G l W h1 h2 h3 h4 h5 h6 => by
    rw [hL] at h2 ⊢
    exact vslab_ok vb G s n g off cap sl b t l W h2 (hr.below h3) ht (hs.below h3) ok hlen hcap h1 (hf sl h1) h4 h5 h6
  rw [hw0] at hw1
  rw [← hL]
  have hs64 : s ≤ 64 := k2
  have hs7 : 7 ≤ s := k1
  have HW1 := Lib.hid hw1
  clear hr ht hs ok hlen hcap hf hgw hb0 hb1 hs0 hv1 hfit z1 z2 z3 z4 z5 z6 k1 k2 k3 k4 k5 hL hw0 hw1
  go_enter Tryz.func101, Tryz.ntmps101
  go_upto_region 2 with fail
  rw [← HW1.out]
  try rw [← hvb]
  clear hvb HW1
  go_wp2_with fail
  refine HRU.out.mono ?_
  rintro e w2 ⟨v2, rfl, hru, hb2⟩
  obtain ⟨rl, hrl2⟩ : ∃ rl, rl = runsC s n := ⟨_, rfl⟩
  rw [← hrl2] at hru HFIT hrl
  have HRL := Lib.hid hrl2
  have y0 := cell_on x0 hb2
  have y1 := cell_on x1 hb2
  obtain ⟨A, c, rfl⟩ := hru.slice
  obtain ⟨G, hA, hG, hcap, hcell⟩ := own_cells hru hrl.2 (by decide)
  subst hA
  have hGlt : G < w2.heap.size := (own_ge (k := G) hru (by rfl)).2
  have HC := Lib.hid hcell
  have HB2 := Lib.hid (below_chain HB1.out hb2)
  have HGG : Hid (vb < G ∧ G < w2.heap.size) := Lib.hid ⟨by have := HVB.out.2; omega, hGlt⟩
  have HV2 : Hid (ViewAt vb G s n (some ⟨g, off, none⟩) L cap ((rl.take 0).foldl baseS []) w2) := Lib.hid ((HV1.out G).below hb2)
  have HY : Hid (w2.cell? ⟨w.heap.size, 0, none⟩ = some (.int .i64 (s : Int))) := Lib.hid y0
  obtain ⟨hr6, hr1⟩ := hrl
  have hbu := fun (W : World) (hk : Kept (fun j => vb ≤ j ∧ (j ≠ G ∨ j = vb)) w2 W) => (show Below w.heap.size w W from HB2.out.trans (hk.to_below HB2.out.size fun k hk h => by have := HVB.out.1; omega))
  have HBU := Lib.hid hbu
  obtain ⟨ll, hll⟩ : ∃ ll, ll = rl.length := ⟨_, rfl⟩
  have HLL := Lib.hid hll
  rw [← hll] at hr6 hr1 ⊢
  clear hru hb2 hrl2 y0 y1 x0 x1 hcell hG hGlt hbu hcap hll HRU HV1
  go_wp2_with fail
  go_loopw [8, 18] (fun _ s18 wr => ∃ i : Nat, i ≤ ll ∧ s18 = .int .i64 i ∧ Hid (ViewAt vb G s n (some ⟨g, off, none⟩) L cap ((rl.take i).foldl baseS []) wr) ∧ Hid (Kept (fun j => vb ≤ j ∧ (j ≠ G ∨ j = vb)) w2 wr)) (fun _ s18 _ => match s18 with | .int _ m => ll - m.toNat | _ => 0)
  case atStart => exact ⟨0, Nat.zero_le _, rfl, HV2, Lib.hid (Kept.refl _ _)⟩
  case round =>
    obtain ⟨i, hi, rfl, HV, HK⟩ := hrel
    by_cases hlt : i < ll
    · have hlt2 : i < rl.length := by have := HLL.out; omega
      obtain ⟨g0, g1, g2⟩ := runsV_get rl i hlt2
      have hnS : ¬ (vb ≤ G ∧ (G ≠ G ∨ G = vb)) := by have := HGG.out; omega
      have d0 := HK.out.cell (HC.out _ _ g0) hnS
      have d1 := HK.out.cell (HC.out _ _ g1) hnS
      have d2 := HK.out.cell (HC.out _ _ g2) hnS
      obtain ⟨r1, r2⟩ := HFIT.out rl[i] (List.getElem_mem hlt2)
      obtain ⟨b1, b2, b3⟩ := base_inv (Nat.le_refl 200000) HFIT.out i (by omega) (by omega)
      have HST : Hid ((rl.take (i + 1)).foldl baseS [] = baseS ((rl.take i).foldl baseS []) rl[i]) := Lib.hid (by
        rw [List.take_succ_eq_append_getElem hlt2, List.foldl_append]
        rfl)
      obtain ⟨r, hr⟩ : ∃ r, r = rl[i] := ⟨_, rfl⟩
      rw [← hr] at d0 d1 d2 r1 r2 HST
      obtain ⟨ra, rn, rk⟩ := r
      dsimp only at d0 d1 d2 r1 r2
      obtain ⟨w4, hw4, hb4, y0, y1, y2⟩ := run_box ⟨ra, rn, rk⟩ wr
      dsimp only at hw4 y0 y1 y2
      have hK4 := HK.out.trans (Kept.below hb4 (fun j => vb ≤ j ∧ (j ≠ G ∨ j = vb)))
      have HK4 := Lib.hid hK4
      have hv4 := HV.out.below hb4
      have HV4 := Lib.hid hv4
      have hlay := vlay_ok vb G s n L cap rn rk (some ⟨g, off, none⟩) _ w4 hv4 (Nat.lt_of_lt_of_le HGG.out.2 hK4.size) (by omega) (by omega) (by omega) (by omega)
      have HLAY := Lib.hid hlay
      clear hr hb4 hv4 hlay hK4 b1 b2 b3 g0 g1 g2
      by_cases hq : rk = 7
      · have HN : Hid ((rl.take (i + 1)).foldl baseS [] = (rl.take i).foldl baseS []) := Lib.hid (by rw [HST.out, baseS, if_pos hq])
        subst hq
        rw [show ((7 : Nat) : Int) = 7 from rfl] at hw4 y2 d2
        clear HST
        go_upto_region 5 with fail
        rw [← hw4]
        clear hw4 d0 d1 d2
        go_wp2_with fail
        go_roundw
        case rel => exact ⟨i + 1, hlt, by go_num, Lib.hid (by rw [HN.out]; exact HV4.out), HK4⟩
        case measure => simp; omega
      · have HN : Hid ((rl.take (i + 1)).foldl baseS [] = layV ((rl.take i).foldl baseS []) rn rk) := Lib.hid (by rw [HST.out, baseS, if_neg hq])
        have hne : ¬ ((rk : Int) = 7) := by omega
        clear HST
        go_upto_region 5 with fail
        rw [← hw4]
        clear hw4 d0 d1 d2
        go_wp2_with fail
        refine HLAY.out.mono ?_
        rintro e w5 ⟨rfl, h5, hk5⟩
        have HV5 : Hid (ViewAt vb G s n (some ⟨g, off, none⟩) L cap (layV ((rl.take i).foldl baseS []) rn rk) w5) := Lib.hid h5
        have HK5 := Lib.hid (HK4.out.trans hk5)
        clear h5 hk5
        go_wp2_with fail
        go_roundw
        case rel => exact ⟨i + 1, hlt, by go_num, Lib.hid (by rw [HN.out]; exact HV5.out), HK5⟩
        case measure => simp; omega
    · have hii : i = ll := by omega
      have hdl : decide ((i : Int) < (ll : Int)) = false := by simp; omega
      have hdl2 : decide (i < ll) = false := by simp; omega
      have HVV : Hid (ViewAt vb G s n (some ⟨g, off, none⟩) L cap (freeR (baseR s n) 0) wr) := Lib.hid (by
        have h := HV.out
        rw [hii, HLL.out, List.take_length, HRL.out] at h
        exact h)
      have HBI : Hid (nextR (baseR s n) ≤ 2000000 ∧ (baseR s n).length ≤ 10 ∧ SmallR (baseR s n)) := Lib.hid (by
        have h := base_inv (Nat.le_refl 200000) HFIT.out rl.length (Nat.le_refl _) (by have := HLL.out; omega)
        rw [List.take_length] at h
        have h1 := HLL.out
        have h2 : rl.length ≤ 6 := by omega
        rw [show rl.foldl baseS [] = baseR s n by rw [HRL.out]; rfl] at h
        exact ⟨by omega, by omega, h.2.2⟩)
      clear hii
      have z0 : wr.cell? ⟨w.heap.size, 0, none⟩ = some (.int .i64 (s : Int)) := HK.out.cell HY.out (by have := HVB.out.1; dsimp only; omega)
      go_wp2_with fail
      go_loopw [4, 5, 9, 10, 34] (fun s4 s5 _ _ s34 wr2 => ∃ i : Nat, i ≤ s ∧ s34 = .int .i64 i ∧ s4 = .slice none 0 0 ∧ s5 = .nilIface ∧ Hid (ViewAt vb G s n (some ⟨g, off, none⟩) L cap (freeR (baseR s n) i) wr2) ∧ Hid (Kept (fun j => vb ≤ j ∧ (j ≠ G ∨ j = vb)) w2 wr2)) (fun _ _ _ _ s34 _ => match s34 with | .int _ m => s - m.toNat | _ => 0)
      case atStart => exact ⟨0, Nat.zero_le _, rfl, rfl, rfl, HVV, HK⟩
      case round =>
        obtain ⟨i2, hi2, rfl, rfl, rfl, HW, HK2⟩ := hrel
        by_cases hlt2 : i2 < s
        · obtain ⟨b1, b2, b3⟩ := free_inv (Nat.le_refl 2000000) HBI.out.1 HBI.out.2.1 HBI.out.2.2 i2 (by omega)
          have HSS := Lib.hid (HSL.out i2 G _ wr hlt2 HW.out (HBU.out _ HK2.out) (Nat.lt_of_lt_of_le HGG.out.2 HK2.out.size) (by omega) (by omega))
          clear b1 b2 b3 z0
          go_wp2_with fail
          refine HSS.out.mono ?_
          rintro e w5 ⟨rfl, h5, hk5⟩
          have HV5 : Hid (ViewAt vb G s n (some ⟨g, off, none⟩) L cap (freeR (baseR s n) (i2 + 1)) w5) := Lib.hid h5
          have HK5 := Lib.hid (HK2.out.trans hk5)
          clear h5 hk5
          go_wp2_with fail
          go_roundw
          case rel => exact ⟨i2 + 1, hlt2, by go_num, rfl, rfl, HV5, HK5⟩
          case measure => simp; omega
        · have hii2 : i2 = s := by omega
          obtain ⟨b1, b2, b3⟩ := free_inv (Nat.le_refl 2000000) HBI.out.1 HBI.out.2.1 HBI.out.2.2 s hs64
          have hvv := HW.out
          rw [hii2] at hvv
          obtain ⟨v, hbx, hrw, _⟩ := hvv
          obtain ⟨A3, c3, hv3⟩ := hrw.slice
          have c3v : wr.cell? ⟨vb, 3, none⟩ = some v := hbx.cell 3
          have hrow : RowV wr A3 (runsV (freeR (baseR s n) s)) := by
            rw [hv3] at hrw
            exact rowR_own hrw
          have hjo := join_ok A3 c3 (freeR (baseR s n) s) wr hrow b3 (by omega)
          obtain ⟨lz, hlz⟩ : ∃ lz, lz = (freeR (baseR s n) s).length := ⟨_, rfl⟩
          rw [← hlz] at hv3 hjo
          subst hv3
          have HJO := Lib.hid hjo
          have HBW := Lib.hid (HBU.out _ HK2.out)
          clear b1 b2 b3 hbx hrw hrow hjo hlz z0 hii2
          go_wp2_with fail
          refine HJO.out.mono ?_
          rintro e w5 ⟨v5, rfl, h5, hb5⟩
          have HF : Hid (RunsOwn w.heap.size w5 v5 (mapR s n) ∧ Below w.heap.size w w5) := Lib.hid ⟨own_base h5 HBW.out.size, below_chain HBW.out hb5⟩
          clear h5 hb5
          go_wp2_with fail
          go_ret2
          exact ⟨v5, rfl, HF.out⟩
end Go.Proofs.YtoafmlegamjlpaaGreatDoor
