/-
  The walks of region's view: blank, slab of a free one. No condition but what lies there.
  The walks of region's is, follows, Joined. No condition but what lies there.
  The walk of region.Joined. No condition but what lies there.
-/
import Derived.Test.YtoafmlegamjlpaaGreatDoorKI
import Derived.Deep.RegionLaw
import Derived.Deep.RegionHeld3
set_option linter.unusedVariables false
set_option linter.unusedSimpArgs false
namespace Go.Proofs.YtoafmlegamjlpaaGreatDoor
open Go.RowKit Go.Colm Go.Cap Go.Maps
set_option linter.unusedVariables false
set_option linter.unusedSimpArgs false
set_option maxHeartbeats 800000 in
theorem vb1_any (x : Int) (w : World) : Calls Tryz.prog 263 #[.int .u8 x] w fun e w' => e = .returned (.bool (x != 0)) ∧ w' = w := by
  go_enter Tryz.func263, Tryz.ntmps263
  go_wp2
  go_ret
  exact ⟨rfl, rfl⟩
set_option maxHeartbeats 1600000 in
theorem idx0_ok (g off n cap : Nat) (w : World) (hn : n < 1099511627776) (hc : ∀ i, i < n → w.cell? ⟨g, off + i, none⟩ = some (.int .u8 0)) : Calls Tryz.prog 292 #[.slice (some ⟨g, off, none⟩) n cap, .func (.func 263) #[] #[]] w fun e w' => e = .returned (.int .i64 (-1)) ∧ w' = w := by
  have HC := Lib.hid hc
  have HF := Lib.hid (vb1_any 0 w)
  rw [show ((0 : Int) != 0) = false from rfl] at HF
  clear hc
  go_enter Tryz.func292, Tryz.ntmps292
  go_wp2_with fail
  go_loop [4, 5, 8] (fun s4 _ s8 => ∃ i : Nat, i ≤ n ∧ s8 = .int .i64 i ∧ s4 = .int .i64 0) (fun _ _ s8 => match s8 with | .int _ m => n - m.toNat | _ => 0)
  case atStart => exact ⟨0, Nat.zero_le _, rfl, rfl⟩
  case round =>
    obtain ⟨i, hi, rfl, rfl⟩ := hrel
    by_cases hlt : i < n
    · have hci := HC.out i hlt
      go_wp2_with fail
      refine HF.out.mono ?_
      rintro e w1 ⟨rfl, rfl⟩
      go_wp2_with fail
      go_round
      case rel => exact ⟨i + 1, hlt, by go_num, rfl⟩
      case measure => simp; omega
    · have hii : i = n := by omega
      go_wp2_with fail
      go_ret
      exact ⟨rfl, rfl⟩
set_option maxHeartbeats 800000 in
theorem cont0_ok (g off n cap : Nat) (w : World) (hn : n < 1099511627776) (hc : ∀ i, i < n → w.cell? ⟨g, off + i, none⟩ = some (.int .u8 0)) : Calls Tryz.prog 262 #[.slice (some ⟨g, off, none⟩) n cap, .func (.func 263) #[] #[]] w fun e w' => e = .returned (.bool false) ∧ w' = w := by
  have HI := Lib.hid (idx0_ok g off n cap w hn hc)
  clear hc
  go_enter Tryz.func262, Tryz.ntmps262
  go_wp2_with fail
  refine HI.out.mono ?_
  rintro e w1 ⟨rfl, rfl⟩
  go_wp2_with fail
  go_ret
  exact ⟨rfl, rfl⟩
theorem run_cut_in3 {P : Program} {t e : TypeId} {s : Nat} (ht : P.underlying t = some (.slice e)) (hs : ∀ w, (sizeOf e).run P w = .ok s w) (A : Option Addr) (n c : Nat) (kd ke : IntKind) (lo hi : Int) (h0 : 0 ≤ lo) (h1 : lo ≤ hi) (h2 : hi ≤ c) (w : World) :
    (Instr.slice t (.slice A n c) (some (.int kd lo)) (some (.int ke hi)) none).run P w = .ok (.slice (cutA A c lo.toNat s) (hi.toNat - lo.toNat) (c - lo.toNat)) w := by
  have e1 : (Instr.sliceBound (.int ke hi) c .sliceAcap).run P w = .ok hi.toNat w := run_sliceBound w ke hi c _ (by omega) h2
  have e2 : ∀ code, (Instr.sliceBound (.int kd lo) hi.toNat code).run P w = .ok lo.toNat w := fun code => run_sliceBound w kd lo hi.toNat code h0 (by omega)
  simp [Instr.slice, run_underlying ht, Instr.sliceBounds, e1, e2, hs, cutA]
theorem cutA_some3 (g off c k : Nat) (h : k < c) : cutA (some ⟨g, off, none⟩) c k 1 = some ⟨g, off + k, none⟩ := by
  rw [cutA, if_neg (by omega)]
  simp [Addr.add]
set_option maxRecDepth 100000 in
set_option maxHeartbeats 3200000 in
theorem vblank_ok (vb G s n g off cap sl : Nat) (b : List UInt8) (t : Tr) (l : List Rn) (w : World) (h : ViewAt vb G s n (some ⟨g, off, none⟩) b.length cap l w) (hr : RowV w (some ⟨g, off, none⟩) (bytesV b)) (ht : BytesOf b t) (hs : Sz w) (ok : okC s n = true) (hlen : b.length = sizeC s n) (hcap : b.length ≤ cap) (hsl : sl < s) (hz : ∀ i, baseC s n + sl * 1024 ≤ i → i < baseC s n + sl * 1024 + 1024 → t.get i = 0) :
    Calls Tryz.prog 219 #[.pointer (some ⟨vb, 0, none⟩), .int .i64 (sl : Int)] w fun e w' => e = .returned (.bool true) ∧ Below w.heap.size w w' := by
  obtain ⟨v, h1, h2, h3⟩ := h
  have c0 : w.cell? ⟨vb, 0, none⟩ = some (.int .i64 (s : Int)) := h1.cell 0
  have c1 : w.cell? ⟨vb, 1, none⟩ = some (.int .i64 (n : Int)) := h1.cell 1
  have c2 : w.cell? ⟨vb, 2, none⟩ = some (.slice (some ⟨g, off, none⟩) b.length cap) := h1.cell 2
  have HSA := Lib.hid (slabAt_any s n sl w hs ok hsl)
  obtain ⟨z1, z2, z3, z4, z5, z6⟩ := sizeC_le ok
  obtain ⟨k1, k2, k3, k4, k5⟩ := okC_iff.1 ok
  obtain ⟨p, hp⟩ : ∃ p, p = baseC s n + sl * 1024 := ⟨_, rfl⟩
  have hpb : p + 1024 ≤ b.length := by
    have : sl * 1024 + 1024 ≤ s * 1024 := by omega
    omega
  rw [← hp] at HSA hz
  have hcut := fun W => run_cut_in3 (P := Tryz.prog) Tryz.underlying22 Tryz.sizeOf5 (some ⟨g, off, none⟩) b.length cap .i64 .i64 (p : Int) ((p : Int) + 1024) (by omega) (by omega) (by omega) W
  rw [show ((p : Int)).toNat = p by omega, show ((p : Int) + 1024).toNat - p = 1024 by omega, cutA_some3 _ _ _ _ (by omega)] at hcut
  have HCT := Lib.hid (fun (W : World) (hb : Below w.heap.size w W) => cont0_ok g (off + p) 1024 (cap - p) W (by decide) (fun i hi => by
    have := row_byte (hr.below hb) (i := p + i) (by omega)
    rw [show off + p + i = off + (p + i) by omega, this, ht (p + i) (by omega), hz (p + i) (by omega) (by omega)]
    rfl))
  have hp2 : p < 1000000 := by omega
  obtain ⟨L, hL⟩ : ∃ L, L = b.length := ⟨_, rfl⟩
  rw [← hL] at c2 hcut
  clear h1 h2 hr ht hs ok hlen hcap hsl hz z1 z2 z3 z4 z5 z6 k1 k2 k3 k4 k5 hp hpb hL
  go_enter Tryz.func219, Tryz.ntmps219
  go_wp2_with fail
  refine HSA.out.mono ?_
  rintro e w1 ⟨rfl, hb1⟩
  have c2 := cell_on c2 hb1
  have HB1 := Lib.hid hb1
  clear hb1 c0 c1
  go_wp2_with fail
  refine (HCT.out _ HB1.out).mono ?_
  rintro e w2 ⟨rfl, rfl⟩
  go_wp2_with fail
  go_ret
  exact ⟨rfl, HB1.out⟩
/-- A slab is a free one, by its bytes. -/
def FreeAt (t : Tr) (s n sl : Nat) : Prop := t.load (128 + sl * 16) 2 = 0 ∧ t.load (128 + sl * 16 + 2) 2 = 0 ∧ t.load (128 + sl * 16 + 4) 4 = 0 ∧ ∀ i, baseC s n + sl * 1024 ≤ i → i < baseC s n + sl * 1024 + 1024 → t.get i = 0
set_option maxRecDepth 100000 in
set_option maxHeartbeats 6400000 in
theorem vslab_ok (vb G s n g off cap sl : Nat) (b : List UInt8) (t : Tr) (l : List Rn) (w : World) (h : ViewAt vb G s n (some ⟨g, off, none⟩) b.length cap l w) (hr : RowV w (some ⟨g, off, none⟩) (bytesV b)) (ht : BytesOf b t) (hs : Sz w) (ok : okC s n = true) (hlen : b.length = sizeC s n) (hcap : b.length ≤ cap) (hsl : sl < s) (hf : FreeAt t s n sl) (hG : G < w.heap.size) (hl : l.length < 100000) (hn : nextR l < 8589934592) :
    Calls Tryz.prog 166 #[.pointer (some ⟨vb, 0, none⟩), .int .i64 (sl : Int)] w fun e w' => e = .returned .nilIface ∧ ViewAt vb G s n (some ⟨g, off, none⟩) b.length cap (layV l 1024 7) w' ∧ Kept (fun j => vb ≤ j ∧ (j ≠ G ∨ j = vb)) w w' := by
  obtain ⟨f1, f2, f3, f4⟩ := hf
  obtain ⟨z1, z2, z3, z4, z5, z6⟩ := sizeC_le ok
  obtain ⟨k1, k2, k3, k4, k5⟩ := okC_iff.1 ok
  have hsl64 : sl < 64 := by omega
  obtain ⟨v, h1, h2, h3⟩ := h
  have c0 : w.cell? ⟨vb, 0, none⟩ = some (.int .i64 (s : Int)) := h1.cell 0
  have c1 : w.cell? ⟨vb, 1, none⟩ = some (.int .i64 (n : Int)) := h1.cell 1
  have hv : ViewAt vb G s n (some ⟨g, off, none⟩) b.length cap l w := ⟨v, h1, h2, h3⟩
  have HHA := Lib.hid (headAt_any s n sl w hs ok hsl)
  obtain ⟨p, hp⟩ : ∃ p, p = 128 + sl * 16 := ⟨_, rfl⟩
  rw [← hp] at HHA f1 f2 f3
  have hin : p + 8 ≤ b.length := by unfold slotsC at z5; omega
  have hn0 := fun (W : World) (hb : Below w.heap.size w W) => vnum_ok vb G s n g off cap p 2 b t l W (hv.below hb) (hr.below hb) ht (by omega) (.inl rfl) (by omega) (by omega)
  have hn2 := fun (W : World) (hb : Below w.heap.size w W) => vnum_ok vb G s n g off cap (p + 2) 2 b t l W (hv.below hb) (hr.below hb) ht (by omega) (.inl rfl) (by omega) (by omega)
  have hn4 := fun (W : World) (hb : Below w.heap.size w W) => vnum_ok vb G s n g off cap (p + 4) 4 b t l W (hv.below hb) (hr.below hb) ht (by omega) (.inr rfl) (by omega) (by omega)
  rw [f1] at hn0
  rw [f2] at hn2
  rw [f3] at hn4
  simp only [show ((p + 2 : Nat) : Int) = (p : Int) + 2 by omega, show ((p + 4 : Nat) : Int) = (p : Int) + 4 by omega, show ((0 : Nat) : Int) = 0 from rfl, show ((2 : Nat) : Int) = 2 from rfl, show ((4 : Nat) : Int) = 4 from rfl] at hn0 hn2 hn4
  have HN0 := Lib.hid hn0
  have HN2 := Lib.hid hn2
  have HN4 := Lib.hid hn4
  have HBK := Lib.hid (fun (W : World) (hb : Below w.heap.size w W) => vblank_ok vb G s n g off cap sl b t l W (hv.below hb) (hr.below hb) ht (hs.below hb) ok hlen hcap hsl f4)
  have HLA := Lib.hid (fun (W : World) (hb : Below w.heap.size w W) => vlay_ok vb G s n b.length cap 1024 7 (some ⟨g, off, none⟩) l W (hv.below hb) (Nat.lt_of_lt_of_le hG hb.size) (by decide) (by decide) hl hn)
  have hp2 : p < 10000 := by omega
  obtain ⟨L, hL⟩ : ∃ L, L = b.length := ⟨_, rfl⟩
  clear h1 h2 hv hr ht hs ok hlen hcap hsl f1 f2 f3 f4 hl hn z1 z2 z3 z4 z5 z6 k1 k2 k3 k4 k5 hn0 hn2 hn4 hin hp
  go_enter Tryz.func166, Tryz.ntmps166
  go_wp2_with fail
  refine HHA.out.mono ?_
  rintro e w1 ⟨rfl, hb1⟩
  have HB1 := Lib.hid hb1
  clear hb1 c0 c1
  go_wp2_with fail
  refine (HN0.out _ HB1.out).mono ?_
  rintro e w2 ⟨rfl, rfl⟩
  go_wp2_with fail
  refine (HN2.out _ HB1.out).mono ?_
  rintro e w2 ⟨rfl, rfl⟩
  go_wp2_with fail
  refine (HN4.out _ HB1.out).mono ?_
  rintro e w2 ⟨rfl, rfl⟩
  go_wp2_with fail
  refine (HBK.out _ HB1.out).mono ?_
  rintro e w3 ⟨rfl, hb3⟩
  have HB3 := Lib.hid (below_chain HB1.out hb3)
  clear hb3
  go_wp2_with fail
  refine (HLA.out _ HB3.out).mono ?_
  rintro e w4 ⟨rfl, h4, hk4⟩
  have HV : Hid (ViewAt vb G s n (some ⟨g, off, none⟩) b.length cap (layV l 1024 7) w4 ∧ Kept (fun j => vb ≤ j ∧ (j ≠ G ∨ j = vb)) w w4) := Lib.hid ⟨h4, (Kept.below HB3.out _).trans hk4⟩
  clear h4 hk4
  go_wp2_with fail
  go_ret
  exact ⟨rfl, HV.out⟩
end Go.Proofs.YtoafmlegamjlpaaGreatDoor
namespace Go.Cap
/-- A run behind others, joined. -/
def joinS (out : List Rn) (r : Rn) : List Rn := match out.getLast? with
  | none => [r]
  | some x => if x.a + x.n = r.a ∧ x.k = r.k then out.dropLast ++ [⟨x.a, x.n + r.n, x.k⟩] else out ++ [r]
def joinL (l : List Rn) : List Rn := l.foldl joinS []
def SmallR (l : List Rn) : Prop := ∀ r ∈ l, r.a + r.n < 4294967296 ∧ r.k < 256
theorem joinL_take {l : List Rn} {i : Nat} (h : i < l.length) : joinL (l.take (i + 1)) = joinS (joinL (l.take i)) l[i] := by
  rw [joinL, List.take_succ_eq_append_getElem h, List.foldl_append]
  rfl
theorem joinS_length (out : List Rn) (r : Rn) : (joinS out r).length ≤ out.length + 1 := by
  unfold joinS
  split
  · simp
  · split
    · simp
    · simp
theorem joinL_length (l : List Rn) : ∀ i, i ≤ l.length → (joinL (l.take i)).length ≤ i
  | 0, _ => by simp [joinL]
  | i + 1, h => by
    have := joinL_length l i (by omega)
    have := joinS_length (joinL (l.take i)) l[i]
    rw [joinL_take (by omega)]
    omega
theorem joinS_small {out : List Rn} {r : Rn} (h : SmallR out) (hr : r.a + r.n < 4294967296 ∧ r.k < 256) : SmallR (joinS out r) := by
  unfold joinS
  cases hl : out.getLast? with
  | none => intro x hx; simp at hx; subst hx; exact hr
  | some y =>
    have hy := h y (List.mem_of_getLast? hl)
    dsimp only
    split
    · rename_i hc
      intro x hx
      rcases List.mem_append.1 hx with hx | hx
      · exact h x (List.dropLast_subset _ hx)
      · simp at hx
        subst hx
        exact ⟨by dsimp only; omega, hy.2⟩
    · intro x hx
      rcases List.mem_append.1 hx with hx | hx
      · exact h x hx
      · simp at hx; subst hx; exact hr
theorem joinL_small {l : List Rn} (h : SmallR l) : ∀ i, i ≤ l.length → SmallR (joinL (l.take i))
  | 0, _ => by intro x hx; simp [joinL] at hx
  | i + 1, hi => by
    rw [joinL_take (by omega)]
    exact joinS_small (joinL_small h i (by omega)) (h _ (List.getElem_mem (by omega)))
end Go.Cap
namespace Go.Proofs.YtoafmlegamjlpaaGreatDoor
open Go.RowKit Go.Colm Go.Cap Go.Maps
set_option linter.unusedVariables false
set_option linter.unusedSimpArgs false
theorem run_box (r : Rn) (w : World) : ∃ w0, w0 = w.alloc (.cells #[.int .i64 (r.a : Int), .int .i64 (r.n : Int), .int .i64 (r.k : Int)] 101) ∧ Below w.heap.size w w0 ∧ w0.cell? ⟨w.heap.size, 0, none⟩ = some (.int .i64 (r.a : Int)) ∧ w0.cell? ⟨w.heap.size, 1, none⟩ = some (.int .i64 (r.n : Int)) ∧ w0.cell? ⟨w.heap.size, 2, none⟩ = some (.int .i64 (r.k : Int)) :=
  ⟨_, rfl, (Below.refl _ w).alloc (Nat.le_refl _) _, (Whole.new w _ _).cell 0, (Whole.new w _ _).cell 1, (Whole.new w _ _).cell 2⟩
set_option maxHeartbeats 1600000 in
theorem ris_any (a n k : Nat) (w : World) (h : a + n < 4294967296) : Calls Tryz.prog 265 #[.agg #[.int .i64 (a : Int), .int .i64 (n : Int), .int .i64 (k : Int)]] w fun e w' => e = .returned (.bool true) ∧ Below w.heap.size w w' := by
  obtain ⟨w0, hw0, hb0, x0, x1, x2⟩ := run_box ⟨a, n, k⟩ w
  dsimp only at hw0 x0 x1 x2
  have HB0 := Lib.hid hb0
  have d1 : decide ((0 : Int) ≤ (a : Int)) = true := by simp
  have d2 : decide ((a : Int) ≤ 1099511627776) = true := by simp; omega
  have d3 : decide ((0 : Int) ≤ (n : Int)) = true := by simp
  have d4 : decide ((n : Int) ≤ 1099511627776) = true := by simp; omega
  clear hb0
  go_enter Tryz.func265, Tryz.ntmps265
  go_upto_region 1 with fail
  rw [← hw0]
  clear hw0
  go_wp2_with fail
  go_ret
  exact ⟨rfl, HB0.out⟩
set_option maxRecDepth 100000 in
set_option maxHeartbeats 3200000 in
theorem follows_any (a n k a' n' k' : Nat) (w : World) (h : a + n < 4294967296) (h' : a' + n' < 4294967296) : Calls Tryz.prog 223 #[.agg #[.int .i64 (a : Int), .int .i64 (n : Int), .int .i64 (k : Int)], .agg #[.int .i64 (a' : Int), .int .i64 (n' : Int), .int .i64 (k' : Int)]] w fun e w' => e = .returned (.bool (decide (a + n = a' ∧ k = k'))) ∧ Below w.heap.size w w' := by
  obtain ⟨w0, hw0, hb0, x0, x1, x2⟩ := run_box ⟨a, n, k⟩ w
  obtain ⟨w1, hw1, hb1, y0, y1, y2⟩ := run_box ⟨a', n', k'⟩ w0
  dsimp only at hw0 x0 x1 x2 hw1 y0 y1 y2
  have hlt : w.heap.size < w0.heap.size := lt_of_cell x0
  have x0 := cell_on x0 hb1
  have x1 := cell_on x1 hb1
  have x2 := cell_on x2 hb1
  have HB1 := Lib.hid (below_chain hb0 hb1)
  have HI := Lib.hid (fun W => ris_any a n k W h)
  have HI' := Lib.hid (fun W => ris_any a' n' k' W h')
  obtain ⟨q, hq⟩ : ∃ q, q = decide (a + n = a' ∧ k = k') := ⟨_, rfl⟩
  rw [← hq]
  have HQ := Lib.hid hq
  have hs0 : w0.heap.size = w.heap.size + 1 := by rw [hw0]; simp
  rw [hw0] at hw1
  have hsz : (w.alloc (.cells #[.int .i64 (a : Int), .int .i64 (n : Int), .int .i64 (k : Int)] 101)).heap.size = w.heap.size + 1 := by simp
  clear hb0 hb1 hq hw0 hlt
  rw [hs0] at y0 y1 y2
  clear hs0
  go_enter Tryz.func223, Tryz.ntmps223
  go_upto_region 1 with fail
  try rw [hsz]
  rw [← hw1]
  clear hw1 hsz
  go_wp2_with fail
  refine (HI.out _).mono ?_
  rintro e w2 ⟨rfl, hb2⟩
  have x0 := cell_on x0 hb2
  have x1 := cell_on x1 hb2
  have x2 := cell_on x2 hb2
  have y0 := cell_on y0 hb2
  have y1 := cell_on y1 hb2
  have y2 := cell_on y2 hb2
  have HB2 := Lib.hid (below_chain HB1.out hb2)
  clear hb2
  go_wp2_with fail
  refine (HI'.out _).mono ?_
  rintro e w3 ⟨rfl, hb3⟩
  have x0 := cell_on x0 hb3
  have x1 := cell_on x1 hb3
  have x2 := cell_on x2 hb3
  have y0 := cell_on y0 hb3
  have y1 := cell_on y1 hb3
  have y2 := cell_on y2 hb3
  have HB3 := Lib.hid (below_chain HB2.out hb3)
  clear hb3
  go_wp2_with fail
  all_goals
    go_ret
    refine ⟨ret_bool ?_, HB3.out⟩
    rw [HQ.out]
    first
      | exact (decide_eq_true (by omega)).symm
      | exact (decide_eq_false (by omega)).symm
      | exact Bool.eq_iff_iff.2 (by simp; omega)
end Go.Proofs.YtoafmlegamjlpaaGreatDoor
namespace Go.Colm
theorem own_set {w : World} {base : Nat} {e : TypeId} {size : Nat} {g c n m : Nat} {xs : List Value} (h : w.ownsRow base e size (.slice (some ⟨g, 0, none⟩) n c) m xs) {i : Nat} (hi : i < xs.length) (u : Value) : (w.setCell ⟨g, i, none⟩ u).ownsRow base e size (.slice (some ⟨g, 0, none⟩) n c) m (xs.set i u) := by
  rcases h.2 with ⟨h1, _⟩ | ⟨g', cap, cur, h1, hb, hg, hn, hm, hs, ht⟩
  · cases h1
  · simp only [Value.slice.injEq, Option.some.injEq, Addr.mk.injEq, and_true, true_and] at h1
    obtain ⟨rfl, rfl, rfl⟩ := h1
    have hw : Whole w g e cur := hg
    refine ⟨by rw [List.length_set]; exact h.1, .inr ⟨g, c, _, rfl, hb, hw.put i u, hn, hm, by simpa using hs, ?_⟩⟩
    rw [Array.toList_setIfInBounds, List.take_set, ht]
theorem own_frozen {w : World} {base : Nat} {e : TypeId} {size : Nat} {g c n m : Nat} {xs : List Value} (h : w.ownsRow base e size (.slice (some ⟨g, 0, none⟩) n c) m xs) (i : Nat) : w.frozen? ⟨g, i, none⟩ = false := by
  rcases h.2 with ⟨h1, _⟩ | ⟨g', cap, cur, h1, hb, hg, hn, hm, hs, ht⟩
  · cases h1
  · simp only [Value.slice.injEq, Option.some.injEq, Addr.mk.injEq, and_true, true_and] at h1
    obtain ⟨rfl, _⟩ := h1
    exact Whole.frozen (t := e) (cs := cur) hg i
end Go.Colm
namespace Go.Proofs.YtoafmlegamjlpaaGreatDoor
open Go.RowKit Go.Colm Go.Cap Go.Maps
set_option linter.unusedVariables false
set_option linter.unusedSimpArgs false
theorem runsV_set (o : List Rn) (x : Rn) (m : Nat) : (runsV (o ++ [x])).set (o.length * 3 + 1) (.int .i64 (m : Int)) = runsV (o ++ [⟨x.a, m, x.k⟩]) := by
  rw [runsV_snoc, runsV_snoc, List.set_append_right _ _ (by rw [runsV_length]; omega), runsV_length, show o.length * 3 + 1 - o.length * 3 = 1 by omega]
  rfl
theorem held6 {w W W2 : World} {p0 p1 p2 p3 p4 p5 : Addr} {u0 u1 u2 u3 u4 u5 : Value} (h : Below w.heap.size w W ∧ W.cell? p0 = some u0 ∧ W.cell? p1 = some u1 ∧ W.cell? p2 = some u2 ∧ W.cell? p3 = some u3 ∧ W.cell? p4 = some u4 ∧ W.cell? p5 = some u5) (k : Below W.heap.size W W2) : Below w.heap.size w W2 ∧ W2.cell? p0 = some u0 ∧ W2.cell? p1 = some u1 ∧ W2.cell? p2 = some u2 ∧ W2.cell? p3 = some u3 ∧ W2.cell? p4 = some u4 ∧ W2.cell? p5 = some u5 := by
  obtain ⟨h, c0, c1, c2, c3, c4, c5⟩ := h
  exact ⟨below_chain h k, cell_on c0 k, cell_on c1 k, cell_on c2 k, cell_on c3 k, cell_on c4 k, cell_on c5 k⟩
theorem held6_0 {w : World} {p0 p1 p2 p3 p4 p5 : Addr} {u0 u1 u2 u3 u4 u5 : Value} (c0 : w.cell? p0 = some u0) (c1 : w.cell? p1 = some u1) (c2 : w.cell? p2 = some u2) (c3 : w.cell? p3 = some u3) (c4 : w.cell? p4 = some u4) (c5 : w.cell? p5 = some u5) : Below w.heap.size w w.drew ∧ w.drew.cell? p0 = some u0 ∧ w.drew.cell? p1 = some u1 ∧ w.drew.cell? p2 = some u2 ∧ w.drew.cell? p3 = some u3 ∧ w.drew.cell? p4 = some u4 ∧ w.drew.cell? p5 = some u5 :=
  ⟨(Below.refl _ _).drew, c0, c1, c2, c3, c4, c5⟩
theorem rowR_get {w : World} {A : Option Addr} {l : List Rn} (h : RowV w A (runsV l)) {i : Nat} (hi : i < l.length) : ∃ g off, A = some ⟨g, off, none⟩ ∧ w.cell? ⟨g, off + i * 3, none⟩ = some (.int .i64 (l[i].a : Int)) ∧ w.cell? ⟨g, off + i * 3 + 1, none⟩ = some (.int .i64 (l[i].n : Int)) ∧ w.cell? ⟨g, off + i * 3 + 2, none⟩ = some (.int .i64 (l[i].k : Int)) := by
  obtain ⟨g0, g1, g2⟩ := runsV_get l i hi
  obtain ⟨b, o, e0, h0⟩ := h _ _ g0
  obtain ⟨b1, o1, e1, h1⟩ := h _ _ g1
  obtain ⟨b2, o2, e2, h2⟩ := h _ _ g2
  subst e0
  cases e1
  cases e2
  exact ⟨b, o, rfl, h0, by rw [Nat.add_assoc]; exact h1, by rw [Nat.add_assoc]; exact h2⟩
set_option maxRecDepth 100000 in
set_option maxHeartbeats 12800000 in
theorem join_ok (A : Option Addr) (c : Nat) (l : List Rn) (w : World) (hr : RowV w A (runsV l)) (hs : SmallR l) (hl : l.length < 1000000) :
    Calls Tryz.prog 167 #[.slice A l.length c] w fun e w' => ∃ v, e = .returned v ∧ RunsOwn w.heap.size w' v (joinL l) ∧ Below w.heap.size w w' := by
  have HR := Lib.hid hr
  have HS := Lib.hid hs
  have H0 := Lib.hid (RunsOwn.nil w.heap.size w)
  clear hr hs
  obtain ⟨L, hL⟩ : ∃ L, L = l.length := ⟨_, rfl⟩
  have HL := Lib.hid hL
  rw [← hL] at hl ⊢
  clear hL
  go_enter Tryz.func167, Tryz.ntmps167
  go_wp2_with fail
  go_loopw [3, 5, 6, 9] (fun s3 _ _ s9 wr => ∃ (i : Nat) (v : Value), i ≤ L ∧ s9 = .int .i64 i ∧ v = s3 ∧ Hid (RunsOwn w.heap.size wr v (joinL (l.take i))) ∧ Hid (Below w.heap.size w wr)) (fun _ _ _ s9 _ => match s9 with | .int _ m => L - m.toNat | _ => 0)
  case atStart => exact ⟨0, _, Nat.zero_le _, rfl, rfl, H0, Lib.hid (Below.refl _ _)⟩
  case round =>
    obtain ⟨i, v, hi, rfl, hv3, HO, HB⟩ := hrel
    subst hv3
    by_cases hlt : i < L
    · have hlt2 : i < l.length := by have := HL.out; omega
      obtain ⟨g, off, hA, d0, d1, d2⟩ := rowR_get (HR.out.below HB.out) hlt2
      subst hA
      have hjl := joinL_length l i (by omega)
      have hjs := joinL_small HS.out i (by omega)
      have hrs := HS.out _ (List.getElem_mem hlt2)
      have HST : Hid (joinL (l.take (i + 1)) = joinS (joinL (l.take i)) l[i]) := Lib.hid (joinL_take hlt2)
      obtain ⟨r, hrr⟩ : ∃ r, r = l[i] := ⟨_, rfl⟩
      rw [← hrr] at d0 d1 d2 hrs HST
      obtain ⟨out, hout⟩ : ∃ out, out = joinL (l.take i) := ⟨_, rfl⟩
      rw [← hout] at HO HST hjl hjs
      obtain ⟨ra, rn, rk⟩ := r
      dsimp only at d0 d1 d2 hrs
      obtain ⟨w1, hw1, hb1, y0, y1, y2⟩ := run_box ⟨ra, rn, rk⟩ wr
      dsimp only at hw1 y0 y1 y2
      have HO1 := Lib.hid (HO.out.stays (Kept.below hb1 fun _ => False) fun _ _ => id)
      have HB1 := Lib.hid (below_chain HB.out hb1)
      have HSZ : Hid (w.heap.size ≤ wr.heap.size ∧ wr.heap.size < w1.heap.size) := Lib.hid ⟨HB.out.size, lt_of_cell y0⟩
      have HJS := Lib.hid hjs
      obtain ⟨hra, hrk⟩ := hrs
      clear hb1 hrr hout hjs
      rcases List.eq_nil_or_concat out with h0 | ⟨o, x, hox⟩
      · subst h0
        have hj : joinS [] ⟨ra, rn, rk⟩ = [⟨ra, rn, rk⟩] := rfl
        rw [hj] at HST
        obtain ⟨A3, c3, hv⟩ := HO1.out.slice
        rw [show ([] : List Rn).length = 0 from rfl] at hv
        subst hv
        clear hj hjl
        go_upto_region 5 with fail
        rw [← hw1]
        clear hw1 d0 d1 d2
        go_wp2_with fail
        go_quiet (fail)
        have HO2 : Hid (∀ N, RunsOwn w.heap.size (w1.drewN N) (.slice A3 0 c3) []) := Lib.hid fun _ => HO1.out
        have HB2 : Hid (∀ N, Below w.heap.size w (w1.drewN N)) := Lib.hid fun N => below_drewN HB1.out N
        obtain ⟨w2, hw2⟩ : ∃ w2, w2 = w1.drewN nq := ⟨_, rfl⟩
        have HO3 := Lib.hid (HO2.out nq)
        have HB3 := Lib.hid (HB2.out nq)
        have z0 : (w1.drewN nq).cell? ⟨wr.heap.size, 0, none⟩ = some (.int .i64 (ra : Int)) := y0
        have z1 : (w1.drewN nq).cell? ⟨wr.heap.size, 1, none⟩ = some (.int .i64 (rn : Int)) := y1
        have z2 : (w1.drewN nq).cell? ⟨wr.heap.size, 2, none⟩ = some (.int .i64 (rk : Int)) := y2
        rw [← hw2] at HO3 HB3 z0 z1 z2 ⊢
        clear hw2 y0 y1 y2 HO2 HB2
        go_wp2_with (at_builtin; refine wpList_app_run rfl _ _ rfl w.heap.size (.slice A3 0 c3) [] rfl (HO3.out.stays (S := fun _ => False) ((Kept.refl _ w2).alloc _) fun _ _ => id) w2.heap.size ⟨ra, rn, rk⟩ rfl (Whole.new w2 _ _) (by simp) (by have := HB3.out.size; simp; omega) ?_; intro v4 w4 h4 hk4 _; have HV4 : Hid (RunsOwn w.heap.size w4 v4 [⟨ra, rn, rk⟩] ∧ Below w.heap.size w w4) := Lib.hid ⟨h4, (HB3.out.alloc HB3.out.size _).trans (hk4.to_below (HB3.out.alloc HB3.out.size _).size fun k hk e => by have := (own_ge HO3.out e).1; omega)⟩; clear h4 hk4)
        go_roundw
        case rel => exact ⟨i + 1, v4, hlt, by go_num, rfl, Lib.hid (by rw [HST.out]; exact HV4.out.1), Lib.hid HV4.out.2⟩
        case measure => simp; omega
      · rw [List.concat_eq_append] at hox
        subst hox
        have hol : (o ++ [x]).length = o.length + 1 := by simp
        obtain ⟨p, hp⟩ : ∃ p, p = o.length := ⟨_, rfl⟩
        have hpl : p < 1000000 := by omega
        obtain ⟨A3, c3, hv⟩ := HO1.out.slice
        rw [hol, ← hp] at hv
        subst hv
        obtain ⟨g3, hA3, _, hcap, hcell⟩ := own_cells (n := p + 1) (by have h := HO1.out; rw [RunsOwn, hol, ← hp] at h; exact h) (by omega) (by decide)
        subst hA3
        obtain ⟨q0, q1, q2⟩ := runsV_get (o ++ [x]) p (by omega)
        have e0 := hcell _ _ q0
        have e1 := hcell _ _ q1
        have e2 := hcell _ _ q2
        have hgx : (o ++ [x])[p]'(by omega) = x := by simp [hp]
        rw [hgx] at e0 e1 e2
        obtain ⟨hxa, hxk⟩ := HJS.out x (by simp)
        obtain ⟨xa, xn, xk⟩ := x
        dsimp only at e0 e1 e2 hxa hxk
        have HP := Lib.hid hp
        have hgr : g3 ≠ wr.heap.size := fun e => by
          have h := (own_ge (k := g3) HO.out (by rfl)).2
          omega
        have HGR := Lib.hid hgr
        have HFO := Lib.hid (fun W => follows_any xa xn xk ra rn rk W hxa hra)
        have hs0 := held6_0 (w := w1) e0 e1 e2 y0 y1 y2
        have HJ : Hid (joinS (o ++ [⟨xa, xn, xk⟩]) ⟨ra, rn, rk⟩ = if xa + xn = ra ∧ xk = rk then o ++ [⟨xa, xn + rn, xk⟩] else o ++ [⟨xa, xn, xk⟩] ++ [⟨ra, rn, rk⟩]) := Lib.hid (by
          unfold joinS
          simp)
        clear hjl hol hcell q0 q1 q2 hgx hp hgr
        have pi0 : (0 : Int) ≤ (p : Int) := by omega
        have pi1 : (p : Int) < (p : Int) + 1 := by omega
        have pi2 : (p : Int) < ((p + 1 : Nat) : Int) := by omega
        go_upto_region 5 with fail
        rw [← hw1]
        clear hw1 d0 d1 d2
        by_cases hq : xa + xn = ra ∧ xk = rk
        · have HN : Hid (joinL (l.take (i + 1)) = o ++ [⟨xa, xn + rn, xk⟩]) := Lib.hid (by rw [HST.out, HJ.out, if_pos hq])
          rw [decide_eq_true hq] at HFO
          clear hq HJ HST
          go_wp2_with fail
          go_region_held3 (fun w' => Below w1.heap.size w1 w' ∧ w'.cell? ⟨g3, p * 3, none⟩ = some (.int .i64 (xa : Int)) ∧ w'.cell? ⟨g3, p * 3 + 1, none⟩ = some (.int .i64 (xn : Int)) ∧ w'.cell? ⟨g3, p * 3 + 2, none⟩ = some (.int .i64 (xk : Int)) ∧ w'.cell? ⟨wr.heap.size, 0, none⟩ = some (.int .i64 (ra : Int)) ∧ w'.cell? ⟨wr.heap.size, 1, none⟩ = some (.int .i64 (rn : Int)) ∧ w'.cell? ⟨wr.heap.size, 2, none⟩ = some (.int .i64 (rk : Int)))
            (first | exact hs0 | assumption | exact held6 (by assumption) (by assumption))
            (first
              | ((go_at_call 223; with_reducible refine (HFO.out _).mono ?_); rintro e w2 ⟨rfl, hb2⟩))
          obtain ⟨hb2, k0, k1, k2, k3, k4, k5⟩ : (Below w1.heap.size w1 w2 ∧ w2.cell? ⟨g3, p * 3, none⟩ = some (.int .i64 (xa : Int)) ∧ w2.cell? ⟨g3, p * 3 + 1, none⟩ = some (.int .i64 (xn : Int)) ∧ w2.cell? ⟨g3, p * 3 + 2, none⟩ = some (.int .i64 (xk : Int)) ∧ w2.cell? ⟨wr.heap.size, 0, none⟩ = some (.int .i64 (ra : Int)) ∧ w2.cell? ⟨wr.heap.size, 1, none⟩ = some (.int .i64 (rn : Int)) ∧ w2.cell? ⟨wr.heap.size, 2, none⟩ = some (.int .i64 (rk : Int))) := by first | assumption | exact held6 (by assumption) (by assumption)
          have ho2 := HO1.out.stays (Kept.below hb2 fun _ => False) fun _ _ => id
          have fz := own_frozen ho2 (p * 3 + 1)
          have HO2 := Lib.hid ho2
          have HB2 := Lib.hid (below_chain HB1.out hb2)
          have hsum : IntKind.i64.wrap ((xn : Int) + (rn : Int)) = (xn : Int) + (rn : Int) := by rw [IntKind.wrap_i64]; omega
          clear hs0 ho2 e0 e1 e2 y0 y1 y2 hb2
          go_wp2_with fail
          go_region_law (fail)
          all_goals
            go_wp2_with fail
            go_roundw
            case rel =>
              refine ⟨i + 1, _, hlt, by go_num, rfl, Lib.hid ?_, Lib.hid ?_⟩
              · rw [HN.out]
                have ho : w2.ownsRow w.heap.size 101 3 (.slice (some ⟨g3, 0, none⟩) (p + 1) c3) (o ++ [(⟨xa, xn, xk⟩ : Rn)]).length (runsV (o ++ [(⟨xa, xn, xk⟩ : Rn)])) := HO2.out
                have h := own_set ho (i := p * 3 + 1) (by rw [runsV_length, List.length_append, ← HP.out]; show _ < (p + 1) * 3; omega) (.int .i64 ((xn + rn : Nat) : Int))
                rw [show p * 3 + 1 = o.length * 3 + 1 by rw [HP.out]] at h
                rw [runsV_set] at h
                rw [show ((xn + rn : Nat) : Int) = (xn : Int) + (rn : Int) by omega, ← HP.out] at h
                rw [RunsOwn, show (o ++ [(⟨xa, xn + rn, xk⟩ : Rn)]).length = (o ++ [(⟨xa, xn, xk⟩ : Rn)]).length by simp]
                exact h
              · exact HB2.out.trans ((((Kept.refl (fun k => k = g3) w2).setCell (p := ⟨g3, p * 3 + 1, none⟩) (.inl rfl) _).drew).to_below (B := w.heap.size) HB2.out.size fun k hk e => by
                  have h := (own_ge (k := g3) HO2.out (by rfl)).1
                  omega)
            case measure => simp; omega
        · have HN : Hid (joinL (l.take (i + 1)) = o ++ [⟨xa, xn, xk⟩] ++ [⟨ra, rn, rk⟩]) := Lib.hid (by rw [HST.out, HJ.out, if_neg hq])
          rw [decide_eq_false hq] at HFO
          clear hq HJ HST
          go_wp2_with fail
          go_region_held3 (fun w' => Below w1.heap.size w1 w' ∧ w'.cell? ⟨g3, p * 3, none⟩ = some (.int .i64 (xa : Int)) ∧ w'.cell? ⟨g3, p * 3 + 1, none⟩ = some (.int .i64 (xn : Int)) ∧ w'.cell? ⟨g3, p * 3 + 2, none⟩ = some (.int .i64 (xk : Int)) ∧ w'.cell? ⟨wr.heap.size, 0, none⟩ = some (.int .i64 (ra : Int)) ∧ w'.cell? ⟨wr.heap.size, 1, none⟩ = some (.int .i64 (rn : Int)) ∧ w'.cell? ⟨wr.heap.size, 2, none⟩ = some (.int .i64 (rk : Int)))
            (first | exact hs0 | assumption | exact held6 (by assumption) (by assumption))
            (first
              | ((go_at_call 223; with_reducible refine (HFO.out _).mono ?_); rintro e w2 ⟨rfl, hb2⟩))
          obtain ⟨hb2, k0, k1, k2, k3, k4, k5⟩ : (Below w1.heap.size w1 w2 ∧ w2.cell? ⟨g3, p * 3, none⟩ = some (.int .i64 (xa : Int)) ∧ w2.cell? ⟨g3, p * 3 + 1, none⟩ = some (.int .i64 (xn : Int)) ∧ w2.cell? ⟨g3, p * 3 + 2, none⟩ = some (.int .i64 (xk : Int)) ∧ w2.cell? ⟨wr.heap.size, 0, none⟩ = some (.int .i64 (ra : Int)) ∧ w2.cell? ⟨wr.heap.size, 1, none⟩ = some (.int .i64 (rn : Int)) ∧ w2.cell? ⟨wr.heap.size, 2, none⟩ = some (.int .i64 (rk : Int))) := by first | assumption | exact held6 (by assumption) (by assumption)
          have ho2 := HO1.out.stays (Kept.below hb2 fun _ => False) fun _ _ => id
          have HO2 := Lib.hid ho2
          have HB2 := Lib.hid (below_chain HB1.out hb2)
          clear hs0 ho2 e0 e1 e2 y0 y1 y2 hb2
          go_wp2_with (at_builtin; refine wpList_app_run rfl _ _ rfl w.heap.size (.slice (some ⟨g3, 0, none⟩) (p + 1) c3) (o ++ [⟨xa, xn, xk⟩]) rfl (HO2.out.stays (S := fun _ => False) ((Kept.refl _ w2).alloc _) fun _ _ => id) w2.heap.size ⟨ra, rn, rk⟩ rfl (Whole.new w2 _ _) (by rw [List.length_append, ← HP.out]; simp; omega) (by have := HB2.out.size; simp; omega) ?_; intro v4 w4 h4 hk4 _; have HV4 : Hid (RunsOwn w.heap.size w4 v4 (o ++ [⟨xa, xn, xk⟩] ++ [⟨ra, rn, rk⟩]) ∧ Below w.heap.size w w4) := Lib.hid ⟨h4, (HB2.out.alloc HB2.out.size _).trans (hk4.to_below (HB2.out.alloc HB2.out.size _).size fun k hk e => by have := (own_ge (k := k) HO2.out e).1; omega)⟩; clear h4 hk4)
          go_roundw
          case rel => exact ⟨i + 1, v4, hlt, by go_num, rfl, Lib.hid (by rw [HN.out]; exact HV4.out.1), Lib.hid HV4.out.2⟩
          case measure => simp; omega
    · have hii : i = L := by omega
      have HF : Hid (RunsOwn w.heap.size wr v (joinL l)) := Lib.hid (by
        have h := HO.out
        rw [hii, HL.out, List.take_length] at h
        exact h)
      go_wp2_with fail
      go_ret
      exact ⟨v, rfl, HF.out, HB.out⟩
end Go.Proofs.YtoafmlegamjlpaaGreatDoor
