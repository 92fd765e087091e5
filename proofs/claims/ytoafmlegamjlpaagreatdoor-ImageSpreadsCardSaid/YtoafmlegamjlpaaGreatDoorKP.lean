/-
  The walks of index.Slots over noughts, and of audit's slots. No condition but what lies there.
  The walks of audit's listed, over a list of all slabs and over an empty one. No condition but what lies there.
  The walks of audit's lists and counted over free slabs. No condition but what lies there.
  The walks of audit's counted, refs, Look, Right over free slabs. No condition but what lies there.
  The walks of audit's Look and Right over free slabs. No condition but what lies there.
-/
import Derived.Test.YtoafmlegamjlpaaGreatDoorKO
set_option linter.unusedVariables false
set_option linter.unusedSimpArgs false
namespace Go.Proofs.YtoafmlegamjlpaaGreatDoor
open Go.RowKit Go.Colm Go.Cap Go.Maps
set_option linter.unusedVariables false
set_option linter.unusedSimpArgs false
section
variable {Λ : MLay} {μ : Mm} {w : World}
theorem LookM.own_not {lb : Nat} {am : Value} (h : LookM Λ μ lb am w) {k : Nat} (hk : w.heap.size ≤ k) : ¬ MOwn Λ k := h.m.own_not hk
set_option maxRecDepth 100000 in
set_option maxHeartbeats 6400000 in
theorem islots_ok (h : HasM Λ μ w) (hs : Slots0 μ) : Calls Tryz.prog 182 #[.pointer (some ⟨Λ.mb, 0, none⟩)] w fun e w' => ∃ v, e = .returned v ∧ w'.ownsRow w.heap.size 49 1 v μ.slots (List.replicate μ.slots (.int .u32 0)) ∧ MG Λ w μ w' := by
  have HOF := Lib.hid (iof_any h)
  have HG := Lib.hid (fun W (hg : MG Λ w μ W) i (hi : i < μ.slots) => tget_ok hg.has hs i hi)
  have HH := Lib.hid h
  have hn1 := okC_iff.1 h.ok
  obtain ⟨n, hn⟩ : ∃ n, n = μ.slots := ⟨_, rfl⟩
  rw [← hn] at HOF HG hn1 ⊢
  have hwr : IntKind.u32.wrap 0 = 0 := by decide
  clear h hs hn
  go_enter Tryz.func182, Tryz.ntmps182
  go_wp2_with fail
  refine HOF.out.mono ?_
  rintro e w1 ⟨rfl, hb1⟩
  obtain ⟨w2, hw2, hb2, x0, x1⟩ := tb_box Λ.mb n w1
  have HG2 : Hid (MG Λ w μ w2) := Lib.hid (((MG.refl HH.out).below hb1).below hb2)
  obtain ⟨tb, htb⟩ : ∃ tb, tb = w1.heap.size := ⟨_, rfl⟩
  rw [← htb] at x0 x1
  have HTB : Hid (w.heap.size ≤ tb ∧ Whole w2 tb 133 #[.pointer (some ⟨Λ.mb, 0, none⟩), .int .i64 (n : Int)]) := Lib.hid ⟨by have := hb1.size; omega, by rw [hw2, htb]; exact Whole.new _ _ _⟩
  clear hb1 hb2
  go_upto_region 2 with fail
  rw [← hw2, ← htb]
  clear hw2 htb
  go_wp2_with fail
  clear x0 x1
  go_loopw [4, 10] (fun s4 s10 wr => ∃ (i : Nat) (v : Value), i ≤ n ∧ s10 = .int .i64 i ∧ v = s4 ∧ Hid (MG Λ w μ wr ∧ Whole wr tb 133 #[.pointer (some ⟨Λ.mb, 0, none⟩), .int .i64 (n : Int)] ∧ wr.ownsRow w.heap.size 49 1 v i (List.replicate i (.int .u32 0)))) (fun _ s10 _ => match s10 with | .int _ m => n - m.toNat | _ => 0)
  case atStart => exact ⟨0, .slice none 0 0, Nat.zero_le _, rfl, rfl, Lib.hid ⟨HG2.out, HTB.out.2, rfl, .inl ⟨rfl, rfl⟩⟩⟩
  case round =>
    obtain ⟨i, v, hi, rfl, hv0, HR⟩ := hrel
    subst hv0
    by_cases hlt : i < n
    · have y0 : wr.cell? ⟨tb, 0, none⟩ = _ := HR.out.2.1.cell 0
      have y1 : wr.cell? ⟨tb, 1, none⟩ = _ := HR.out.2.1.cell 1
      simp only [List.getElem?_toArray, List.getElem?_cons_zero, List.getElem?_cons_succ] at y0 y1
      go_wp2_with fail
      refine (HG.out _ HR.out.1 i hlt).mono ?_
      rintro e w3 ⟨rfl, hg3⟩
      have HT3 : Hid (MG Λ w μ w3 ∧ Whole w3 tb 133 #[.pointer (some ⟨Λ.mb, 0, none⟩), .int .i64 (n : Int)] ∧ w3.ownsRow w.heap.size 49 1 v i (List.replicate i (.int .u32 0))) := Lib.hid ⟨HR.out.1.trans hg3, hg3.kept.whole HR.out.2.1 (HH.out.own_not HTB.out.1), own_stays HR.out.2.2 hg3.kept (fun k hk => HH.out.own_not (own_ge HR.out.2.2 hk).1)⟩
      clear hg3 y0 y1
      go_wp2_with (at_builtin; refine wpList_app_one one_u32 rfl _ _ rfl w.heap.size v i (List.replicate i (.int .u32 0)) rfl (own_stays HT3.out.2.2 (S := fun _ => False) ((Kept.refl _ w3).alloc _) (fun _ _ => id)) w3.heap.size (.int .u32 0) rfl ((Whole.new w3 _ _).cell 0) rfl (by omega) (by have := HT3.out.1.kept.size; simp; omega) ?_; intro v4 w4 h4 hk4; have HV4 : Hid (MG Λ w μ w4 ∧ Whole w4 tb 133 #[.pointer (some ⟨Λ.mb, 0, none⟩), .int .i64 (n : Int)] ∧ w4.ownsRow w.heap.size 49 1 v4 (i + 1) (List.replicate (i + 1) (.int .u32 0))) := Lib.hid ⟨MG.beside HH.out (HT3.out.1.alloc _) hk4 (fun k hk => (own_ge HT3.out.2.2 hk).1), hk4.whole (((Kept.refl (fun _ => False) w3).alloc _).whole HT3.out.2.1 id) (own_far HT3.out.2.2 HT3.out.2.1 (by decide)), by rw [List.replicate_succ']; exact h4⟩; clear h4 hk4)
      go_roundw
      case rel => exact ⟨i + 1, v4, hlt, by go_num, rfl, HV4⟩
      case measure => simp; omega
    · have hii : i = n := by omega
      go_wp2_with fail
      go_ret
      rw [hii] at HR
      exact ⟨v, rfl, HR.out.2.2, HR.out.1⟩
set_option maxRecDepth 100000 in
set_option maxHeartbeats 6400000 in
theorem slots_ok {lb : Nat} {am : Value} (h : LookM Λ μ lb am w) (hs : Slots0 μ) : Calls Tryz.prog 113 #[.pointer (some ⟨lb, 0, none⟩)] w fun e w' => e = .returned (.bool true) ∧ MG Λ w μ w' := by
  obtain ⟨w1, hw1⟩ : ∃ w1, w1 = (w.alloc (.cells #[.pointer (some ⟨lb, 0, none⟩)] 148)).alloc (.map #[] 0) := ⟨_, rfl⟩
  have hb1 : Below w.heap.size w w1 := by
    rw [hw1]
    exact ((Below.refl _ w).alloc (Nat.le_refl _) _).alloc (by simp) _
  have hx1 : Whole w1 w.heap.size 148 #[.pointer (some ⟨lb, 0, none⟩)] := by
    rw [hw1]
    exact ((Kept.refl (fun _ => False) _).alloc _).whole (Whole.new w _ _) id
  have c1 := hx1.cell 0
  obtain ⟨c0, _, _, _⟩ := (h.below hb1).at_.cells
  have HI := Lib.hid (islots_ok (h.below hb1).m hs)
  have HX1 := Lib.hid hx1
  have HB1 := Lib.hid hb1
  have HH := Lib.hid h
  have hn1 := okC_iff.1 h.m.ok
  obtain ⟨n, hn⟩ : ∃ n, n = μ.slots := ⟨_, rfl⟩
  rw [← hn] at HI hn1
  obtain ⟨bx, hbx⟩ : ∃ bx, bx = w.heap.size := ⟨_, rfl⟩
  rw [← hbx] at c1 HX1
  have HBX := Lib.hid hbx
  have hmm := @run_makeMap Tryz.prog
  clear h hb1 hx1 hs hn
  go_enter Tryz.func113, Tryz.ntmps113
  go_upto_region 2 with fail
  rw [← hw1, ← hbx]
  clear hw1 hmm hbx
  go_wp2_with fail
  refine HI.out.mono ?_
  rintro e w2 ⟨v, rfl, hv, hg2⟩
  obtain ⟨A, c, rfl⟩ := own_slice hv
  obtain ⟨G, rfl, hG, hcap, hcell⟩ := own_cells hv (by omega) (by decide)
  have HC : Hid (∀ i, i < n → w2.cell? ⟨G, i, none⟩ = some (.int .u32 0)) := Lib.hid (fun i hi => hcell i _ (by rw [List.getElem?_replicate_of_lt hi]))
  have HG2 : Hid (MG Λ w μ w2) := Lib.hid (((MG.refl HH.out.m).below HB1.out).trans hg2)
  have c2 := (hg2.kept.whole HX1.out (HH.out.own_not (by have := HBX.out; omega))).cell 0
  have HBO := Lib.hid (fun fn fa fb => both_nil (HH.out.on HG2.out).at_ fn fa fb)
  clear hv hg2 hcell c0 c1 hG HI
  go_wp2_with fail
  go_loop [17] (fun s17 => ∃ i : Nat, i ≤ n ∧ s17 = .int .i64 i) (fun s17 => match s17 with | .int _ m => n - m.toNat | _ => 0)
  case atStart => exact ⟨0, Nat.zero_le _, rfl⟩
  case round =>
    obtain ⟨i, hi, rfl⟩ := hrel
    by_cases hlt : i < n
    · have y := HC.out i hlt
      go_wp2_with fail
      go_round
      case rel => exact ⟨i + 1, hlt, by go_num⟩
      case measure => simp; omega
    · have hii : i = n := by omega
      go_wp2_with fail
      refine (HBO.out _ _ _).mono ?_
      rintro e w3 ⟨rfl, hb3⟩
      go_wp2_with fail
      go_ret
      exact ⟨rfl, HG2.out.below hb3⟩
end
end Go.Proofs.YtoafmlegamjlpaaGreatDoor
namespace Go.Cap
/-- All slabs are free, and listed in their order. -/
def Free0 (μ : Mm) : Prop := μ.root 3 = some 1 ∧ (∀ c, 1 ≤ c → c ≤ 9 → μ.root (3 + c) = some 0) ∧ ∀ i, i < μ.slabs → ∃ l f, getM i μ = some ⟨0, l, f, if i + 1 < μ.slabs then i + 2 else 0, i⟩
end Go.Cap
namespace Go.Proofs.YtoafmlegamjlpaaGreatDoor
open Go.RowKit Go.Colm Go.Cap Go.Maps
set_option linter.unusedVariables false
set_option linter.unusedSimpArgs false
/-- Numbers in their order. -/
def upV (n : Nat) : List Value := (List.range n).map fun i => .int .i64 ((i : Nat) : Int)
theorem upV_succ (n : Nat) : upV (n + 1) = upV n ++ [.int .i64 ((n : Nat) : Int)] := by simp [upV, List.range_succ]
theorem sl_box (x : Sl) (w : World) : ∃ w0, w0 = w.alloc (.cells #[.int .i64 (x.cls : Int), .int .i64 (x.live : Int), .int .u32 (x.free : Int), .int .i64 (x.next : Int), .int .i64 (x.prev : Int)] 224) ∧ Below w.heap.size w w0 ∧ Whole w0 w.heap.size 224 #[.int .i64 (x.cls : Int), .int .i64 (x.live : Int), .int .u32 (x.free : Int), .int .i64 (x.next : Int), .int .i64 (x.prev : Int)] :=
  ⟨_, rfl, (Below.refl _ w).alloc (Nat.le_refl _) _, Whole.new w _ _⟩
section
variable {Λ : MLay} {μ : Mm} {w : World}
set_option maxHeartbeats 3200000 in
theorem listed_none {lb : Nat} {am : Value} (h : LookM Λ μ lb am w) (c : Nat) (hc : c ≤ 9) (hr : μ.root (3 + c) = some 0) : Calls Tryz.prog 254 #[.pointer (some ⟨lb, 0, none⟩), .int .i64 (c : Int)] w fun e w' => e = .returned (.tuple #[.slice none 0 0, .bool true]) ∧ MG Λ w μ w' := by
  have hro := root_ok h.m (3 + c) 0 (by omega) hr
  rw [show ((3 + c : Nat) : Int) = 3 + (c : Int) by omega] at hro
  have HR := Lib.hid hro
  obtain ⟨c0, _, _, _⟩ := h.at_.cells
  have hwr : IntKind.i64.wrap 0 = 0 := by decide
  clear h hr hro
  go_enter Tryz.func254, Tryz.ntmps254
  go_wp2_with fail
  refine HR.out.mono ?_
  rintro e w1 ⟨rfl, hg1⟩
  have HG1 := Lib.hid hg1
  clear hg1
  go_wp2_with fail
  go_loop [6, 8] (fun s6 s8 => s6 = .slice none 0 0 ∧ s8 = .int .i64 0) (fun _ _ => 0)
  case atStart => exact ⟨rfl, rfl⟩
  case round =>
    obtain ⟨rfl, rfl⟩ := hrel
    go_wp2_with fail
    go_ret2
    exact ⟨rfl, HG1.out⟩
set_option maxRecDepth 100000 in
set_option maxHeartbeats 6400000 in
theorem listed_all {lb : Nat} {am : Value} (h : LookM Λ μ lb am w) (hf : Free0 μ) : Calls Tryz.prog 254 #[.pointer (some ⟨lb, 0, none⟩), .int .i64 0] w fun e w' => ∃ v, e = .returned (.tuple #[v, .bool true]) ∧ w'.ownsRow w.heap.size 3 1 v μ.slabs (upV μ.slabs) ∧ MG Λ w μ w' := by
  have hro : Calls Tryz.prog 180 #[.pointer (some ⟨Λ.mb, 0, none⟩), .int .i64 3] w fun e w' => e = .returned (.int .u64 1) ∧ MG Λ w μ w' := root_ok h.m 3 1 (by omega) hf.1
  have HR := Lib.hid hro
  have HGE := Lib.hid (fun W (hg : MG Λ w μ W) i (hi : i < μ.slabs) => hf.2.2 i hi)
  have HGT := Lib.hid (fun W (hg : MG Λ w μ W) i x (hx : getM i μ = some x) => lget_ok hg.has i x hx)
  have HC := Lib.hid (fun W (hg : MG Λ w μ W) => config_any hg.has)
  have HH := Lib.hid h
  obtain ⟨c0, _, _, _⟩ := h.at_.cells
  have hk := okC_iff.1 h.m.ok
  obtain ⟨n, hn⟩ : ∃ n, n = μ.slabs := ⟨_, rfl⟩
  rw [← hn] at HGE HC hk ⊢
  have hwr : IntKind.i64.wrap 1 = 1 := by decide
  clear h hf hro hn
  go_enter Tryz.func254, Tryz.ntmps254
  go_wp2_with fail
  refine HR.out.mono ?_
  rintro e w1 ⟨rfl, hg1⟩
  have HG1 := Lib.hid hg1
  clear hg1 c0
  go_wp2_with fail
  go_loopw [6, 7, 8] (fun s6 s7 s8 wr => ∃ (i : Nat) (v : Value), i ≤ n ∧ s7 = .int .i64 i ∧ s8 = .int .i64 (if i < n then (i : Int) + 1 else 0) ∧ v = s6 ∧ Hid (MG Λ w μ wr ∧ wr.ownsRow w.heap.size 3 1 v i (upV i))) (fun _ s7 _ _ => match s7 with | .int _ m => n - m.toNat | _ => 0)
  case atStart => exact ⟨0, .slice none 0 0, Nat.zero_le _, rfl, by rw [if_pos (by omega)]; rfl, rfl, Lib.hid ⟨HG1.out, rfl, .inl ⟨rfl, rfl⟩⟩⟩
  case round =>
    obtain ⟨i, v, hi, rfl, rfl, hv0, HR⟩ := hrel
    subst hv0
    by_cases hlt : i < n
    · rw [if_pos hlt]
      obtain ⟨d0, _, _, _⟩ := (HH.out.on HR.out.1).at_.cells
      obtain ⟨ll, ff, hx⟩ := HGE.out _ HR.out.1 i hlt
      have HX := Lib.hid hx
      have hz : ¬ ((i : Int) + 1 = 0) := by omega
      clear hx
      go_wp2_with fail
      refine (HGT.out _ HR.out.1 i _ HX.out).mono ?_
      rintro e w3 ⟨rfl, hg3⟩
      obtain ⟨nx, hnx⟩ : ∃ nx, nx = if i + 1 < n then i + 2 else 0 := ⟨_, rfl⟩
      rw [← hnx]
      have HNX : Hid ((nx : Int) = if i + 1 < n then ((i + 1 : Nat) : Int) + 1 else 0) := Lib.hid (by rw [hnx]; split <;> simp <;> omega)
      obtain ⟨w4, hw4, hb4, hs4⟩ := sl_box ⟨0, ll, ff, nx, i⟩ w3
      dsimp only at hw4 hs4
      rw [show ((0 : Nat) : Int) = 0 from rfl] at hw4 hs4
      unfold slV
      have HT4 : Hid (MG Λ w μ w4 ∧ w4.ownsRow w.heap.size 3 1 v i (upV i)) := Lib.hid ⟨(HR.out.1.trans hg3).below hb4, own_stays (own_stays HR.out.2 hg3.kept (fun k hk => HH.out.own_not (own_ge HR.out.2 hk).1)) (Kept.below hb4 fun _ => False) (fun _ _ => id)⟩
      have z3 : w4.cell? ⟨w3.heap.size, 3, none⟩ = _ := hs4.cell 3
      have z4 : w4.cell? ⟨w3.heap.size, 4, none⟩ = _ := hs4.cell 4
      simp only [List.getElem?_toArray, List.getElem?_cons_zero, List.getElem?_cons_succ] at z3 z4
      obtain ⟨d0, _, _, _⟩ := (HH.out.on HT4.out.1).at_.cells
      have HS4 := Lib.hid hs4
      clear hg3 hnx hb4 hs4
      obtain ⟨A, c, hvv⟩ := own_slice HT4.out.2
      subst hvv
      have hle : ¬ ((n : Int) < (i : Int)) := by omega
      go_upto_region 6 with fail
      rw [← hw4]
      clear hw4
      go_wp2_with fail
      refine (HC.out _ HT4.out.1).mono ?_
      rintro e w5 ⟨rfl, hb5⟩
      have HT5 : Hid (MG Λ w μ w5 ∧ w5.ownsRow w.heap.size 3 1 (.slice A i c) i (upV i) ∧ Whole w5 w3.heap.size 224 #[.int .i64 0, .int .i64 (ll : Int), .int .u32 (ff : Int), .int .i64 (nx : Int), .int .i64 (i : Int)]) := Lib.hid ⟨HT4.out.1.below hb5, own_stays HT4.out.2 (Kept.below hb5 fun _ => False) (fun _ _ => id), (Kept.below hb5 fun _ => False).whole HS4.out id⟩
      clear hb5 z3 z4 d0
      go_wp2_with (at_builtin; refine wpList_app_one one_int rfl _ _ rfl w.heap.size (.slice A i c) i (upV i) rfl (own_stays HT5.out.2.1 (S := fun _ => False) ((Kept.refl _ w5).alloc _) (fun _ _ => id)) w5.heap.size (.int .i64 (i : Int)) rfl ((Whole.new w5 _ _).cell 0) rfl (by omega) (by have := HT5.out.1.kept.size; simp; omega) ?_; intro v6 w6 h6 hk6; have hs6 := hk6.whole (((Kept.refl (fun _ => False) w5).alloc (.cells #[.int .i64 (i : Int)] 3)).whole HT5.out.2.2 id) (own_far HT5.out.2.1 HT5.out.2.2 (by decide)); have z6 : w6.cell? ⟨w3.heap.size, 3, none⟩ = some (.int .i64 (nx : Int)) := hs6.cell 3; have HV6 : Hid (MG Λ w μ w6 ∧ w6.ownsRow w.heap.size 3 1 v6 (i + 1) (upV (i + 1))) := Lib.hid ⟨MG.beside HH.out.m (HT5.out.1.alloc _) hk6 (fun k hk => (own_ge HT5.out.2.1 hk).1), by rw [upV_succ]; exact h6⟩; clear h6 hk6 hs6)
      go_quiet (fail)
      go_wp2_with fail
      go_roundw
      case rel => exact ⟨i + 1, v6, hlt, by go_num, by rw [HNX.out], rfl, Lib.hid ⟨HV6.out.1.drewN _, own_stays HV6.out.2 (Kept.below (below_of_drewN w6 _) fun _ => False) (fun _ _ => id)⟩⟩
      case measure => simp; omega
    · rw [if_neg hlt]
      have hii : i = n := by omega
      go_wp2_with fail
      go_ret2
      rw [hii] at HR
      exact ⟨v, rfl, HR.out.2, HR.out.1⟩
end
end Go.Proofs.YtoafmlegamjlpaaGreatDoor
namespace Go.Proofs.YtoafmlegamjlpaaGreatDoor
open Go.RowKit Go.Colm Go.Cap Go.Maps
set_option linter.unusedVariables false
set_option linter.unusedSimpArgs false
theorem upV_get (n i : Nat) (h : i < n) : (upV n)[i]? = some (.int .i64 ((i : Nat) : Int)) := by
  rw [upV, List.getElem?_map, List.getElem?_range h]
  rfl
theorem own_size {w : World} {base : Nat} {e : TypeId} {v : Value} {n : Nat} {xs : List Value} (h : w.ownsRow base e 1 v n xs) : True := trivial
section
variable {Λ : MLay} {μ : Mm} {w : World}
set_option maxRecDepth 100000 in
set_option maxHeartbeats 12800000 in
theorem lists_ok {lb : Nat} {am : Value} (h : LookM Λ μ lb am w) (hf : Free0 μ) : Calls Tryz.prog 194 #[.pointer (some ⟨lb, 0, none⟩)] w fun e w' => e = .returned (.bool true) ∧ MG Λ w μ w' := by
  have HGE := Lib.hid hf.2.2
  have HGT := Lib.hid (fun W (hg : MG Λ w μ W) i x (hx : getM i μ = some x) => lget_ok hg.has i x hx)
  have HC := Lib.hid (fun W (hg : MG Λ w μ W) => config_any hg.has)
  have HLA := Lib.hid (fun W (hg : MG Λ w μ W) => listed_all (h.on hg) hf)
  have HLN := Lib.hid (fun W (hg : MG Λ w μ W) c (h1 : 1 ≤ c) (h9 : c ≤ 9) => listed_none (h.on hg) c h9 (hf.2.1 c h1 h9))
  have HH := Lib.hid h
  have HG0 := Lib.hid (MG.refl h.m)
  have hk := okC_iff.1 h.m.ok
  obtain ⟨n, hn⟩ : ∃ n, n = μ.slabs := ⟨_, rfl⟩
  rw [← hn] at HGE HC HLA hk
  clear h hf hn
  go_enter Tryz.func194, Tryz.ntmps194
  go_wp2_with fail
  go_loopw [10] (fun s10 wr => ∃ c : Nat, c ≤ 10 ∧ s10 = .int .i64 c ∧ Hid (MG Λ w μ wr)) (fun s10 _ => match s10 with | .int _ m => 10 - m.toNat | _ => 0)
  case atStart => exact ⟨0, by omega, rfl, HG0⟩
  case round =>
    obtain ⟨c, hc, rfl, HR⟩ := hrel
    by_cases hlt : c < 10
    · obtain ⟨d0, _, _, _⟩ := (HH.out.on HR.out).at_.cells
      go_wp2_with fail
      refine (HC.out _ HR.out).mono ?_
      rintro e w2 ⟨rfl, hb2⟩
      have HG2 := Lib.hid (HR.out.below hb2)
      clear hb2 d0
      go_wp2_with fail
      by_cases hc0 : c = 0
      · subst hc0
        rw [show ((0 : Nat) : Int) = 0 from rfl]
        go_loopw [4, 19] (fun s4 s19 wr => ∃ (i : Nat) (v : Value), i ≤ n ∧ s19 = .int .i64 i ∧ v = s4 ∧ Hid (MG Λ w2 μ wr ∧ wr.ownsRow w2.heap.size 3 1 v i (upV i))) (fun _ s19 _ => match s19 with | .int _ m => n - m.toNat | _ => 0)
        case atStart => exact ⟨0, .slice none 0 0, Nat.zero_le _, rfl, rfl, Lib.hid ⟨MG.refl HG2.out.has, rfl, .inl ⟨rfl, rfl⟩⟩⟩
        case round =>
          obtain ⟨i, v, hi, rfl, hv0, HR3⟩ := hrel
          subst hv0
          by_cases hin : i < n
          · obtain ⟨d0, _, _, _⟩ := (HH.out.on (HG2.out.trans HR3.out.1)).at_.cells
            obtain ⟨ll, ff, hx⟩ := HGE.out i hin
            have HX := Lib.hid hx
            clear hx
            go_wp2_with fail
            refine (HGT.out _ (HG2.out.trans HR3.out.1) i _ HX.out).mono ?_
            rintro e w3 ⟨rfl, hg3⟩
            obtain ⟨nx, hnx⟩ : ∃ nx, nx = if i + 1 < n then i + 2 else 0 := ⟨_, rfl⟩
            rw [← hnx]
            obtain ⟨w4, hw4, hb4, hs4⟩ := sl_box ⟨0, ll, ff, nx, i⟩ w3
            dsimp only at hw4 hs4
            rw [show ((0 : Nat) : Int) = 0 from rfl] at hw4 hs4
            unfold slV
            have HT4 : Hid (MG Λ w2 μ w4 ∧ w4.ownsRow w2.heap.size 3 1 v i (upV i)) := Lib.hid ⟨(HR3.out.1.trans hg3).below hb4, own_stays (own_stays HR3.out.2 hg3.kept (fun k hk => HH.out.own_not (Nat.le_trans HG2.out.kept.size (own_ge HR3.out.2 hk).1))) (Kept.below hb4 fun _ => False) (fun _ _ => id)⟩
            have z0 : w4.cell? ⟨w3.heap.size, 0, none⟩ = some (.int .i64 0) := hs4.cell 0
            clear hg3 hnx hb4 hs4 d0
            go_upto_region 9 with fail
            rw [← hw4]
            clear hw4
            have hown : (w4.alloc (.cells #[.int .i64 (i : Int)] 3)).ownsRow w2.heap.size 3 1 v i (upV i) := own_stays HT4.out.2 (S := fun _ => False) ((Kept.refl _ w4).alloc _) (fun _ _ => id)
            have HOWN := Lib.hid hown
            have hcl : (w4.alloc (.cells #[.int .i64 (i : Int)] 3)).cell? ⟨w4.heap.size, 0, none⟩ = some (.int .i64 (i : Int)) := (Whole.new w4 _ _).cell 0
            have hsz : w2.heap.size ≤ (w4.alloc (.cells #[.int .i64 (i : Int)] 3)).heap.size := by have := HT4.out.1.kept.size; simp; omega
            have HSZ := Lib.hid hsz
            have HFIN : Hid (∀ v6 w6, w6.ownsRow w2.heap.size 3 1 v6 (i + 1) (upV i ++ [.int .i64 (i : Int)]) → Kept (fun k => v.ownBlock = some k) (w4.alloc (.cells #[.int .i64 (i : Int)] 3)) w6 → Hid (MG Λ w2 μ w6 ∧ w6.ownsRow w2.heap.size 3 1 v6 (i + 1) (upV (i + 1)))) := Lib.hid (fun v6 w6 h6 hk6 => Lib.hid ⟨MG.beside HG2.out.has (HT4.out.1.alloc _) hk6 (fun k hk => (own_ge HT4.out.2 hk).1), by rw [upV_succ]; exact h6⟩)
            have hi6 : i ≤ 1000000 := by omega
            clear hown hsz
            go_upto_region 10 with fail
            go_wp2_with (at_builtin; refine wpList_app_one one_int rfl _ _ rfl w2.heap.size v i (upV i) rfl HOWN.out w4.heap.size (.int .i64 (i : Int)) rfl hcl rfl hi6 HSZ.out ?_; intro v6 w6 h6 hk6; have HV6 := HFIN.out v6 w6 h6 hk6; clear h6 hk6)
            go_roundw
            case rel => exact ⟨i + 1, v6, hin, by go_num, rfl, HV6⟩
            case measure => simp; omega
          · have hii : i = n := by omega
            subst hii
            obtain ⟨A, cc, hvv⟩ := own_slice HR3.out.2
            subst hvv
            obtain ⟨G, hA, _, hcap, hcell⟩ := own_cells HR3.out.2 (by omega) (by decide)
            subst hA
            have HV := Lib.hid hcell
            clear hcell
            go_wp2_with fail
            refine (HLA.out _ (HG2.out.trans HR3.out.1)).mono ?_
            rintro e w5 ⟨v5, rfl, hv5, hg5⟩
            obtain ⟨A5, c5, rfl⟩ := own_slice hv5
            obtain ⟨G5, rfl, _, hcap5, hcell5⟩ := own_cells hv5 (by omega) (by decide)
            have HE5 := Lib.hid (eqints_ok (List.range i) G5 G i c5 cc w5 (by simp) (by omega) (fun j hj => by
              have hj' : j < i := by simpa using hj
              rw [hcell5 j _ (upV_get i j hj')]
              simp) (fun j hj => by
              have hj' : j < i := by simpa using hj
              rw [hg5.kept.cell (HV.out j _ (upV_get i j hj')) (HH.out.own_not (Nat.le_trans HG2.out.kept.size (own_ge (k := G) HR3.out.2 rfl).1))]
              simp))
            have HG5 := Lib.hid ((HG2.out.trans HR3.out.1).trans hg5)
            clear hv5 hg5 hcell5
            go_wp2_with fail
            refine HE5.out.mono ?_
            rintro e w7 ⟨rfl, hb7⟩
            have HG7 := Lib.hid (HG5.out.below hb7)
            clear hb7
            go_wp2_with fail
            go_roundw
            case rel => exact ⟨1, by omega, by go_num, HG7⟩
            case measure => simp
      · have hd1 : ((0 : Int) == (c : Int)) = false := by rw [beq_eq_false_iff_ne]; omega
        have hd2 : ¬ ((0 : Int) = (c : Int)) := by omega
        go_loopw [4, 19] (fun s4 s19 wr => ∃ i : Nat, i ≤ n ∧ s19 = .int .i64 i ∧ s4 = .slice none 0 0 ∧ Hid (MG Λ w μ wr)) (fun _ s19 _ => match s19 with | .int _ m => n - m.toNat | _ => 0)
        case atStart => exact ⟨0, Nat.zero_le _, rfl, rfl, HG2⟩
        case round =>
          obtain ⟨i, hi, rfl, rfl, HR3⟩ := hrel
          by_cases hin : i < n
          · obtain ⟨d0, _, _, _⟩ := (HH.out.on HR3.out).at_.cells
            obtain ⟨ll, ff, hx⟩ := HGE.out i hin
            have HX := Lib.hid hx
            clear hx
            go_wp2_with fail
            refine (HGT.out _ HR3.out i _ HX.out).mono ?_
            rintro e w3 ⟨rfl, hg3⟩
            obtain ⟨nx, hnx⟩ : ∃ nx, nx = if i + 1 < n then i + 2 else 0 := ⟨_, rfl⟩
            rw [← hnx]
            obtain ⟨w4, hw4, hb4, hs4⟩ := sl_box ⟨0, ll, ff, nx, i⟩ w3
            dsimp only at hw4 hs4
            rw [show ((0 : Nat) : Int) = 0 from rfl] at hw4 hs4
            unfold slV
            have HT4 : Hid (MG Λ w μ w4) := Lib.hid ((HR3.out.trans hg3).below hb4)
            have z0 : w4.cell? ⟨w3.heap.size, 0, none⟩ = some (.int .i64 0) := hs4.cell 0
            clear hg3 hnx hb4 hs4 d0
            go_upto_region 9 with fail
            rw [← hw4]
            clear hw4
            go_wp2_with fail
            go_roundw
            case rel => exact ⟨i + 1, hin, by go_num, rfl, HT4⟩
            case measure => simp; omega
          · have hii : i = n := by omega
            go_wp2_with fail
            refine (HLN.out _ HR3.out c (by omega) (by omega)).mono ?_
            rintro e w5 ⟨rfl, hg5⟩
            have HG5 := Lib.hid (HR3.out.trans hg5)
            clear hg5
            go_wp2_with fail
            refine (eqnil_ok _ _ _ _ _).mono ?_
            rintro e w7 ⟨rfl, rfl⟩
            go_wp2_with fail
            go_roundw
            case rel => exact ⟨c + 1, by omega, by go_num, HG5⟩
            case measure => simp; omega
    · have hcc : c = 10 := by omega
      go_wp2_with fail
      go_ret
      exact ⟨rfl, HR.out⟩
end
end Go.Proofs.YtoafmlegamjlpaaGreatDoor
namespace Go.Proofs.YtoafmlegamjlpaaGreatDoor
open Go.RowKit Go.Colm Go.Cap Go.Maps
set_option linter.unusedVariables false
set_option linter.unusedSimpArgs false
section
variable {Λ : MLay} {μ : Mm} {w : World}
theorem heldC {lb cb : Nat} {am : Value} {W : World} (hL : LookM Λ μ lb am w) (hX : w.cell? ⟨cb, 0, none⟩ = some (.int .i64 0)) (hcb : ¬ MOwn Λ cb) (h : MG Λ w μ W) : MG Λ w μ W ∧ W.cell? ⟨lb, 0, none⟩ = some (.pointer (some ⟨Λ.mb, 0, none⟩)) ∧ W.cell? ⟨cb, 0, none⟩ = some (.int .i64 0) :=
  ⟨h, (hL.on h).at_.cells.1, h.kept.cell hX hcb⟩
set_option maxRecDepth 100000 in
set_option maxHeartbeats 6400000 in
theorem counted_ok {lb : Nat} {am : Value} (h : LookM Λ μ lb am w) (hf : Free0 μ) (ck : Nat) (r17 : μ.root 17 = some 0) (r16 : μ.root 16 = some ck) (hck : ck ≤ 4611686018427387904) : Calls Tryz.prog 117 #[.pointer (some ⟨lb, 0, none⟩)] w fun e w' => e = .returned (.bool true) ∧ MG Λ w μ w' := by
  obtain ⟨w1, hw1⟩ : ∃ w1, w1 = w.alloc (.cells #[.int .i64 0] 3) := ⟨_, rfl⟩
  have hb1 : Below w.heap.size w w1 := by rw [hw1]; exact (Below.refl _ w).alloc (Nat.le_refl _) _
  have c1 : w1.cell? ⟨w.heap.size, 0, none⟩ = some (.int .i64 0) := by rw [hw1]; exact (Whole.new w _ _).cell 0
  have HB1 := Lib.hid hb1
  have HC1 := Lib.hid c1
  have HE := Lib.hid (fun t fn fa fb => each_nil (h.below hb1).at_ t fn fa fb)
  have HR : Hid (∀ W, MG Λ w μ W → Calls Tryz.prog 180 #[.pointer (some ⟨Λ.mb, 0, none⟩), .int .i64 17] W fun e w' => e = .returned (.int .u64 0) ∧ MG Λ W μ w') := Lib.hid (fun W hg => root_ok hg.has 17 0 (by decide) r17)
  have HR' : Hid (∀ W, MG Λ w μ W → Calls Tryz.prog 180 #[.pointer (some ⟨Λ.mb, 0, none⟩), .int .i64 16] W fun e w' => e = .returned (.int .u64 (ck : Int)) ∧ MG Λ W μ w') := Lib.hid (fun W hg => root_ok hg.has 16 ck (by decide) r16)
  have HLI : Hid (∀ W, MG Λ w μ W → Calls Tryz.prog 194 #[.pointer (some ⟨lb, 0, none⟩)] W fun e w' => e = .returned (.bool true) ∧ MG Λ W μ w') := Lib.hid (fun W hg => lists_ok (h.on hg) hf)
  have HH := Lib.hid h
  have hd : decide ((ck : Int) ≤ 4611686018427387904) = true := by simp; omega
  have hwr : IntKind.u64.wrap 0 = 0 := by decide
  clear h hb1 c1 hf r17 r16 hck
  go_enter Tryz.func117, Tryz.ntmps117
  go_upto_region 2 with fail
  rw [← hw1]
  clear hw1
  go_wp2_with fail
  refine (HE.out _ _ _ _).mono ?_
  rintro e w2 ⟨rfl, hb2⟩
  have HM2 : Hid (MG Λ w μ w2) := Lib.hid (((MG.refl HH.out.m).below HB1.out).below hb2)
  have HL2 := Lib.hid (HH.out.on HM2.out)
  have hc2 := cell_on HC1.out hb2
  have HR4 := Lib.hid (fun W (h : MG Λ w2 μ W) => heldC HL2.out hc2 (HH.out.m.own_not (Nat.le_refl _)) h)
  obtain ⟨cb, hcb⟩ : ∃ cb, cb = w.heap.size := ⟨_, rfl⟩
  rw [← hcb] at HR4 ⊢
  have HRA := Lib.hid (fun W (h : MG Λ w2 μ W) => HR.out W (HM2.out.trans h))
  have HRB := Lib.hid (fun W (h : MG Λ w2 μ W) => HR'.out W (HM2.out.trans h))
  have HRC := Lib.hid (fun W (h : MG Λ w2 μ W) => HLI.out W (HM2.out.trans h))
  have hs4 := HR4.out _ (MG.refl HL2.out.m).drew
  clear hb2 hc2 hcb HE
  go_upto_region 3 with fail
  go_region_held3 (fun w' => MG Λ w2 μ w' ∧ w'.cell? ⟨lb, 0, none⟩ = some (.pointer (some ⟨Λ.mb, 0, none⟩)) ∧ w'.cell? ⟨cb, 0, none⟩ = some (.int .i64 0))
    (first | exact hs4 | assumption | exact HR4.out _ (MG.trans (And.left (by assumption)) (by assumption)))
    (first
      | ((go_at_call 180; with_reducible refine (HRA.out _ (And.left (by assumption))).mono ?_); rintro e w5 ⟨rfl, hg5⟩)
      | ((go_at_call 180; with_reducible refine (HRB.out _ (And.left (by assumption))).mono ?_); rintro e w5 ⟨rfl, hg5⟩)
      | ((go_at_call 194; with_reducible refine (HRC.out _ (And.left (by assumption))).mono ?_); rintro e w5 ⟨rfl, hg5⟩))
  have HM5 : Hid (MG Λ w2 μ w5) := Lib.hid (And.left (by assumption))
  go_wp2_with fail
  go_ret
  exact ⟨rfl, HM2.out.trans HM5.out⟩
set_option maxHeartbeats 1600000 in
theorem refs_ok {lb : Nat} {am : Value} (h : LookM Λ μ lb am w) : Calls Tryz.prog 109 #[.pointer (some ⟨lb, 0, none⟩)] w fun e w' => (∃ m, e = .returned (.map (some m))) ∧ MG Λ w μ w' := by
  obtain ⟨w1, hw1⟩ : ∃ w1, w1 = w.alloc (.map #[] 0) := ⟨_, rfl⟩
  have hb1 : Below w.heap.size w w1 := by rw [hw1]; exact (Below.refl _ w).alloc (Nat.le_refl _) _
  obtain ⟨_, c1, _, _⟩ := (h.below hb1).at_.cells
  have HM := Lib.hid ((MG.refl h.m).below hb1)
  have hmm := @run_makeMap Tryz.prog
  clear h hb1
  go_enter Tryz.func109, Tryz.ntmps109
  go_upto_region 2 with fail
  rw [← hw1]
  clear hw1 hmm
  go_wp2_with fail
  go_loop [12] (fun s12 => s12 = .int .i64 0) (fun _ => 0)
  case atStart => rfl
  case round =>
    obtain rfl := hrel
    go_wp2_with fail
    go_ret
    exact ⟨⟨_, rfl⟩, HM.out⟩
end
end Go.Proofs.YtoafmlegamjlpaaGreatDoor
namespace Go.Proofs.YtoafmlegamjlpaaGreatDoor
open Go.RowKit Go.Colm Go.Cap Go.Maps
set_option linter.unusedVariables false
set_option linter.unusedSimpArgs false
/-- A memory that holds nothing, and is right. -/
structure Empty (μ : Mm) : Prop where
  free : ∀ sl, sl < μ.slabs → FreeAt μ.b μ.slabs μ.slots sl
  kinds : allK μ.k (μ.size / 4) = mapR μ.slabs μ.slots
  some_ : 1 ≤ (mapR μ.slabs μ.slots).length
  few : (mapR μ.slabs μ.slots).length ≤ 100
  lists : Free0 μ
  slots : Slots0 μ
  r13 : μ.root 13 = some 0
  r14 : μ.root 14 = some 0
  r15 : μ.root 15 = some 0
  r17 : μ.root 17 = some 0
  r16 : ∃ ck, μ.root 16 = some ck ∧ ck ≤ 4611686018427387904
section
variable {Λ : MLay} {μ : Mm} {w : World}
set_option maxRecDepth 100000 in
set_option maxHeartbeats 12800000 in
theorem alook_ok (h : HasM Λ μ w) (hE : Empty μ) : Calls Tryz.prog 60 #[.pointer (some ⟨Λ.mb, 0, none⟩)] w fun e w' => e = .returned (.slice none 0 0) ∧ MG Λ w μ w' := by
  obtain ⟨ck, r16, hck⟩ := hE.r16
  have HC := Lib.hid (fun W (hg : MG Λ w μ W) => config_any hg.has)
  have HS := Lib.hid (fun W (hg : MG Λ w μ W) => size_any μ.slabs μ.slots W hg.has.env.szs h.ok)
  have HA := Lib.hid (fun W (hg : MG Λ w μ W) => agree_ok hg.has hE.free hE.kinds hE.some_ (by have := hE.few; omega))
  have HRD := Lib.hid (fun lb am W (hg : LookM Λ μ lb am W) i (hi : i < μ.slabs) => read_ok hg i ⟨0, _, _, _, _⟩ (hE.lists.2.2 i hi).choose_spec.choose_spec rfl)
  have HCT := Lib.hid (fun lb am W (hg : LookM Λ μ lb am W) => counted_ok hg hE.lists ck hE.r17 r16 hck)
  have HRI := Lib.hid (fun lb am W (hg : LookM Λ μ lb am W) => ring_ok hg hE.r13 hE.r14 hE.r15)
  have HSL := Lib.hid (fun lb am W (hg : LookM Λ μ lb am W) => slots_ok hg hE.slots)
  have HH := Lib.hid h
  have hk := okC_iff.1 h.ok
  have hz := (sizeC_le h.ok).2.1
  have HM0 := Lib.hid (MG.refl h)
  obtain ⟨n, hn⟩ : ∃ n, n = μ.slabs := ⟨_, rfl⟩
  rw [← hn] at HC HS HRD hk hz
  obtain ⟨z, hzz⟩ : ∃ z, z = sizeC n μ.slots := ⟨_, rfl⟩
  rw [← hzz] at HS hz
  have hz0 : ¬ ((z : Int) = 0) := by omega
  have hz1 : ((z : Int) == 0) = false := by rw [beq_eq_false_iff_ne]; exact hz0
  clear h hE r16 hck hn hzz
  go_enter Tryz.func60, Tryz.ntmps60
  go_wp2_with fail
  refine (HC.out _ HM0.out).mono ?_
  rintro e w1 ⟨rfl, hb1⟩
  have HM1 := Lib.hid (HM0.out.below hb1)
  clear hb1
  go_wp2_with fail
  refine (HS.out _ HM1.out).mono ?_
  rintro e w2 ⟨rfl, hb2⟩
  have HM2 := Lib.hid (HM1.out.below hb2)
  clear hb2
  go_wp2_with fail
  refine (HA.out _ HM2.out).mono ?_
  rintro e w3 ⟨rfl, hb3⟩
  have HM3 := Lib.hid (HM2.out.below hb3)
  clear hb3
  obtain ⟨w4, hw4⟩ : ∃ w4, w4 = (w3.alloc (.map #[] 0)).alloc (.cells #[.pointer (some ⟨Λ.mb, 0, none⟩), .slice none 0 0, .map (some w3.heap.size), .slice none 0 0] 152) := ⟨_, rfl⟩
  have hb4 : Below w3.heap.size w3 w4 := by rw [hw4]; exact ((Below.refl _ _).alloc (Nat.le_refl _) _).alloc (by simp) _
  have hlk : LookM Λ μ (w3.heap.size + 1) (.map (some w3.heap.size)) w4 := by
    refine ⟨(HM3.out.below hb4).has, ?_, HM3.out.has.own_not (Nat.le_succ _)⟩
    have h := Whole.new (w3.alloc (.map #[] 0)) 152 #[.pointer (some ⟨Λ.mb, 0, none⟩), .slice none 0 0, .map (some w3.heap.size), .slice none 0 0]
    rw [World.size_alloc, ← hw4] at h
    exact h
  have HM4 := Lib.hid (HM3.out.below hb4)
  have HK4 := Lib.hid hlk
  have hmm := @run_makeMap Tryz.prog
  clear hb4 hlk
  go_upto_region 4 with fail
  rw [← hw4]
  try simp only [World.size_alloc]
  clear hw4 hmm
  obtain ⟨lb, hlb⟩ : ∃ lb, lb = w3.heap.size + 1 := ⟨_, rfl⟩
  obtain ⟨am, ham⟩ : ∃ am, am = Value.map (some w3.heap.size) := ⟨_, rfl⟩
  rw [← hlb, ← ham] at HK4
  rw [← hlb]
  clear hlb ham
  go_wp2_with fail
  refine (HC.out _ HM4.out).mono ?_
  rintro e w5 ⟨rfl, hb5⟩
  have HK5 : Hid (MG Λ w μ w5 ∧ LookM Λ μ lb am w5) := Lib.hid ⟨HM4.out.below hb5, HK4.out.below hb5⟩
  clear hb5
  go_wp2_with fail
  go_loopw [4, 25] (fun s4 s25 wr => ∃ i : Nat, i ≤ n ∧ s25 = .int .i64 i ∧ s4 = .bool true ∧ Hid (MG Λ w μ wr ∧ LookM Λ μ lb am wr)) (fun _ s25 _ => match s25 with | .int _ m => n - m.toNat | _ => 0)
  case atStart => exact ⟨0, Nat.zero_le _, rfl, rfl, HK5⟩
  case round =>
    obtain ⟨i, hi, rfl, rfl, HR⟩ := hrel
    by_cases hlt : i < n
    · go_wp2_with fail
      refine (HRD.out _ _ _ HR.out.2 i hlt).mono ?_
      rintro e w6 ⟨rfl, hg6⟩
      have HK6 : Hid (MG Λ w μ w6 ∧ LookM Λ μ lb am w6) := Lib.hid ⟨HR.out.1.trans hg6, HR.out.2.on hg6⟩
      clear hg6
      go_wp2_with fail
      go_roundw
      case rel => exact ⟨i + 1, hlt, by go_num, rfl, HK6⟩
      case measure => simp; omega
    · have hii : i = n := by omega
      have HSTEP : Hid (∀ {W W' : World}, MG Λ w μ W ∧ LookM Λ μ lb am W → MG Λ W μ W' → MG Λ w μ W' ∧ LookM Λ μ lb am W') := Lib.hid (fun h k => ⟨h.1.trans k, h.2.on k⟩)
      have HBO : Hid (∀ W, MG Λ w μ W ∧ LookM Λ μ lb am W → ∀ fn fa fb, Calls Tryz.prog 106 #[.pointer (some ⟨lb, 0, none⟩), .func fn fa fb] W fun e w' => e = .returned (.bool true) ∧ (MG Λ w μ w' ∧ LookM Λ μ lb am w')) := Lib.hid (fun W h fn fa fb => (both_nil h.2.at_ fn fa fb).mono fun e w' k => ⟨k.1, h.1.below k.2, h.2.below k.2⟩)
      have HEA : Hid (∀ W, MG Λ w μ W ∧ LookM Λ μ lb am W → ∀ t fn fa fb, Calls Tryz.prog 110 #[.pointer (some ⟨lb, 0, none⟩), .int .i64 t, .func fn fa fb] W fun e w' => e = .returned (.bool true) ∧ (MG Λ w μ w' ∧ LookM Λ μ lb am w')) := Lib.hid (fun W h t fn fa fb => (each_nil h.2.at_ t fn fa fb).mono fun e w' k => ⟨k.1, h.1.below k.2, h.2.below k.2⟩)
      have HON : Hid (∀ W, MG Λ w μ W ∧ LookM Λ μ lb am W → Calls Tryz.prog 114 #[.pointer (some ⟨lb, 0, none⟩)] W fun e w' => e = .returned (.bool true) ∧ (MG Λ w μ w' ∧ LookM Λ μ lb am w')) := Lib.hid (fun W h => (once_ok h.2).mono fun e w' k => ⟨k.1, h.1.below k.2, h.2.below k.2⟩)
      go_wp2_with fail
      refine (HBO.out _ HR.out _ _ _).mono ?_
      rintro e w7 ⟨rfl, hk7⟩
      have HK7 := Lib.hid hk7
      clear hk7
      go_wp2_with fail
      refine (tell_true _ _ _).mono ?_
      rintro e w8 ⟨⟨v8, rfl⟩, rfl⟩
      go_wp2_with fail
      refine (tell_true _ _ _).mono ?_
      rintro e w9 ⟨⟨v9, rfl⟩, rfl⟩
      go_wp2_with fail
      refine (refs_ok HK7.out.2).mono ?_
      rintro e w10 ⟨⟨m, rfl⟩, hk10⟩
      have HK10 := Lib.hid (HSTEP.out HK7.out hk10)
      clear hk10
      obtain ⟨wb, hwb⟩ : ∃ wb, wb = w10.alloc (.cells #[.map (some m)] 156) := ⟨_, rfl⟩
      have HKB : Hid (MG Λ w μ wb ∧ LookM Λ μ lb am wb) := Lib.hid (HSTEP.out HK10.out (by rw [hwb]; exact (MG.refl HK10.out.1.has).alloc _))
      go_upto_region 15 with fail
      rw [← hwb]
      clear hwb
      go_wp2_with fail
      refine (HEA.out _ HKB.out _ _ _ _).mono ?_
      rintro e w11 ⟨rfl, hk11⟩
      have HK11 := Lib.hid hk11
      clear hk11
      go_wp2_with fail
      refine (tell_true _ _ _).mono ?_
      rintro e w12 ⟨⟨v12, rfl⟩, rfl⟩
      go_wp2_with fail
      refine (HRI.out _ _ _ HK11.out.2).mono ?_
      rintro e w13 ⟨rfl, hk13⟩
      have HK13 := Lib.hid (HSTEP.out HK11.out hk13)
      clear hk13
      go_wp2_with fail
      refine (tell_true _ _ _).mono ?_
      rintro e w14 ⟨⟨v14, rfl⟩, rfl⟩
      go_wp2_with fail
      refine (HSL.out _ _ _ HK13.out.2).mono ?_
      rintro e w15 ⟨rfl, hk15⟩
      have HK15 := Lib.hid (HSTEP.out HK13.out hk15)
      clear hk15
      go_wp2_with fail
      refine (tell_true _ _ _).mono ?_
      rintro e w16 ⟨⟨v16, rfl⟩, rfl⟩
      go_wp2_with fail
      refine (HON.out _ HK15.out).mono ?_
      rintro e w17 ⟨rfl, hk17⟩
      have HK17 := Lib.hid hk17
      clear hk17
      go_wp2_with fail
      refine (tell_true _ _ _).mono ?_
      rintro e w18 ⟨⟨v18, rfl⟩, rfl⟩
      go_wp2_with fail
      refine (HBO.out _ HK17.out _ _ _).mono ?_
      rintro e w19 ⟨rfl, hk19⟩
      have HK19 := Lib.hid hk19
      clear hk19
      go_wp2_with fail
      refine (tell_true _ _ _).mono ?_
      rintro e w20 ⟨⟨v20, rfl⟩, rfl⟩
      go_wp2_with fail
      refine (HBO.out _ HK19.out _ _ _).mono ?_
      rintro e w21 ⟨rfl, hk21⟩
      have HK21 := Lib.hid hk21
      clear hk21
      go_wp2_with fail
      refine (tell_true _ _ _).mono ?_
      rintro e w22 ⟨⟨v22, rfl⟩, rfl⟩
      go_wp2_with fail
      refine (HCT.out _ _ _ HK21.out.2).mono ?_
      rintro e w23 ⟨rfl, hk23⟩
      have HK23 := Lib.hid (HSTEP.out HK21.out hk23)
      clear hk23
      go_wp2_with fail
      refine (tell_true _ _ _).mono ?_
      rintro e w24 ⟨⟨v24, rfl⟩, rfl⟩
      obtain ⟨_, _, _, t3⟩ := HK23.out.2.at_.cells
      go_wp2_with fail
      go_ret
      exact ⟨rfl, HK23.out.1⟩
set_option maxHeartbeats 1600000 in
theorem aright_ok (h : HasM Λ μ w) (hE : Empty μ) : Calls Tryz.prog 36 #[.pointer (some ⟨Λ.mb, 0, none⟩)] w fun e w' => e = .returned (.bool true) ∧ MG Λ w μ w' := by
  have HL := Lib.hid (alook_ok h hE)
  clear h hE
  go_enter Tryz.func36, Tryz.ntmps36
  go_wp2_with fail
  refine HL.out.mono ?_
  rintro e w1 ⟨rfl, hg⟩
  go_wp2_with fail
  go_ret
  exact ⟨rfl, hg⟩
end
end Go.Proofs.YtoafmlegamjlpaaGreatDoor
