/-
  The walks of slices.Equal over numbers, region.Agree, and audit's each and both over no block. No condition but what lies there.
  The walks of slab.Live over a free slab, audit's tell of what is right, and read. No condition but what lies there.
  The walks of audit's once and ring over no block. No condition but what lies there.
  The walks of index's get and Slots over noughts, and of audit's slots. No condition but what lies there.
-/
import Derived.Test.YtoafmlegamjlpaaGreatDoorKN
set_option linter.unusedVariables false
set_option linter.unusedSimpArgs false
namespace Go.Proofs.YtoafmlegamjlpaaGreatDoor
open Go.RowKit Go.Colm Go.Cap Go.Maps
set_option linter.unusedVariables false
set_option linter.unusedSimpArgs false
set_option maxHeartbeats 1600000 in
theorem eqnil_ok (A A' : Option Addr) (c c' : Nat) (w : World) :
    Calls Tryz.prog 255 #[.slice A 0 c, .slice A' 0 c'] w fun e w' => e = .returned (.bool true) ∧ w' = w := by
  go_enter Tryz.func255, Tryz.ntmps255
  go_wp2_with fail
  go_loop [4, 13] (fun s4 s13 => s4 = .bool false ∧ s13 = .int .i64 0) (fun _ _ => 0)
  case atStart => exact ⟨rfl, rfl⟩
  case round =>
    obtain ⟨rfl, rfl⟩ := hrel
    go_wp2_with fail
    go_ret
    exact ⟨rfl, rfl⟩
set_option maxRecDepth 100000 in
set_option maxHeartbeats 3200000 in
theorem eqints_ok (l : List Nat) (G G' L c c' : Nat) (w : World) (hl : L = l.length) (hm : L < 1000000)
    (h : ∀ i (hi : i < l.length), w.cell? ⟨G, i, none⟩ = some (.int .i64 (l[i] : Int))) (h' : ∀ i (hi : i < l.length), w.cell? ⟨G', i, none⟩ = some (.int .i64 (l[i] : Int))) :
    Calls Tryz.prog 255 #[.slice (some ⟨G, 0, none⟩) L c, .slice (some ⟨G', 0, none⟩) L c'] w fun e w' => e = .returned (.bool true) ∧ Below w.heap.size w w' := by
  have H := Lib.hid h
  have H' := Lib.hid h'
  have HL := Lib.hid hl
  have HB0 := Lib.hid (Below.refl w.heap.size w)
  clear h h' hl
  go_enter Tryz.func255, Tryz.ntmps255
  go_wp2_with fail
  go_loopw [4, 13] (fun _ s13 wr => ∃ i : Nat, i ≤ L ∧ s13 = .int .i64 i ∧ Hid (Below w.heap.size w wr)) (fun _ s13 _ => match s13 with | .int _ m => L - m.toNat | _ => 0)
  case atStart => exact ⟨0, Nat.zero_le _, rfl, HB0⟩
  case round =>
    obtain ⟨i, hi, rfl, HG⟩ := hrel
    by_cases hlt : i < L
    · have hlt2 : i < l.length := by have := HL.out; omega
      have d0 := cell_on (H.out i hlt2) HG.out
      have q0 := cell_on (H'.out i hlt2) HG.out
      obtain ⟨r, hr⟩ : ∃ r, r = l[i] := ⟨_, rfl⟩
      rw [← hr] at d0 q0
      clear hr
      go_wp2_with fail
      go_quiet (fail)
      clear d0 q0
      go_wp2_with fail
      go_roundw
      case rel => exact ⟨i + 1, hlt, by go_num, Lib.hid (below_drewN HG.out _)⟩
      case measure => simp; omega
    · have hii : i = L := by omega
      go_wp2_with fail
      go_ret
      exact ⟨rfl, HG.out⟩
section
variable {Λ : MLay} {μ : Mm} {w : World}
set_option maxHeartbeats 1600000 in
theorem agree_ok (h : HasM Λ μ w) (hf : ∀ sl, sl < μ.slabs → FreeAt μ.b μ.slabs μ.slots sl) (hA : allK μ.k (μ.size / 4) = mapR μ.slabs μ.slots) (h1 : 1 ≤ (mapR μ.slabs μ.slots).length) (h2 : (mapR μ.slabs μ.slots).length ≤ 1000) :
    Calls Tryz.prog 104 #[.pointer (some ⟨Λ.mb, 0, none⟩)] w fun e w' => e = .returned (.bool true) ∧ Below w.heap.size w w' := by
  have HM := Lib.hid (map_ok h hf)
  have HR := Lib.hid (fun (W : World) (hb : Below w.heap.size w W) => by
    have q := mruns_ok (h.below hb) (by rw [hA]; omega)
    rw [hA] at q
    exact q)
  obtain ⟨l, hl⟩ : ∃ l, l = mapR μ.slabs μ.slots := ⟨_, rfl⟩
  rw [← hl] at HM HR h1 h2
  clear h hf hA hl
  go_enter Tryz.func104, Tryz.ntmps104
  go_wp2_with fail
  refine HM.out.mono ?_
  rintro e w1 ⟨v, rfl, hv, hb1⟩
  obtain ⟨A, c, rfl⟩ := hv.slice
  obtain ⟨G, rfl, hG, hcap, hcell⟩ := own_cells hv h1 (by decide)
  have HV := Lib.hid hcell
  have HB1 := Lib.hid hb1
  clear hv hcell hb1
  go_wp2_with fail
  refine (HR.out _ HB1.out).mono ?_
  rintro e w2 ⟨v, rfl, hv, hb2⟩
  obtain ⟨A, c2, rfl⟩ := hv.slice
  obtain ⟨G2, rfl, hG2, hcap2, hcell2⟩ := own_cells hv h1 (by decide)
  have HV2 := Lib.hid hcell2
  have HB2 := Lib.hid hb2
  clear hv hcell2 hb2
  go_wp2_with fail
  refine (eqruns_ok l G G2 l.length c c2 w2 rfl hcap hcap2 (by omega) (fun i v hi => cell_on (HV.out i v hi) HB2.out) HV2.out).mono ?_
  rintro e w3 ⟨rfl, hb3⟩
  have HB3 := Lib.hid (below_chain (below_chain HB1.out HB2.out) hb3)
  clear hb3
  go_wp2_with fail
  go_ret
  exact ⟨rfl, HB3.out⟩
end
set_option maxHeartbeats 800000 in
theorem bidx_nil (c : Nat) (f : Value) (w : World) : Calls Tryz.prog 244 #[.slice none 0 c, f] w fun e w' => e = .returned (.int .i64 (-1)) ∧ w' = w := by
  go_enter Tryz.func244, Tryz.ntmps244
  go_wp2_with fail
  go_loop [4, 8] (fun s4 s8 => s4 = .int .i64 0 ∧ s8 = .int .i64 0) (fun _ _ => 0)
  case atStart => exact ⟨rfl, rfl⟩
  case round =>
    obtain ⟨rfl, rfl⟩ := hrel
    go_wp2_with fail
    go_ret
    exact ⟨rfl, rfl⟩
set_option maxHeartbeats 800000 in
theorem bcont_nil (c : Nat) (f : Value) (w : World) : Calls Tryz.prog 178 #[.slice none 0 c, f] w fun e w' => e = .returned (.bool false) ∧ w' = w := by
  have HI := Lib.hid (bidx_nil c f w)
  go_enter Tryz.func178, Tryz.ntmps178
  go_wp2_with fail
  refine HI.out.mono ?_
  rintro e w1 ⟨rfl, rfl⟩
  go_wp2_with fail
  go_ret
  exact ⟨rfl, rfl⟩
/-- A look over no block, nothing told. -/
def LookAt (mb lb : Nat) (am : Value) (w : World) : Prop := Whole w lb 152 #[.pointer (some ⟨mb, 0, none⟩), .slice none 0 0, am, .slice none 0 0]
theorem LookAt.below {mb lb : Nat} {am : Value} {w w' : World} {B : Nat} (h : LookAt mb lb am w) (hb : Below B w w') (hB : B = w.heap.size) : LookAt mb lb am w' := by
  subst hB
  exact (Kept.below hb fun _ => False).whole h id
theorem LookAt.cells {mb lb : Nat} {am : Value} {w : World} (h : LookAt mb lb am w) : w.cell? ⟨lb, 0, none⟩ = some (.pointer (some ⟨mb, 0, none⟩)) ∧ w.cell? ⟨lb, 1, none⟩ = some (.slice none 0 0) ∧ w.cell? ⟨lb, 2, none⟩ = some am ∧ w.cell? ⟨lb, 3, none⟩ = some (.slice none 0 0) :=
  ⟨h.cell 0, h.cell 1, h.cell 2, h.cell 3⟩
set_option maxHeartbeats 1600000 in
theorem each_nil {mb lb : Nat} {am : Value} {w : World} (h : LookAt mb lb am w) (tag : Int) (fn : Fn) (fa fb : Array Value) : Calls Tryz.prog 110 #[.pointer (some ⟨lb, 0, none⟩), .int .i64 tag, .func fn fa fb] w fun e w' => e = .returned (.bool true) ∧ Below w.heap.size w w' := by
  obtain ⟨w1, hw1⟩ : ∃ w1, w1 = w.alloc (.cells #[.int .i64 tag] 3) := ⟨_, rfl⟩
  obtain ⟨w0, hw0⟩ : ∃ w0, w0 = w1.alloc (.cells #[.func fn fa fb] 154) := ⟨_, rfl⟩
  have hb0 : Below w.heap.size w w0 := by
    rw [hw0, hw1]
    exact ((Below.refl _ w).alloc (Nat.le_refl _) _).alloc (by simp) _
  obtain ⟨_, c1, _, _⟩ := (h.below hb0 rfl).cells
  have HB0 := Lib.hid hb0
  rw [hw1] at hw0
  clear h hb0 hw1
  go_enter Tryz.func110, Tryz.ntmps110
  go_upto_region 1 with fail
  rw [← hw0]
  clear hw0
  go_wp2_with fail
  refine (bcont_nil _ _ _).mono ?_
  rintro e w2 ⟨rfl, rfl⟩
  go_wp2_with fail
  go_ret
  exact ⟨rfl, HB0.out⟩
set_option maxHeartbeats 1600000 in
theorem both_nil {mb lb : Nat} {am : Value} {w : World} (h : LookAt mb lb am w) (fn : Fn) (fa fb : Array Value) : Calls Tryz.prog 106 #[.pointer (some ⟨lb, 0, none⟩), .func fn fa fb] w fun e w' => e = .returned (.bool true) ∧ Below w.heap.size w w' := by
  have HE := Lib.hid (fun (W : World) (hb : Below w.heap.size w W) (t : Int) => each_nil (h.below hb rfl) t fn fa fb)
  clear h
  go_enter Tryz.func106, Tryz.ntmps106
  go_wp2_with fail
  refine (HE.out _ (Below.refl _ _) _).mono ?_
  rintro e w1 ⟨rfl, hb1⟩
  have HB1 := Lib.hid hb1
  clear hb1
  go_wp2_with fail
  refine (HE.out _ HB1.out _).mono ?_
  rintro e w2 ⟨rfl, hb2⟩
  have HB2 := Lib.hid (below_chain HB1.out hb2)
  clear hb2
  go_wp2_with fail
  go_ret
  exact ⟨rfl, HB2.out⟩
end Go.Proofs.YtoafmlegamjlpaaGreatDoor
namespace Go.Proofs.YtoafmlegamjlpaaGreatDoor
open Go.RowKit Go.Colm Go.Cap Go.Maps
set_option linter.unusedVariables false
set_option linter.unusedSimpArgs false
set_option maxHeartbeats 1600000 in
theorem peach_zero (mb s a : Nat) (x : Sl) (hx : x.cls = 0) (fn : Fn) (fa fb : Array Value) (w : World) (hs : Sz w) : Calls Tryz.prog 233 #[.agg (ptV mb s a x), .func fn fa fb] w fun e w' => (∃ v, e = .returned v) ∧ Below w.heap.size w w' := by
  obtain ⟨w0, hw0⟩ : ∃ w0, w0 = w.alloc (.cells (ptV mb s a x) 278) := ⟨_, rfl⟩
  have hb0 : Below w.heap.size w w0 := by rw [hw0]; exact (Below.refl _ w).alloc (Nat.le_refl _) _
  have hr0 : Whole w0 w.heap.size 278 (ptV mb s a x) := by rw [hw0]; exact Whole.new w _ _
  have r3 := hr0.cell 3
  simp only [ptV, List.getElem?_toArray, List.getElem?_cons_zero, List.getElem?_cons_succ] at r3
  have HB0 := Lib.hid hb0
  have HBL := Lib.hid (blocks_any x.cls w0 (hs.below hb0))
  have hz : blocksC x.cls = 0 := by rw [hx]; rfl
  rw [hz] at HBL
  unfold ptV at hw0 ⊢
  clear hr0 hb0 hs hz hx
  go_enter Tryz.func233, Tryz.ntmps233
  go_upto_region 1 with fail
  rw [← hw0]
  clear hw0
  go_wp2_with fail
  refine HBL.out.mono ?_
  rintro e w2 ⟨rfl, rfl⟩
  go_wp2_with fail
  go_loop [11] (fun s11 => s11 = .int .i64 0) (fun _ => 0)
  case atStart => rfl
  case round =>
    obtain rfl := hrel
    go_wp2_with fail
    go_end0
    exact ⟨⟨_, rfl⟩, HB0.out⟩
section
variable {Λ : MLay} {μ : Mm} {w : World}
set_option maxHeartbeats 1600000 in
theorem slive_zero (h : HasM Λ μ w) (s : Nat) (x : Sl) (hv : getM s μ = some x) (hx : x.cls = 0) : Calls Tryz.prog 174 #[.pointer (some ⟨Λ.mb, 0, none⟩), .int .i64 (s : Int)] w fun e w' => e = .returned (.slice none 0 0) ∧ MG Λ w μ w' := by
  have HP := Lib.hid (pof_ok h s x hv)
  have HX := Lib.hid hx
  obtain ⟨a, ha⟩ : ∃ a, a = slabAtM μ s := ⟨_, rfl⟩
  rw [← ha] at HP
  unfold ptV at HP
  clear h hv hx ha
  go_enter Tryz.func174, Tryz.ntmps174
  go_wp2_with fail
  refine HP.out.mono ?_
  rintro e w1 ⟨rfl, hg1⟩
  obtain ⟨w2, hw2⟩ : ∃ w2, w2 = w1.alloc (.cells (ptV Λ.mb s a x) 278) := ⟨_, rfl⟩
  have hb2 : Below w1.heap.size w1 w2 := by rw [hw2]; exact (Below.refl _ _).alloc (Nat.le_refl _) _
  have hr2 : Whole w2 w1.heap.size 278 (ptV Λ.mb s a x) := by rw [hw2]; exact Whole.new _ _ _
  obtain ⟨w3, hw3⟩ : ∃ w3, w3 = w2.alloc (.cells #[.slice none 0 0] 65) := ⟨_, rfl⟩
  have hb3 : Below w2.heap.size w2 w3 := by rw [hw3]; exact (Below.refl _ _).alloc (Nat.le_refl _) _
  have hl3 : w3.cell? ⟨w2.heap.size, 0, none⟩ = some (.slice none 0 0) := by rw [hw3]; exact (Whole.new _ _ _).cell 0
  have hr3 := (Kept.below hb3 fun _ => False).whole hr2 id
  have hg3 : MG Λ w μ w3 := (hg1.below hb2).below hb3
  have HG3 := Lib.hid hg3
  have HE := Lib.hid (fun fn fa fb => peach_zero Λ.mb s a x HX.out fn fa fb w3 hg3.has.env.szs)
  unfold ptV at hr3 hw2 HE
  obtain ⟨r0, r1, r2, r3, r4, r5, r6, r7⟩ := whole_cells hr3
  have hz2 : w2.heap.size = w1.heap.size + 1 := by rw [hw2]; simp
  rw [hw2] at hw3
  rw [hz2] at hl3
  clear hb2 hb3 hg1 hg3 hr2 hr3 hw2 hz2 HX HP
  go_upto_region 3 with fail
  rw [← hw3]
  try simp only [World.size_alloc]
  clear hw3
  go_wp2_with fail
  refine (HE.out _ _ _).mono ?_
  rintro e w4 ⟨⟨v, rfl⟩, hb4⟩
  have hl4 := cell_on hl3 hb4
  have HG4 := Lib.hid (HG3.out.below hb4)
  clear hb4 hl3 r0 r1 r2 r3 r4 r5 r6 r7
  go_wp2_with fail
  go_ret
  exact ⟨rfl, HG4.out⟩
set_option maxHeartbeats 800000 in
theorem tell_true (lb : Nat) (x : Int) (w : World) : Calls Tryz.prog 108 #[.pointer (some ⟨lb, 0, none⟩), .int .i64 x, .bool true] w fun e w' => (∃ v, e = .returned v) ∧ w' = w := by
  go_enter Tryz.func108, Tryz.ntmps108
  go_wp2_with fail
  go_end0
  exact ⟨⟨_, rfl⟩, rfl⟩
/-- A look at a memory. -/
structure LookM (Λ : MLay) (μ : Mm) (lb : Nat) (am : Value) (w : World) : Prop where
  m : HasM Λ μ w
  at_ : LookAt Λ.mb lb am w
  far : ¬ MOwn Λ lb
theorem LookM.on {lb : Nat} {am : Value} {w' : World} (h : LookM Λ μ lb am w) (hg : MG Λ w μ w') : LookM Λ μ lb am w' := ⟨hg.has, hg.kept.whole h.at_ h.far, h.far⟩
set_option maxHeartbeats 3200000 in
theorem read_ok {lb : Nat} {am : Value} (h : LookM Λ μ lb am w) (s : Nat) (x : Sl) (hv : getM s μ = some x) (hx : x.cls = 0) : Calls Tryz.prog 105 #[.pointer (some ⟨lb, 0, none⟩), .int .i64 (s : Int)] w fun e w' => e = .returned (.bool true) ∧ MG Λ w μ w' := by
  have HG := Lib.hid (lget_ok h.m s x hv)
  have HL := Lib.hid (fun W (hg : MG Λ w μ W) => slive_zero (h.on hg).m s x hv hx)
  have HH := Lib.hid h
  obtain ⟨c0, _, _, _⟩ := h.at_.cells
  clear h hv hx
  go_enter Tryz.func105, Tryz.ntmps105
  go_wp2_with fail
  refine HG.out.mono ?_
  rintro e w1 ⟨rfl, hg1⟩
  unfold slV
  obtain ⟨w2, hw2⟩ : ∃ w2, w2 = w1.alloc (.cells #[.int .i64 (x.cls : Int), .int .i64 (x.live : Int), .int .u32 (x.free : Int), .int .i64 (x.next : Int), .int .i64 (x.prev : Int)] 224) := ⟨_, rfl⟩
  have hb2 : Below w1.heap.size w1 w2 := by rw [hw2]; exact (Below.refl _ _).alloc (Nat.le_refl _) _
  have HG2 := Lib.hid (hg1.below hb2)
  obtain ⟨d0, _, _, _⟩ := (HH.out.on HG2.out).at_.cells
  clear hg1 hb2 c0
  go_upto_region 2 with fail
  rw [← hw2]
  clear hw2
  go_wp2_with fail
  refine (HL.out _ HG2.out).mono ?_
  rintro e w3 ⟨rfl, hg3⟩
  have HG3 := Lib.hid (HG2.out.trans hg3)
  clear hg3 d0
  go_wp2_with fail
  go_loop [7, 29] (fun s7 s29 => s7 = .bool true ∧ s29 = .int .i64 0) (fun _ _ => 0)
  case atStart => exact ⟨rfl, rfl⟩
  case round =>
    obtain ⟨rfl, rfl⟩ := hrel
    go_wp2_with fail
    go_ret
    exact ⟨rfl, HG3.out⟩
end
end Go.Proofs.YtoafmlegamjlpaaGreatDoor
namespace Go.Proofs.YtoafmlegamjlpaaGreatDoor
open Go.RowKit Go.Colm Go.Cap Go.Maps
set_option linter.unusedVariables false
set_option linter.unusedSimpArgs false
section
variable {Λ : MLay} {μ : Mm} {w : World}
theorem LookM.below {lb : Nat} {am : Value} {w' : World} (h : LookM Λ μ lb am w) (hb : Below w.heap.size w w') : LookM Λ μ lb am w' := h.on ((MG.refl h.m).below hb)
set_option maxHeartbeats 1600000 in
theorem once_ok {lb : Nat} {am : Value} (h : LookM Λ μ lb am w) : Calls Tryz.prog 114 #[.pointer (some ⟨lb, 0, none⟩)] w fun e w' => e = .returned (.bool true) ∧ Below w.heap.size w w' := by
  obtain ⟨w0, hw0⟩ : ∃ w0, w0 = (w.alloc (.map #[] 0)).alloc (.cells #[.map (some w.heap.size)] 239) := ⟨_, rfl⟩
  have hb0 : Below w.heap.size w w0 := by
    rw [hw0]
    exact ((Below.refl _ w).alloc (Nat.le_refl _) _).alloc (by simp) _
  have HB := Lib.hid (fun fn fa fb => both_nil (h.below hb0).at_ fn fa fb)
  have HB0 := Lib.hid hb0
  have hmm := @run_makeMap Tryz.prog
  clear h hb0
  go_enter Tryz.func114, Tryz.ntmps114
  go_upto_region 2 with fail
  rw [← hw0]
  clear hw0 hmm
  go_wp2_with fail
  refine (HB.out _ _ _).mono ?_
  rintro e w1 ⟨rfl, hb1⟩
  go_wp2_with fail
  go_ret
  exact ⟨rfl, below_chain HB0.out hb1⟩
theorem heldM {lb : Nat} {am : Value} {W W2 : World} (hL : LookM Λ μ lb am w) (h : MG Λ w μ W ∧ W.cell? ⟨lb, 0, none⟩ = some (.pointer (some ⟨Λ.mb, 0, none⟩))) (k : MG Λ W μ W2) : MG Λ w μ W2 ∧ W2.cell? ⟨lb, 0, none⟩ = some (.pointer (some ⟨Λ.mb, 0, none⟩)) :=
  ⟨h.1.trans k, (hL.on (h.1.trans k)).at_.cells.1⟩
/-- A box that holds an empty map. -/
def BoxE (T : TypeId) (bb m : Nat) (w : World) : Prop := Whole w bb T #[.map (some m)] ∧ w.heap[m]? = some (.map #[] 0)
theorem len_e (m : Nat) (W : World) (h : W.heap[m]? = some (.map #[] 0)) : (Builtin.len_ #[156] 3 #[.map (some m)]).run Tryz.prog W = .ok (.int .i64 0) W :=
  Go.run_len_map (P := Tryz.prog) W _ _ m #[] 0 (by kernel_rfl) h
theorem heldR {lb bb m : Nat} {am : Value} {W : World} (hL : LookM Λ μ lb am w) (hX : BoxE 156 bb m w) (hbb : ¬ MOwn Λ bb) (hm : ¬ MOwn Λ m) (h : MG Λ w μ W) : MG Λ w μ W ∧ W.cell? ⟨lb, 0, none⟩ = some (.pointer (some ⟨Λ.mb, 0, none⟩)) ∧ W.cell? ⟨bb, 0, none⟩ = some (.map (some m)) ∧ W.heap[m]? = some (.map #[] 0) :=
  ⟨h, (hL.on h).at_.cells.1, (h.kept.whole hX.1 hbb).cell 0, (h.kept.block m (Array.getElem?_eq_some_iff.1 hX.2).1 hm).trans hX.2⟩
set_option maxRecDepth 100000 in
set_option maxHeartbeats 6400000 in
theorem ring_ok {lb : Nat} {am : Value} (h : LookM Λ μ lb am w) (r13 : μ.root 13 = some 0) (r14 : μ.root 14 = some 0) (r15 : μ.root 15 = some 0) : Calls Tryz.prog 112 #[.pointer (some ⟨lb, 0, none⟩)] w fun e w' => e = .returned (.bool true) ∧ MG Λ w μ w' := by
  have HH := Lib.hid h
  have HR : Hid (∀ W, MG Λ w μ W → Calls Tryz.prog 180 #[.pointer (some ⟨Λ.mb, 0, none⟩), .int .i64 13] W fun e w' => e = .returned (.int .u64 0) ∧ MG Λ W μ w') := Lib.hid (fun W hg => root_ok hg.has 13 0 (by decide) r13)
  have HR' : Hid (∀ W, MG Λ w μ W → Calls Tryz.prog 180 #[.pointer (some ⟨Λ.mb, 0, none⟩), .int .i64 14] W fun e w' => e = .returned (.int .u64 0) ∧ MG Λ W μ w') := Lib.hid (fun W hg => root_ok hg.has 14 0 (by decide) r14)
  have HR2 : Hid (∀ W, MG Λ w μ W → Calls Tryz.prog 180 #[.pointer (some ⟨Λ.mb, 0, none⟩), .int .i64 15] W fun e w' => e = .returned (.int .u64 0) ∧ MG Λ W μ w') := Lib.hid (fun W hg => root_ok hg.has 15 0 (by decide) r15)
  have hs0 : MG Λ w μ w.drew ∧ w.drew.cell? ⟨lb, 0, none⟩ = some (.pointer (some ⟨Λ.mb, 0, none⟩)) := ⟨(MG.refl h.m).drew, h.at_.cells.1⟩
  clear h r13 r14 r15
  go_enter Tryz.func112, Tryz.ntmps112
  go_upto_region 1 with fail
  go_wp2_with fail
  go_region_held3 (fun w' => MG Λ w μ w' ∧ w'.cell? ⟨lb, 0, none⟩ = some (.pointer (some ⟨Λ.mb, 0, none⟩)))
    (first | exact hs0 | assumption | exact heldM HH.out (by assumption) (by assumption))
    (first
      | ((go_at_call 180; with_reducible refine (HR.out _ (And.left (by assumption))).mono ?_); rintro e w2 ⟨rfl, hg2⟩)
      | ((go_at_call 180; with_reducible refine (HR'.out _ (And.left (by assumption))).mono ?_); rintro e w2 ⟨rfl, hg2⟩))
  have HM : Hid (MG Λ w μ w2) := Lib.hid (And.left (by assumption))
  have hwr : IntKind.u32.wrap 0 = 0 := by decide
  obtain ⟨w3, hw3⟩ : ∃ w3, w3 = (w2.alloc (.map #[] 0)).alloc (.cells #[.map (some w2.heap.size)] 156) := ⟨_, rfl⟩
  have hb3 : Below w2.heap.size w2 w3 := by
    rw [hw3]
    exact ((Below.refl _ w2).alloc (Nat.le_refl _) _).alloc (by simp) _
  have HE := Lib.hid (fun t fn fa fb => each_nil ((HH.out.on HM.out).below hb3).at_ t fn fa fb)
  have HB3 := Lib.hid hb3
  have hx3 : BoxE 156 (w2.heap.size + 1) w2.heap.size w3 := by
    refine ⟨?_, ?_⟩
    · have h := Whole.new (w2.alloc (.map #[] 0)) 156 #[.map (some w2.heap.size)]
      rw [World.size_alloc, ← hw3] at h
      exact h
    · rw [hw3]
      exact (Kept.block ((Kept.refl (fun _ => False) _).alloc _) w2.heap.size (by simp) id).trans (heap_alloc_new w2 _)
  have HX3 := Lib.hid hx3
  have hmm := @run_makeMap Tryz.prog
  clear hb3 hg2 hs0 hx3
  go_upto_region 3 with fail
  rw [← hw3]
  try simp only [World.size_alloc]
  clear hw3 hmm
  go_wp2_with fail
  refine (HE.out _ _ _ _).mono ?_
  rintro e w4 ⟨rfl, hb4⟩
  have HM4 : Hid (MG Λ w μ w4) := Lib.hid ((HM.out.below HB3.out).below hb4)
  have HX4 : Hid (BoxE 156 (w2.heap.size + 1) w2.heap.size w4) := Lib.hid ⟨(Kept.below hb4 fun _ => False).whole HX3.out.1 id, ((Kept.below hb4 fun _ => False).block _ (Array.getElem?_eq_some_iff.1 HX3.out.2).1 id).trans HX3.out.2⟩
  have HL4 := Lib.hid (HH.out.on HM4.out)
  have HR4 := Lib.hid (fun W (h : MG Λ w4 μ W) => heldR HL4.out HX4.out (HH.out.m.own_not (Nat.le_trans HM.out.kept.size (Nat.le_succ _))) (HH.out.m.own_not HM.out.kept.size) h)
  obtain ⟨bb, hbb⟩ : ∃ bb, bb = w2.heap.size + 1 := ⟨_, rfl⟩
  rw [← hbb] at HR4 ⊢
  obtain ⟨m, hm⟩ : ∃ m, m = w2.heap.size := ⟨_, rfl⟩
  rw [← hm] at HR4
  have HRT := Lib.hid (fun W (h : MG Λ w4 μ W) => HR2.out W (HM4.out.trans h))
  have hs4 := HR4.out _ (MG.refl HL4.out.m).drew
  clear hb4 HX4 HX3 hbb hm HE HM HB3
  have hlen := len_e m
  go_upto_region 4 with fail
  go_region_held3 (fun w' => MG Λ w4 μ w' ∧ w'.cell? ⟨lb, 0, none⟩ = some (.pointer (some ⟨Λ.mb, 0, none⟩)) ∧ w'.cell? ⟨bb, 0, none⟩ = some (.map (some m)) ∧ w'.heap[m]? = some (.map #[] 0))
    (first | exact hs4 | assumption | exact HR4.out _ (MG.trans (And.left (by assumption)) (by assumption)))
    (first
      | ((go_at_call 180; with_reducible refine (HRT.out _ (And.left (by assumption))).mono ?_); rintro e w5 ⟨rfl, hg5⟩))
  have HM5 : Hid (MG Λ w4 μ w5) := Lib.hid (And.left (by assumption))
  obtain ⟨_, _, b5, l5⟩ := HR4.out _ HM5.out
  clear hs4
  go_wp2_with fail
  go_ret
  exact ⟨rfl, HM4.out.trans HM5.out⟩
end
end Go.Proofs.YtoafmlegamjlpaaGreatDoor
namespace Go.Proofs.YtoafmlegamjlpaaGreatDoor
open Go.RowKit Go.Colm Go.Cap Go.Maps
set_option linter.unusedVariables false
set_option linter.unusedSimpArgs false
/-- A slice's element lies in one cell. -/
def One (T E : TypeId) (z : Value) (nb : Nat) : Prop := Tryz.prog.underlying T = some (.slice E) ∧ ((Tryz.prog.info? E).map fun i => (i.zero, i.size, i.bytes)) = some (some z, 1, nb) ∧ z.cells.size = 1 ∧ nb ≤ 8
theorem one_int : One 65 3 (.int .i64 0) 8 := ⟨Tryz.underlying65, by kernel_rfl, rfl, by decide⟩
theorem one_u32 : One 236 49 (.int .u32 0) 4 := ⟨Tryz.underlying236, by kernel_rfl, rfl, by decide⟩
theorem wpList_app_one {T E : TypeId} {z : Value} {nb : Nat} (hO : One T E z nb) {w : World} {ops : Array Oper} {rest : List Oper} {o : Oper} {a : Act} {Q : Exit → Act → World → Prop} (hgd : o.guard = none) (s x : Operand)
    (ho : o.op = .call { callee := .builtin .append, args := #[s, x], argTypes := #[T, T] })
    (B : Nat) (v : Value) (n : Nat) (xs : List Value) (hs : a.eval s = v) (hown : w.ownsRow B E 1 v n xs)
    (g : Nat) (u : Value) (hx : a.eval x = .slice (some ⟨g, 0, none⟩) 1 1) (hg : w.cell? ⟨g, 0, none⟩ = some u) (h1 : u.oneCell' = true) (hn : n ≤ 1000000) (hB : B ≤ w.heap.size)
    (h : ∀ v' w', w'.ownsRow B E 1 v' (n + 1) (xs ++ [u]) → Kept (fun k => v.ownBlock = some k) w w' → wpList Tryz.prog ops Q rest (a.put o.dst v') w') : wpList Tryz.prog ops Q (o :: rest) a w := by
  obtain ⟨ht, hi, hz, hnb⟩ := hO
  obtain ⟨i0, hi0, hz0, hz1, hz2⟩ := info_parts hi
  refine wpList_append_own w hgd s x T ho B E i0 z 1 nb ht hi0 hz0 hz1 hz2 hz (by decide) v n xs hs hown ⟨g, 0, none⟩ 1 1 [u] hx rfl (fun j u' hj => ?_) (fun u' hu => ?_) (by unfold maxLen; omega) ?_ hB fun v' w' h1 h2 _ => h v' w' h1 (Kept.grown h2)
  · cases j with
    | zero =>
      simp at hj
      subst hj
      exact hg
    | succ j => simp at hj
  · simp at hu
    subst hu
    exact h1
  · have : (n + 1) * nb ≤ (n + 1) * 8 := Nat.mul_le_mul_left _ hnb
    omega
section
variable {Λ : MLay} {μ : Mm} {w : World}
/-- Blocks newer than the memory turn. -/
theorem MG.beside {μ0 : Mm} {w1 w2 : World} {S : Nat → Prop} (h0 : HasM Λ μ0 w) (h : MG Λ w μ w1) (hk : Kept S w1 w2) (hS : ∀ k, S k → w.heap.size ≤ k) : MG Λ w μ w2 :=
  ⟨h.has.kept hk (fun k hk e => by
    have := h0.lt hk
    have := hS _ e
    omega), ⟨hk.os.trans h.kept.os, hk.tape.trans h.kept.tape, hk.output.trans h.kept.output, Nat.le_trans h.kept.size hk.size, fun k hl hn => (hk.block k (Nat.lt_of_lt_of_le hl h.kept.size) (fun e => by have := hS k e; omega)).trans (h.kept.block k hl hn)⟩⟩
theorem tb_box (mb n : Nat) (w : World) : ∃ w0, w0 = w.alloc (.cells #[.pointer (some ⟨mb, 0, none⟩), .int .i64 (n : Int)] 133) ∧ Below w.heap.size w w0 ∧ w0.cell? ⟨w.heap.size, 0, none⟩ = some (.pointer (some ⟨mb, 0, none⟩)) ∧ w0.cell? ⟨w.heap.size, 1, none⟩ = some (.int .i64 (n : Int)) :=
  ⟨_, rfl, (Below.refl _ w).alloc (Nat.le_refl _) _, (Whole.new w _ _).cell 0, (Whole.new w _ _).cell 1⟩
set_option maxHeartbeats 1600000 in
theorem tround_ok (mb n i : Nat) (w : World) (hi : i < n) : Calls Tryz.prog 283 #[.agg #[.pointer (some ⟨mb, 0, none⟩), .int .i64 (n : Int)], .int .i64 (i : Int)] w fun e w' => e = .returned (.int .i64 (i : Int)) ∧ Below w.heap.size w w' := by
  obtain ⟨w0, hw0, hb0, x0, x1⟩ := tb_box mb n w
  have HB0 := Lib.hid hb0
  have hz : ¬ ((n : Int) = 0) := by omega
  have hm : Int.tmod (i : Int) (n : Int) = (i : Int) := by
    rw [Int.tmod_eq_emod_of_nonneg (by omega)]
    exact Int.emod_eq_of_lt (by omega) (by omega)
  clear hb0
  go_enter Tryz.func283, Tryz.ntmps283
  go_upto_region 1 with fail
  rw [← hw0]
  clear hw0
  go_wp2_with fail
  go_ret
  exact ⟨rfl, HB0.out⟩
/-- All slots are noughts. -/
def Slots0 (μ : Mm) : Prop := ∀ i, i < μ.slots → μ.ld (slotsC μ.slabs + i * 4) 4 4 = some 0
theorem heldT2 {tb : Nat} {n : Nat} {W W2 : World} (h0 : HasM Λ μ w) (hb : w.heap.size ≤ tb) (h : MG Λ w μ W ∧ W.cell? ⟨tb, 0, none⟩ = some (.pointer (some ⟨Λ.mb, 0, none⟩)) ∧ W.cell? ⟨tb, 1, none⟩ = some (.int .i64 (n : Int))) (k : MG Λ W μ W2) : MG Λ w μ W2 ∧ W2.cell? ⟨tb, 0, none⟩ = some (.pointer (some ⟨Λ.mb, 0, none⟩)) ∧ W2.cell? ⟨tb, 1, none⟩ = some (.int .i64 (n : Int)) :=
  ⟨h.1.trans k, k.kept.cell h.2.1 (h0.own_not hb), k.kept.cell h.2.2 (h0.own_not hb)⟩
set_option maxRecDepth 100000 in
set_option maxHeartbeats 6400000 in
theorem tget_ok (h : HasM Λ μ w) (hs : Slots0 μ) (i : Nat) (hi : i < μ.slots) : Calls Tryz.prog 246 #[.agg #[.pointer (some ⟨Λ.mb, 0, none⟩), .int .i64 (μ.slots : Int)], .int .i64 (i : Int)] w fun e w' => e = .returned (.int .i64 0) ∧ MG Λ w μ w' := by
  obtain ⟨w0, hw0, hb0, x0, x1⟩ := tb_box Λ.mb μ.slots w
  have HC : Hid (∀ W, MG Λ w μ W → Calls Tryz.prog 61 #[.pointer (some ⟨Λ.mb, 0, none⟩)] W fun e w' => e = .returned (.agg #[.int .i64 (μ.slabs : Int), .int .i64 (μ.slots : Int)]) ∧ MG Λ W μ w') := Lib.hid (fun W hg => (config_any hg.has).mono fun e w' h => ⟨h.1, (MG.refl hg.has).below h.2⟩)
  have HRO : Hid (∀ W, MG Λ w μ W → Calls Tryz.prog 283 #[.agg #[.pointer (some ⟨Λ.mb, 0, none⟩), .int .i64 (μ.slots : Int)], .int .i64 (i : Int)] W fun e w' => e = .returned (.int .i64 (i : Int)) ∧ MG Λ W μ w') := Lib.hid (fun W hg => (tround_ok Λ.mb μ.slots i W hi).mono fun e w' h => ⟨h.1, (MG.refl hg.has).below h.2⟩)
  have HSA : Hid (∀ W, MG Λ w μ W → Calls Tryz.prog 90 #[.agg #[.int .i64 (μ.slabs : Int), .int .i64 (μ.slots : Int)], .int .i64 (i : Int)] W fun e w' => e = .returned (.int .i64 ((slotsC μ.slabs + i * 4 : Nat) : Int)) ∧ MG Λ W μ w') := Lib.hid (fun W hg => (slotAt_any μ.slabs μ.slots i W hg.has.env.szs h.ok hi).mono fun e w' h => ⟨h.1, (MG.refl hg.has).below h.2⟩)
  have HLD : Hid (∀ W, MG Λ w μ W → Calls Tryz.prog 245 #[.pointer (some ⟨Λ.mb, 0, none⟩), .int .i64 ((slotsC μ.slabs + i * 4 : Nat) : Int), .int .i64 4, .int .i64 4] W fun e w' => e = .returned (.int .u64 0) ∧ MG Λ W μ w') := Lib.hid (fun W hg => mload_ok hg.has _ 4 4 0 (hs i hi))
  have HH := Lib.hid h
  have hs0 : MG Λ w μ w0.drew ∧ w0.drew.cell? ⟨w.heap.size, 0, none⟩ = some (.pointer (some ⟨Λ.mb, 0, none⟩)) ∧ w0.drew.cell? ⟨w.heap.size, 1, none⟩ = some (.int .i64 (μ.slots : Int)) := ⟨((MG.refl h).below hb0).drew, x0, x1⟩
  have hwr : IntKind.i64.wrap 0 = 0 := by decide
  obtain ⟨a, ha⟩ : ∃ a, a = slotsC μ.slabs + i * 4 := ⟨_, rfl⟩
  rw [← ha] at HSA HLD
  obtain ⟨tb, htb⟩ : ∃ tb, tb = w.heap.size := ⟨_, rfl⟩
  rw [← htb] at hs0
  have HTB : Hid (w.heap.size ≤ tb) := Lib.hid (by omega)
  clear h hs ha hb0 hi x0 x1
  go_enter Tryz.func246, Tryz.ntmps246
  go_upto_region 1 with fail
  rw [← hw0, ← htb]
  clear hw0 htb
  go_region_held3 (fun w' => MG Λ w μ w' ∧ w'.cell? ⟨tb, 0, none⟩ = some (.pointer (some ⟨Λ.mb, 0, none⟩)) ∧ w'.cell? ⟨tb, 1, none⟩ = some (.int .i64 (μ.slots : Int)))
    (first | exact hs0 | assumption | exact heldT2 HH.out HTB.out (by assumption) (by assumption))
    (first
      | ((go_at_call 61; with_reducible refine (HC.out _ (And.left (by assumption))).mono ?_); rintro e w2 ⟨rfl, hg2⟩)
      | ((go_at_call 283; with_reducible refine (HRO.out _ (And.left (by assumption))).mono ?_); rintro e w2 ⟨rfl, hg2⟩)
      | ((go_at_call 90; with_reducible refine (HSA.out _ (And.left (by assumption))).mono ?_); rintro e w2 ⟨rfl, hg2⟩)
      | ((go_at_call 245; with_reducible refine (HLD.out _ (And.left (by assumption))).mono ?_); rintro e w2 ⟨rfl, hg2⟩))
  have HM : Hid (MG Λ w μ w2) := Lib.hid (And.left (by assumption))
  clear hs0
  go_wp2_with fail
  go_ret
  exact ⟨rfl, HM.out⟩
end
end Go.Proofs.YtoafmlegamjlpaaGreatDoor
