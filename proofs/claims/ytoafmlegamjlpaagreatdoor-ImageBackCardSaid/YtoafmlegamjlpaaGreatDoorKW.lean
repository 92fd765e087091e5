/-
  The walk of the laws' example. No condition but the package's tables.
-/
import Derived.Test.YtoafmlegamjlpaaGreatDoorKV
set_option linter.unusedVariables false
set_option linter.unusedSimpArgs false
namespace Go.Proofs.YtoafmlegamjlpaaGreatDoor
open Go.RowKit Go.Colm Go.Cap Go.Mixp Go.Imgp Go.Maps
set_option linter.unusedVariables false
set_option linter.unusedSimpArgs false
def x0C : Array Value := madeCells #[.int .u8 0] 32
theorem x_cells : (x0C.setIfInBounds 16 (.int .u8 9)).toList = bytesV xL := by kernel_rfl
theorem row_whole {w : World} {g : Nat} {l : List UInt8} {cs : Array Value} (h : Whole w g 5 cs) (hc : cs.toList = bytesV l) : RowV w (some ⟨g, 0, none⟩) (bytesV l) := fun i v hv => ⟨g, 0, rfl, by
  rw [Nat.zero_add, h.cell i, ← Array.getElem?_toList, hc]
  exact hv⟩
theorem conv_row {A : Option Addr} {n c : Nat} {l : List UInt8} (hn : l.length = n) (hA : ∀ a, A = some a → a.spot = none) (W : World) (h : RowV W A (bytesV l)) : (convert 22 9 (.slice A n c)).run Tryz.prog W = .ok (.string ⟨l.toArray⟩) W := by
  subst hn
  exact run_text Tryz.underlying22 Tryz.underlying5 W A l c h hA _ Tryz.underlying9
theorem heldO {w W W2 : World} {A A' : Option Addr} {l : List Value} (h : Below w.heap.size w W ∧ RowV W A l ∧ RowV W A' l) (k : Below W.heap.size W W2) : Below w.heap.size w W2 ∧ RowV W2 A l ∧ RowV W2 A' l :=
  ⟨below_chain h.1 k, h.2.1.below k, h.2.2.below k⟩
theorem img_own {Λ : MLay} {μ : Mm} {W : World} {img : List UInt8} (h : HasM Λ μ W) (hi : imgL μ = img) : Calls Tryz.prog 18 #[.pointer (some ⟨Λ.mb, 0, none⟩)] W fun e w' => ∃ A c, e = .returned (.slice A img.length c) ∧ RowV w' A (bytesV img) ∧ (∀ a, A = some a → a.spot = none) ∧ Below W.heap.size W w' := by
  refine (mimage_any h).mono ?_
  rintro e w' ⟨u, rfl, hu, hb⟩
  rw [← imgL_length, hi] at hu
  obtain ⟨A, c, rfl, _, hr, _, hs⟩ := BOwn.slice (l := img) hu
  exact ⟨A, c, rfl, hr, fun a ha => (hs a ha).2.1, hb⟩
section
variable {P : Program} {ops : Array Oper} {Q : Exit → Act → World → Prop}
theorem wanted_of {o ok : Oper} {tmps : Array Value} {k : Nat} {t : Tmp} {b : Bool} (hg : o.guard = some (k, b)) (hk : ops[k]? = some ok) (hd : ok.dst = some t) (hv : tmps[t]? = some (.bool b)) : Region.wanted o (yielded ops tmps) = true := by
  simp [Region.wanted, hg, yielded, hk, hd, hv]
theorem stepVw {o : Oper} {a : Act} {w w' : World} {K : Act → World → Prop} {v : Value} (hw : Region.wanted o (yielded ops a.tmps) = true) (hrun : (execOp a.eval o).run P w = .ok (.value v) w') (h : K (a.put o.dst v) w') :
    if Region.wanted o (yielded ops a.tmps) = true then Oper.wp P o a w K Q else K (a.put o.dst undef) w := by
  rw [if_pos hw]
  unfold Oper.wp
  rw [hrun]
  exact h
theorem stepCw {o : Oper} {a : Act} {w : World} {K : Act → World → Prop} (hw : Region.wanted o (yielded ops a.tmps) = true) (f : FuncId) (args : Array Value) (hrun : (execOp a.eval o).run P w = .ok (.enter f args) w) (T : Value → World → Prop)
    (hc : Calls P f args w fun e w' => ∃ v, e = .returned v ∧ T v w') (h : ∀ v w', T v w' → K (a.put o.dst v) w') :
    if Region.wanted o (yielded ops a.tmps) = true then Oper.wp P o a w K Q else K (a.put o.dst undef) w := by
  rw [if_pos hw]
  unfold Oper.wp
  rw [hrun, Oper.upon_enter]
  refine hc.mono fun e w' hh => ?_
  obtain ⟨v, rfl, ht⟩ := hh
  exact h v w' ht
end
/-- What each operation of the example's last line leaves. -/
def opF (G3 c3 c4 g cd cc n : Nat) (A4 : Option Addr) (x img : List UInt8) (Λd Λc : MLay) : Nat → Value → World → Prop
  | 0, v, _ => v = .slice (some ⟨G3, 0, none⟩) 32 c3
  | 1, v, _ => v = .int .i64 32
  | 2, v, _ => v = .bool true
  | 3, v, _ => v = .bool true
  | 4, v, _ => v = .int .i64 0
  | 5, v, _ => v = .bool true
  | 6, v, _ => v = .bool true
  | 7, v, _ => v = .bool true
  | 8, v, _ => v = .slice A4 32 c4
  | 9, v, _ => v = .string ⟨x.toArray⟩
  | 10, v, _ => v = .slice (some ⟨g, 0, none⟩) 32 32
  | 11, v, _ => v = .string ⟨x.toArray⟩
  | 12, v, _ => v = .bool true
  | 13, v, _ => v = .bool true
  | 14, v, _ => v = .bool true
  | 15, v, _ => v = .int .i64 0
  | 16, v, _ => v = .bool true
  | 17, v, _ => v = .bool true
  | 18, v, _ => v = .bool true
  | 19, v, _ => v = .int .i64 3
  | 20, v, _ => v = .bool true
  | 21, v, _ => v = .bool true
  | 22, v, _ => v = .bool true
  | 23, v, _ => v = .int .i64 0
  | 24, v, _ => v = .bool true
  | 25, v, _ => v = .bool true
  | 26, v, _ => v = .bool true
  | 27, v, _ => v = .int .i64 0
  | 28, v, _ => v = .bool true
  | 29, v, _ => v = .bool true
  | 30, v, _ => v = .bool true
  | 31, v, _ => v = .pointer (some ⟨cd, 0, none⟩)
  | 32, v, _ => v = .bool true
  | 33, v, _ => v = .bool true
  | 34, v, _ => v = .bool true
  | 35, v, _ => v = .pointer (some ⟨cd, 0, none⟩)
  | 36, v, _ => v = .pointer (some ⟨Λd.mb, 0, none⟩)
  | 37, v, W => ∃ A c, v = .slice A n c ∧ RowV W A (bytesV img) ∧ ∀ a, A = some a → a.spot = none
  | 38, v, _ => v = .string ⟨img.toArray⟩
  | 39, v, _ => v = .pointer (some ⟨cc, 0, none⟩)
  | 40, v, _ => v = .pointer (some ⟨Λc.mb, 0, none⟩)
  | 41, v, W => ∃ A c, v = .slice A n c ∧ RowV W A (bytesV img) ∧ ∀ a, A = some a → a.spot = none
  | 42, v, _ => v = .string ⟨img.toArray⟩
  | 43, v, _ => v = .bool true
  | 44, v, _ => v = .bool true
  | 45, v, _ => v = .bool true
  | _, _, _ => True
theorem opF_stab (G3 c3 c4 g cd cc n : Nat) (A4 : Option Addr) (x img : List UInt8) (Λd Λc : MLay) : ∀ (j : Nat) (v : Value) (W W' : World), Below W.heap.size W W' → opF G3 c3 c4 g cd cc n A4 x img Λd Λc j v W → opF G3 c3 c4 g cd cc n A4 x img Λd Λc j v W'
  | 0, _, _, _, _, h => h
  | 1, _, _, _, _, h => h
  | 2, _, _, _, _, h => h
  | 3, _, _, _, _, h => h
  | 4, _, _, _, _, h => h
  | 5, _, _, _, _, h => h
  | 6, _, _, _, _, h => h
  | 7, _, _, _, _, h => h
  | 8, _, _, _, _, h => h
  | 9, _, _, _, _, h => h
  | 10, _, _, _, _, h => h
  | 11, _, _, _, _, h => h
  | 12, _, _, _, _, h => h
  | 13, _, _, _, _, h => h
  | 14, _, _, _, _, h => h
  | 15, _, _, _, _, h => h
  | 16, _, _, _, _, h => h
  | 17, _, _, _, _, h => h
  | 18, _, _, _, _, h => h
  | 19, _, _, _, _, h => h
  | 20, _, _, _, _, h => h
  | 21, _, _, _, _, h => h
  | 22, _, _, _, _, h => h
  | 23, _, _, _, _, h => h
  | 24, _, _, _, _, h => h
  | 25, _, _, _, _, h => h
  | 26, _, _, _, _, h => h
  | 27, _, _, _, _, h => h
  | 28, _, _, _, _, h => h
  | 29, _, _, _, _, h => h
  | 30, _, _, _, _, h => h
  | 31, _, _, _, _, h => h
  | 32, _, _, _, _, h => h
  | 33, _, _, _, _, h => h
  | 34, _, _, _, _, h => h
  | 35, _, _, _, _, h => h
  | 36, _, _, _, _, h => h
  | 37, _, _, _, hb, ⟨A, c, h1, h2, h3⟩ => ⟨A, c, h1, h2.below hb, h3⟩
  | 38, _, _, _, _, h => h
  | 39, _, _, _, _, h => h
  | 40, _, _, _, _, h => h
  | 41, _, _, _, hb, ⟨A, c, h1, h2, h3⟩ => ⟨A, c, h1, h2.below hb, h3⟩
  | 42, _, _, _, _, h => h
  | 43, _, _, _, _, h => h
  | 44, _, _, _, _, h => h
  | 45, _, _, _, _, h => h
  | _ + 46, _, _, _, _, _ => trivial
set_option maxRecDepth 100000 in
set_option maxHeartbeats 12800000 in
theorem opens_ok (w : World) (he : EnvC w) : Calls Tryz.prog 7 #[] w fun e w' => e = .returned (.bool true) ∧ Below w.heap.size w w' := by
  obtain ⟨i0, hi, hz0, hz1, hz2⟩ := info_parts u8_info
  have hmk := run_make w 22 5 i0 (.int .u8 0) Tryz.underlying22 hi hz0 .i64 .i64 32 32 (by omega) (by omega) (by rw [hz2]; decide) (by omega)
  rw [hz1, show (Value.int .u8 0).cells = #[.int .u8 0] from rfl] at hmk
  simp only [show ((32 : Int)).toNat = 32 from rfl, Nat.mul_one] at hmk
  have hx1 : Whole (w.alloc (.cells (madeCells #[.int .u8 0] 32) 5)) w.heap.size 5 x0C := Whole.new w _ _
  have c16 : (w.alloc (.cells (madeCells #[.int .u8 0] 32) 5)).cell? ⟨w.heap.size, 16, none⟩ = some (.int .u8 0) := (hx1.cell 16).trans (by kernel_rfl)
  have f16 := hx1.frozen 16
  obtain ⟨w2, hw2⟩ : ∃ w2, w2 = w.alloc (.cells ((madeCells #[.int .u8 0] 32).setIfInBounds 16 (.int .u8 9)) 5) := ⟨_, rfl⟩
  have hx2 : Whole w2 w.heap.size 5 (x0C.setIfInBounds 16 (.int .u8 9)) := by rw [hw2]; exact Whole.new w _ _
  have hb2 : Below w.heap.size w w2 := by rw [hw2]; exact (Below.refl _ w).alloc (Nat.le_refl _) _
  obtain ⟨g, hg⟩ : ∃ g, g = w.heap.size := ⟨_, rfl⟩
  rw [← hg] at hx2
  have hr2 : RowV w2 (some ⟨g, 0, none⟩) (bytesV xL) := row_whole hx2 x_cells
  have HB2 := Lib.hid hb2
  have HR2 := Lib.hid hr2
  have HE := Lib.hid he
  obtain ⟨xl, xm, sl, s31⟩ := xL_facts
  have hsq : sqz xL = (sqzL xL, 0) := by rw [sqz, if_pos xm]
  have hsp := spr_sqz xm
  have hqz := isqz_ok (some ⟨g, 0, none⟩) 32 xL w2 hr2 (by rw [xl]; omega) (by rw [xl]; omega)
  rw [hsq] at hqz
  dsimp only at hqz
  obtain ⟨x, hx⟩ : ∃ x, x = xL := ⟨_, rfl⟩
  rw [← hx] at hqz hsp s31 sl xl HR2
  obtain ⟨b, hbb⟩ : ∃ b, b = sqzL x := ⟨_, rfl⟩
  rw [← hbb] at hqz hsp s31 sl
  rw [xl] at hqz
  have HQ := Lib.hid hqz
  have HSP := Lib.hid hsp
  have H31 := Lib.hid s31
  have HSL := Lib.hid sl
  have HXL := Lib.hid xl
  clear he hb2 hr2 hx2 hi hz0 hz1 hz2 xm hsq hqz hx hbb sl s31 hsp xl
  go_enter Tryz.func7, Tryz.ntmps7
  go_upto_region 3 with fail
  rw [← hw2, ← hg]
  clear hw2 hmk hg c16 f16 hx1
  go_wp2_with fail
  refine HQ.out.mono ?_
  rintro e w3 ⟨v3, rfl, hv3, hb3⟩
  obtain ⟨A3, c3, rfl, hcap3, hr3, hA3, hs3⟩ := hv3.slice
  have hspr := ispr_ok A3 c3 b w3 hr3 hcap3 (by rw [HSL.out]; omega)
  rw [HSP.out] at hspr
  dsimp only at hspr
  rw [HSL.out] at hspr hcap3 ⊢
  have HSR := Lib.hid hspr
  obtain ⟨G3, hG3⟩ : ∃ G3, A3 = some ⟨G3, 0, none⟩ := by
    rcases A3 with _ | ⟨a1, a2, a3⟩
    · have := hA3 rfl
      omega
    · obtain ⟨e1, e2, _⟩ := hs3 _ rfl
      dsimp only at e1 e2
      subst e1 e2
      exact ⟨a1, rfl⟩
  subst hG3
  have HR3 := Lib.hid hr3
  have HB3 := Lib.hid (below_chain HB2.out hb3)
  have HR2 := Lib.hid (HR2.out.below hb3)
  clear hv3 hb3 hr3 hA3 hs3 hspr
  go_wp2_with fail
  refine HSR.out.mono ?_
  rintro e w4 ⟨v4, rfl, hv4, hb4⟩
  obtain ⟨A4, c4, rfl, hcap4, hr4, hA4, hs4⟩ := hv4.slice
  rw [HXL.out] at hcap4 ⊢
  have HR4 := Lib.hid hr4
  have HS4 := Lib.hid (fun a (ha : A4 = some a) => (hs4 a ha).2.1)
  have HB4 := Lib.hid (below_chain HB3.out hb4)
  have HR2 := Lib.hid (HR2.out.below hb4)
  have hr3 := HR3.out.below hb4
  have hcut := fun W => run_cut_to (P := Tryz.prog) Tryz.underlying22 Tryz.sizeOf5 (some ⟨G3, 0, none⟩) 32 c3 .i64 (31 : Int) (by omega) (by omega) W
  simp only [show ((31 : Int)).toNat = 31 from rfl] at hcut
  have hr31 := hr3.sub 0 31
  rw [List.drop_zero, Nat.zero_add] at hr31
  have hl31 : (b.take 31).length = 31 := by rw [List.length_take, HSL.out]; rfl
  have hsp31 := ispr_ok (some ⟨G3, 0, none⟩) c3 (b.take 31) w4 hr31 (by omega) (by omega)
  rw [H31.out, hl31] at hsp31
  dsimp only at hsp31
  have HS31 := Lib.hid hsp31
  clear hv4 hb4 hr4 hA4 hs4 hr3 hr31 hsp31 hcap4
  go_wp2_with fail
  refine HS31.out.mono ?_
  rintro e w5 ⟨v5, rfl, hv5, hb5⟩
  have HB5 := Lib.hid (below_chain HB4.out hb5)
  have HR2 := Lib.hid (HR2.out.below hb5)
  have HR4 := Lib.hid (HR4.out.below hb5)
  have HCN := Lib.hid (cnew_ok 7 224 w5 (HE.out.below HB5.out) ok7 m7 m7_begin)
  clear hv5 hb5 hcut
  go_wp2_with fail
  refine HCN.out.mono ?_
  rintro e w6 ⟨cc, kc, Λc, rfl, hc6, _, _, _, hb6⟩
  have HC6 := Lib.hid hc6
  have HB6 := Lib.hid (below_chain HB5.out hb6)
  have HR2 := Lib.hid (HR2.out.below hb6)
  have HR4 := Lib.hid (HR4.out.below hb6)
  have hpk := pack_ok hc6
  rw [sqz7] at hpk
  dsimp only at hpk
  have HPK := Lib.hid hpk
  clear hc6 hb6 hpk
  go_wp2_with fail
  refine HPK.out.mono ?_
  rintro e w7 ⟨v7, rfl, hv7, hb7⟩
  obtain ⟨A7, c7, rfl, hcap7, hr7, _, _⟩ := hv7.slice
  have HB7 := Lib.hid (below_chain HB6.out hb7)
  have HC7 := Lib.hid (HC6.out.below hb7)
  have HR2 := Lib.hid (HR2.out.below hb7)
  have HR4 := Lib.hid (HR4.out.below hb7)
  have hop := open_ok 7 224 A7 c7 (sqzL (imgL m7)) (imgL m7) m7.b w7 (HE.out.below HB7.out) hr7 hcap7 (by
      have := spr_len7
      omega) (spr_sqz may7) cfg7 ok7 img7_length (imgL_bytes m7) facts7.2.2.2.2.1 facts7.2.2.2.2.2.1 facts7.2.2.2.2.2.2.1 facts7.2.2.2.2.2.2.2 ⟨facts7.2.2.2.1.few, facts7.2.2.2.1.some_⟩ facts7.2.2.2.1
  have HOP := Lib.hid hop
  obtain ⟨pl, hpl⟩ : ∃ pl, pl = (sqzL (imgL m7)).length := ⟨_, rfl⟩
  rw [← hpl] at HOP ⊢
  clear hv7 hb7 hr7 hcap7 hop hpl
  go_wp2_with fail
  refine HOP.out.mono ?_
  rintro e w8 ⟨cd, kd, Λd, rfl, hd8, hb8⟩
  change HasC cd kd Λd r7 0 w8 at hd8
  have HB8 := Lib.hid (below_chain HB7.out hb8)
  have HC8 := Lib.hid (HC7.out.below hb8)
  have HD8 := Lib.hid hd8
  have HR2 := Lib.hid (HR2.out.below hb8)
  have HR4 := Lib.hid (HR4.out.below hb8)
  clear hd8 hb8
  have HMD := Lib.hid (fun W (hb : Below w8.heap.size w8 W) => cmem_any (HD8.out.below hb))
  have HMC := Lib.hid (fun W (hb : Below w8.heap.size w8 W) => cmem_any (HC8.out.below hb))
  have hid := fun W (hb : Below w8.heap.size w8 W) => img_own (HD8.out.below hb).m img7_r
  have hic := fun W (hb : Below w8.heap.size w8 W) => img_own (HC8.out.below hb).m rfl
  obtain ⟨img, himg⟩ : ∃ img, img = imgL m7 := ⟨_, rfl⟩
  rw [← himg] at hid hic
  obtain ⟨n, hn⟩ : ∃ n, n = img.length := ⟨_, rfl⟩
  rw [← hn] at hid hic
  have HN := Lib.hid hn.symm
  have HID := Lib.hid hid
  have HIC := Lib.hid hic
  have hcy := conv_row (c := c4) HXL.out HS4.out
  have hcx := conv_row (A := some ⟨g, 0, none⟩) (c := 32) HXL.out (fun a ha => by cases ha; rfl)
  --RGN11
  clear hid hic himg hn HOP HPK HC6 HCN HS31 HSR HQ
  go_upto_region 11 with fail
  refine wp_region_steps (opF G3 c3 c4 g cd cc n A4 x img Λd Λc) (fun W W' => Below W.heap.size W W') rfl (n := 96) rfl (by kernel_rfl) (by kernel_rfl) (fun w => Below.refl _ _) (fun _ _ _ h k => below_chain h k) (opF_stab G3 c3 c4 g cd cc n A4 x img Λd Λc) ?_ ?_
  · refine steps_cons ?_ (steps_cons ?_ (steps_cons ?_ (steps_cons ?_ (steps_cons ?_ (steps_cons ?_ (steps_cons ?_ (steps_cons ?_ (steps_cons ?_ (steps_cons ?_ (steps_cons ?_ (steps_cons ?_ (steps_cons ?_ (steps_cons ?_ (steps_cons ?_ (steps_cons ?_ (steps_cons ?_ (steps_cons ?_ (steps_cons ?_ (steps_cons ?_ (steps_cons ?_ (steps_cons ?_ (steps_cons ?_ (steps_cons ?_ (steps_cons ?_ (steps_cons ?_ (steps_cons ?_ (steps_cons ?_ (steps_cons ?_ (steps_cons ?_ (steps_cons ?_ (steps_cons ?_ (steps_cons ?_ (steps_cons ?_ (steps_cons ?_ (steps_cons ?_ (steps_cons ?_ (steps_cons ?_ (steps_cons ?_ (steps_cons ?_ (steps_cons ?_ (steps_cons ?_ (steps_cons ?_ (steps_cons ?_ (steps_cons ?_ (steps_cons ?_ (steps_nil))))))))))))))))))))))))))))))))))))))))))))))
    · intro L9 a9 W9 hm hn hp hr K9 hK
      have e2 : a9.tmps[2]? = some (.slice (some ⟨G3, 0, none⟩) 32 c3) := (hm.keep2 hn (by rfl)).trans rfl
      exact stepV rfl (by go_simp) (hK _ _ rfl (Below.refl _ _))
    · intro L9 a9 W9 hm hn hp hr K9 hK
      obtain ⟨v0, e51, hf0⟩ := hm.val2 (j := 0) (t := 51) rfl rfl (hp ⟨0, .data⟩ (by simp) rfl)
      obtain rfl : v0 = .slice (some ⟨G3, 0, none⟩) 32 c3 := hf0
      exact stepV rfl (by go_simp) (hK _ _ rfl (Below.refl _ _))
    · intro L9 a9 W9 hm hn hp hr K9 hK
      obtain ⟨v1, e52, hf1⟩ := hm.val2 (j := 1) (t := 52) rfl rfl (hp ⟨1, .data⟩ (by simp) rfl)
      obtain rfl : v1 = .int .i64 32 := hf1
      exact stepV rfl (by go_simp) (hK _ _ rfl (Below.refl _ _))
    · intro L9 a9 W9 hm hn hp hr K9 hK
      obtain ⟨v2, e53, hf2⟩ := hm.val2 (j := 2) (t := 53) rfl rfl (hp ⟨2, .data⟩ (by simp) rfl)
      obtain rfl : v2 = .bool true := hf2
      exact stepV rfl (by go_simp) (hK _ _ rfl (Below.refl _ _))
    · intro L9 a9 W9 hm hn hp hr K9 hK
      have e3 : a9.tmps[3]? = some (.int .i64 0) := (hm.keep2 hn (by rfl)).trans rfl
      obtain ⟨vg, eg, hfg⟩ := hm.val2 (j := 3) (t := 54) rfl rfl (hp ⟨3, .guard⟩ (by simp) rfl)
      obtain rfl : vg = .bool true := hfg
      exact stepVw (wanted_of rfl rfl rfl eg) (by go_simp) (hK _ _ rfl (Below.refl _ _))
    · intro L9 a9 W9 hm hn hp hr K9 hK
      obtain ⟨v4, e55, hf4⟩ := hm.val2 (j := 4) (t := 55) rfl rfl (hp ⟨4, .data⟩ (by simp) rfl)
      obtain rfl : v4 = .int .i64 0 := hf4
      obtain ⟨vg, eg, hfg⟩ := hm.val2 (j := 3) (t := 54) rfl rfl (hp ⟨3, .guard⟩ (by simp) rfl)
      obtain rfl : vg = .bool true := hfg
      exact stepVw (wanted_of rfl rfl rfl eg) (by go_simp) (hK _ _ rfl (Below.refl _ _))
    · intro L9 a9 W9 hm hn hp hr K9 hK
      obtain ⟨v3, e54, hf3⟩ := hm.val2 (j := 3) (t := 54) rfl rfl (hp ⟨3, .data⟩ (by simp) rfl)
      obtain rfl : v3 = .bool true := hf3
      obtain ⟨v5, e56, hf5⟩ := hm.val2 (j := 5) (t := 56) rfl rfl (hp ⟨5, .data⟩ (by simp) rfl)
      obtain rfl : v5 = .bool true := hf5
      exact stepV rfl (by go_simp) (hK _ _ rfl (Below.refl _ _))
    · intro L9 a9 W9 hm hn hp hr K9 hK
      obtain ⟨v6, e57, hf6⟩ := hm.val2 (j := 6) (t := 57) rfl rfl (hp ⟨6, .data⟩ (by simp) rfl)
      obtain rfl : v6 = .bool true := hf6
      exact stepV rfl (by go_simp) (hK _ _ rfl (Below.refl _ _))
    · intro L9 a9 W9 hm hn hp hr K9 hK
      have e4 : a9.tmps[4]? = some (.slice A4 32 c4) := (hm.keep2 hn (by rfl)).trans rfl
      obtain ⟨vg, eg, hfg⟩ := hm.val2 (j := 7) (t := 58) rfl rfl (hp ⟨7, .guard⟩ (by simp) rfl)
      obtain rfl : vg = .bool true := hfg
      exact stepVw (wanted_of rfl rfl rfl eg) (by go_simp) (hK _ _ rfl (Below.refl _ _))
    · intro L9 a9 W9 hm hn hp hr K9 hK
      obtain ⟨v8, e59, hf8⟩ := hm.val2 (j := 8) (t := 59) rfl rfl (hp ⟨8, .data⟩ (by simp) rfl)
      obtain rfl : v8 = .slice A4 32 c4 := hf8
      obtain ⟨vg, eg, hfg⟩ := hm.val2 (j := 7) (t := 58) rfl rfl (hp ⟨7, .guard⟩ (by simp) rfl)
      obtain rfl : vg = .bool true := hfg
      have hcv := hcy W9 (HR4.out.below (below_chain (Below.refl _ w8).drew hr))
      exact stepVw (wanted_of rfl rfl rfl eg) (by go_simp) (hK _ _ rfl (Below.refl _ _))
    · intro L9 a9 W9 hm hn hp hr K9 hK
      have e1 : a9.tmps[1]? = some (.slice (some ⟨g, 0, none⟩) 32 32) := (hm.keep2 hn (by rfl)).trans rfl
      obtain ⟨vg, eg, hfg⟩ := hm.val2 (j := 7) (t := 58) rfl rfl (hp ⟨7, .guard⟩ (by simp) rfl)
      obtain rfl : vg = .bool true := hfg
      exact stepVw (wanted_of rfl rfl rfl eg) (by go_simp) (hK _ _ rfl (Below.refl _ _))
    · intro L9 a9 W9 hm hn hp hr K9 hK
      obtain ⟨v10, e61, hf10⟩ := hm.val2 (j := 10) (t := 61) rfl rfl (hp ⟨10, .data⟩ (by simp) rfl)
      obtain rfl : v10 = .slice (some ⟨g, 0, none⟩) 32 32 := hf10
      obtain ⟨vg, eg, hfg⟩ := hm.val2 (j := 7) (t := 58) rfl rfl (hp ⟨7, .guard⟩ (by simp) rfl)
      obtain rfl : vg = .bool true := hfg
      have hcv := hcx W9 (HR2.out.below (below_chain (Below.refl _ w8).drew hr))
      exact stepVw (wanted_of rfl rfl rfl eg) (by go_simp) (hK _ _ rfl (Below.refl _ _))
    · intro L9 a9 W9 hm hn hp hr K9 hK
      obtain ⟨v9, e60, hf9⟩ := hm.val2 (j := 9) (t := 60) rfl rfl (hp ⟨9, .data⟩ (by simp) rfl)
      obtain rfl : v9 = .string ⟨x.toArray⟩ := hf9
      obtain ⟨v11, e62, hf11⟩ := hm.val2 (j := 11) (t := 62) rfl rfl (hp ⟨11, .data⟩ (by simp) rfl)
      obtain rfl : v11 = .string ⟨x.toArray⟩ := hf11
      obtain ⟨vg, eg, hfg⟩ := hm.val2 (j := 7) (t := 58) rfl rfl (hp ⟨7, .guard⟩ (by simp) rfl)
      obtain rfl : vg = .bool true := hfg
      exact stepVw (wanted_of rfl rfl rfl eg) (by go_simp) (hK _ _ rfl (Below.refl _ _))
    · intro L9 a9 W9 hm hn hp hr K9 hK
      obtain ⟨v7, e58, hf7⟩ := hm.val2 (j := 7) (t := 58) rfl rfl (hp ⟨7, .data⟩ (by simp) rfl)
      obtain rfl : v7 = .bool true := hf7
      obtain ⟨v12, e63, hf12⟩ := hm.val2 (j := 12) (t := 63) rfl rfl (hp ⟨12, .data⟩ (by simp) rfl)
      obtain rfl : v12 = .bool true := hf12
      exact stepV rfl (by go_simp) (hK _ _ rfl (Below.refl _ _))
    · intro L9 a9 W9 hm hn hp hr K9 hK
      obtain ⟨v13, e64, hf13⟩ := hm.val2 (j := 13) (t := 64) rfl rfl (hp ⟨13, .data⟩ (by simp) rfl)
      obtain rfl : v13 = .bool true := hf13
      exact stepV rfl (by go_simp) (hK _ _ rfl (Below.refl _ _))
    · intro L9 a9 W9 hm hn hp hr K9 hK
      have e5 : a9.tmps[5]? = some (.int .i64 0) := (hm.keep2 hn (by rfl)).trans rfl
      obtain ⟨vg, eg, hfg⟩ := hm.val2 (j := 14) (t := 65) rfl rfl (hp ⟨14, .guard⟩ (by simp) rfl)
      obtain rfl : vg = .bool true := hfg
      exact stepVw (wanted_of rfl rfl rfl eg) (by go_simp) (hK _ _ rfl (Below.refl _ _))
    · intro L9 a9 W9 hm hn hp hr K9 hK
      obtain ⟨v15, e66, hf15⟩ := hm.val2 (j := 15) (t := 66) rfl rfl (hp ⟨15, .data⟩ (by simp) rfl)
      obtain rfl : v15 = .int .i64 0 := hf15
      obtain ⟨vg, eg, hfg⟩ := hm.val2 (j := 14) (t := 65) rfl rfl (hp ⟨14, .guard⟩ (by simp) rfl)
      obtain rfl : vg = .bool true := hfg
      exact stepVw (wanted_of rfl rfl rfl eg) (by go_simp) (hK _ _ rfl (Below.refl _ _))
    · intro L9 a9 W9 hm hn hp hr K9 hK
      obtain ⟨v14, e65, hf14⟩ := hm.val2 (j := 14) (t := 65) rfl rfl (hp ⟨14, .data⟩ (by simp) rfl)
      obtain rfl : v14 = .bool true := hf14
      obtain ⟨v16, e67, hf16⟩ := hm.val2 (j := 16) (t := 67) rfl rfl (hp ⟨16, .data⟩ (by simp) rfl)
      obtain rfl : v16 = .bool true := hf16
      exact stepV rfl (by go_simp) (hK _ _ rfl (Below.refl _ _))
    · intro L9 a9 W9 hm hn hp hr K9 hK
      obtain ⟨v17, e68, hf17⟩ := hm.val2 (j := 17) (t := 68) rfl rfl (hp ⟨17, .data⟩ (by simp) rfl)
      obtain rfl : v17 = .bool true := hf17
      exact stepV rfl (by go_simp) (hK _ _ rfl (Below.refl _ _))
    · intro L9 a9 W9 hm hn hp hr K9 hK
      have e7 : a9.tmps[7]? = some (.int .i64 3) := (hm.keep2 hn (by rfl)).trans rfl
      obtain ⟨vg, eg, hfg⟩ := hm.val2 (j := 18) (t := 69) rfl rfl (hp ⟨18, .guard⟩ (by simp) rfl)
      obtain rfl : vg = .bool true := hfg
      exact stepVw (wanted_of rfl rfl rfl eg) (by go_simp) (hK _ _ rfl (Below.refl _ _))
    · intro L9 a9 W9 hm hn hp hr K9 hK
      obtain ⟨v19, e70, hf19⟩ := hm.val2 (j := 19) (t := 70) rfl rfl (hp ⟨19, .data⟩ (by simp) rfl)
      obtain rfl : v19 = .int .i64 3 := hf19
      obtain ⟨vg, eg, hfg⟩ := hm.val2 (j := 18) (t := 69) rfl rfl (hp ⟨18, .guard⟩ (by simp) rfl)
      obtain rfl : vg = .bool true := hfg
      exact stepVw (wanted_of rfl rfl rfl eg) (by go_simp) (hK _ _ rfl (Below.refl _ _))
    · intro L9 a9 W9 hm hn hp hr K9 hK
      obtain ⟨v18, e69, hf18⟩ := hm.val2 (j := 18) (t := 69) rfl rfl (hp ⟨18, .data⟩ (by simp) rfl)
      obtain rfl : v18 = .bool true := hf18
      obtain ⟨v20, e71, hf20⟩ := hm.val2 (j := 20) (t := 71) rfl rfl (hp ⟨20, .data⟩ (by simp) rfl)
      obtain rfl : v20 = .bool true := hf20
      exact stepV rfl (by go_simp) (hK _ _ rfl (Below.refl _ _))
    · intro L9 a9 W9 hm hn hp hr K9 hK
      obtain ⟨v21, e72, hf21⟩ := hm.val2 (j := 21) (t := 72) rfl rfl (hp ⟨21, .data⟩ (by simp) rfl)
      obtain rfl : v21 = .bool true := hf21
      exact stepV rfl (by go_simp) (hK _ _ rfl (Below.refl _ _))
    · intro L9 a9 W9 hm hn hp hr K9 hK
      have e11 : a9.tmps[11]? = some (.int .i64 0) := (hm.keep2 hn (by rfl)).trans rfl
      obtain ⟨vg, eg, hfg⟩ := hm.val2 (j := 22) (t := 73) rfl rfl (hp ⟨22, .guard⟩ (by simp) rfl)
      obtain rfl : vg = .bool true := hfg
      exact stepVw (wanted_of rfl rfl rfl eg) (by go_simp) (hK _ _ rfl (Below.refl _ _))
    · intro L9 a9 W9 hm hn hp hr K9 hK
      obtain ⟨v23, e74, hf23⟩ := hm.val2 (j := 23) (t := 74) rfl rfl (hp ⟨23, .data⟩ (by simp) rfl)
      obtain rfl : v23 = .int .i64 0 := hf23
      obtain ⟨vg, eg, hfg⟩ := hm.val2 (j := 22) (t := 73) rfl rfl (hp ⟨22, .guard⟩ (by simp) rfl)
      obtain rfl : vg = .bool true := hfg
      exact stepVw (wanted_of rfl rfl rfl eg) (by go_simp) (hK _ _ rfl (Below.refl _ _))
    · intro L9 a9 W9 hm hn hp hr K9 hK
      obtain ⟨v22, e73, hf22⟩ := hm.val2 (j := 22) (t := 73) rfl rfl (hp ⟨22, .data⟩ (by simp) rfl)
      obtain rfl : v22 = .bool true := hf22
      obtain ⟨v24, e75, hf24⟩ := hm.val2 (j := 24) (t := 75) rfl rfl (hp ⟨24, .data⟩ (by simp) rfl)
      obtain rfl : v24 = .bool true := hf24
      exact stepV rfl (by go_simp) (hK _ _ rfl (Below.refl _ _))
    · intro L9 a9 W9 hm hn hp hr K9 hK
      obtain ⟨v25, e76, hf25⟩ := hm.val2 (j := 25) (t := 76) rfl rfl (hp ⟨25, .data⟩ (by simp) rfl)
      obtain rfl : v25 = .bool true := hf25
      exact stepV rfl (by go_simp) (hK _ _ rfl (Below.refl _ _))
    · intro L9 a9 W9 hm hn hp hr K9 hK
      have e13 : a9.tmps[13]? = some (.int .i64 0) := (hm.keep2 hn (by rfl)).trans rfl
      obtain ⟨vg, eg, hfg⟩ := hm.val2 (j := 26) (t := 77) rfl rfl (hp ⟨26, .guard⟩ (by simp) rfl)
      obtain rfl : vg = .bool true := hfg
      exact stepVw (wanted_of rfl rfl rfl eg) (by go_simp) (hK _ _ rfl (Below.refl _ _))
    · intro L9 a9 W9 hm hn hp hr K9 hK
      obtain ⟨v27, e78, hf27⟩ := hm.val2 (j := 27) (t := 78) rfl rfl (hp ⟨27, .data⟩ (by simp) rfl)
      obtain rfl : v27 = .int .i64 0 := hf27
      obtain ⟨vg, eg, hfg⟩ := hm.val2 (j := 26) (t := 77) rfl rfl (hp ⟨26, .guard⟩ (by simp) rfl)
      obtain rfl : vg = .bool true := hfg
      exact stepVw (wanted_of rfl rfl rfl eg) (by go_simp) (hK _ _ rfl (Below.refl _ _))
    · intro L9 a9 W9 hm hn hp hr K9 hK
      obtain ⟨v26, e77, hf26⟩ := hm.val2 (j := 26) (t := 77) rfl rfl (hp ⟨26, .data⟩ (by simp) rfl)
      obtain rfl : v26 = .bool true := hf26
      obtain ⟨v28, e79, hf28⟩ := hm.val2 (j := 28) (t := 79) rfl rfl (hp ⟨28, .data⟩ (by simp) rfl)
      obtain rfl : v28 = .bool true := hf28
      exact stepV rfl (by go_simp) (hK _ _ rfl (Below.refl _ _))
    · intro L9 a9 W9 hm hn hp hr K9 hK
      obtain ⟨v29, e80, hf29⟩ := hm.val2 (j := 29) (t := 80) rfl rfl (hp ⟨29, .data⟩ (by simp) rfl)
      obtain rfl : v29 = .bool true := hf29
      exact stepV rfl (by go_simp) (hK _ _ rfl (Below.refl _ _))
    · intro L9 a9 W9 hm hn hp hr K9 hK
      have e12 : a9.tmps[12]? = some (.pointer (some ⟨cd, 0, none⟩)) := (hm.keep2 hn (by rfl)).trans rfl
      obtain ⟨vg, eg, hfg⟩ := hm.val2 (j := 30) (t := 81) rfl rfl (hp ⟨30, .guard⟩ (by simp) rfl)
      obtain rfl : vg = .bool true := hfg
      exact stepVw (wanted_of rfl rfl rfl eg) (by go_simp) (hK _ _ rfl (Below.refl _ _))
    · intro L9 a9 W9 hm hn hp hr K9 hK
      obtain ⟨v31, e82, hf31⟩ := hm.val2 (j := 31) (t := 82) rfl rfl (hp ⟨31, .data⟩ (by simp) rfl)
      obtain rfl : v31 = .pointer (some ⟨cd, 0, none⟩) := hf31
      obtain ⟨vg, eg, hfg⟩ := hm.val2 (j := 30) (t := 81) rfl rfl (hp ⟨30, .guard⟩ (by simp) rfl)
      obtain rfl : vg = .bool true := hfg
      exact stepVw (wanted_of rfl rfl rfl eg) (by go_simp) (hK _ _ rfl (Below.refl _ _))
    · intro L9 a9 W9 hm hn hp hr K9 hK
      obtain ⟨v30, e81, hf30⟩ := hm.val2 (j := 30) (t := 81) rfl rfl (hp ⟨30, .data⟩ (by simp) rfl)
      obtain rfl : v30 = .bool true := hf30
      obtain ⟨v32, e83, hf32⟩ := hm.val2 (j := 32) (t := 83) rfl rfl (hp ⟨32, .data⟩ (by simp) rfl)
      obtain rfl : v32 = .bool true := hf32
      exact stepV rfl (by go_simp) (hK _ _ rfl (Below.refl _ _))
    · intro L9 a9 W9 hm hn hp hr K9 hK
      obtain ⟨v33, e84, hf33⟩ := hm.val2 (j := 33) (t := 84) rfl rfl (hp ⟨33, .data⟩ (by simp) rfl)
      obtain rfl : v33 = .bool true := hf33
      exact stepV rfl (by go_simp) (hK _ _ rfl (Below.refl _ _))
    · intro L9 a9 W9 hm hn hp hr K9 hK
      have e12 : a9.tmps[12]? = some (.pointer (some ⟨cd, 0, none⟩)) := (hm.keep2 hn (by rfl)).trans rfl
      obtain ⟨vg, eg, hfg⟩ := hm.val2 (j := 34) (t := 85) rfl rfl (hp ⟨34, .guard⟩ (by simp) rfl)
      obtain rfl : vg = .bool true := hfg
      exact stepVw (wanted_of rfl rfl rfl eg) (by go_simp) (hK _ _ rfl (Below.refl _ _))
    · intro L9 a9 W9 hm hn hp hr K9 hK
      obtain ⟨v35, e86, hf35⟩ := hm.val2 (j := 35) (t := 86) rfl rfl (hp ⟨35, .data⟩ (by simp) rfl)
      obtain rfl : v35 = .pointer (some ⟨cd, 0, none⟩) := hf35
      obtain ⟨vg, eg, hfg⟩ := hm.val2 (j := 34) (t := 85) rfl rfl (hp ⟨34, .guard⟩ (by simp) rfl)
      obtain rfl : vg = .bool true := hfg
      exact stepCw (wanted_of rfl rfl rfl eg) 17 #[.pointer (some ⟨cd, 0, none⟩)] (by go_simp) (fun v w' => v = .pointer (some ⟨Λd.mb, 0, none⟩) ∧ w' = W9) ((HMD.out W9 (below_chain (Below.refl _ w8).drew hr)).mono fun e w' h => ⟨_, h.1, rfl, h.2⟩) (fun v w' h => hK v w' h.1 (by rw [h.2]; exact Below.refl _ _))
    · intro L9 a9 W9 hm hn hp hr K9 hK
      obtain ⟨v36, e87, hf36⟩ := hm.val2 (j := 36) (t := 87) rfl rfl (hp ⟨36, .data⟩ (by simp) rfl)
      obtain rfl : v36 = .pointer (some ⟨Λd.mb, 0, none⟩) := hf36
      obtain ⟨vg, eg, hfg⟩ := hm.val2 (j := 34) (t := 85) rfl rfl (hp ⟨34, .guard⟩ (by simp) rfl)
      obtain rfl : vg = .bool true := hfg
      exact stepCw (wanted_of rfl rfl rfl eg) 18 #[.pointer (some ⟨Λd.mb, 0, none⟩)] (by go_simp) (fun v w' => (∃ A c, v = .slice A n c ∧ RowV w' A (bytesV img) ∧ ∀ a, A = some a → a.spot = none) ∧ Below W9.heap.size W9 w') ((HID.out W9 (below_chain (Below.refl _ w8).drew hr)).mono fun e w' h => by obtain ⟨A, c, h1, h2, h3, h4⟩ := h; exact ⟨_, h1, ⟨A, c, rfl, h2, h3⟩, h4⟩) (fun v w' h => hK v w' h.1 h.2)
    · intro L9 a9 W9 hm hn hp hr K9 hK
      obtain ⟨v37, e88, hf37⟩ := hm.val2 (j := 37) (t := 88) rfl rfl (hp ⟨37, .data⟩ (by simp) rfl)
      obtain ⟨A, c, rfl, hrow, hsp⟩ := hf37
      obtain ⟨vg, eg, hfg⟩ := hm.val2 (j := 34) (t := 85) rfl rfl (hp ⟨34, .guard⟩ (by simp) rfl)
      obtain rfl : vg = .bool true := hfg
      have hcv := conv_row (c := c) HN.out hsp W9 hrow
      exact stepVw (wanted_of rfl rfl rfl eg) (by go_simp) (hK _ _ rfl (Below.refl _ _))
    · intro L9 a9 W9 hm hn hp hr K9 hK
      have e8 : a9.tmps[8]? = some (.pointer (some ⟨cc, 0, none⟩)) := (hm.keep2 hn (by rfl)).trans rfl
      obtain ⟨vg, eg, hfg⟩ := hm.val2 (j := 34) (t := 85) rfl rfl (hp ⟨34, .guard⟩ (by simp) rfl)
      obtain rfl : vg = .bool true := hfg
      exact stepVw (wanted_of rfl rfl rfl eg) (by go_simp) (hK _ _ rfl (Below.refl _ _))
    · intro L9 a9 W9 hm hn hp hr K9 hK
      obtain ⟨v39, e90, hf39⟩ := hm.val2 (j := 39) (t := 90) rfl rfl (hp ⟨39, .data⟩ (by simp) rfl)
      obtain rfl : v39 = .pointer (some ⟨cc, 0, none⟩) := hf39
      obtain ⟨vg, eg, hfg⟩ := hm.val2 (j := 34) (t := 85) rfl rfl (hp ⟨34, .guard⟩ (by simp) rfl)
      obtain rfl : vg = .bool true := hfg
      exact stepCw (wanted_of rfl rfl rfl eg) 17 #[.pointer (some ⟨cc, 0, none⟩)] (by go_simp) (fun v w' => v = .pointer (some ⟨Λc.mb, 0, none⟩) ∧ w' = W9) ((HMC.out W9 (below_chain (Below.refl _ w8).drew hr)).mono fun e w' h => ⟨_, h.1, rfl, h.2⟩) (fun v w' h => hK v w' h.1 (by rw [h.2]; exact Below.refl _ _))
    · intro L9 a9 W9 hm hn hp hr K9 hK
      obtain ⟨v40, e91, hf40⟩ := hm.val2 (j := 40) (t := 91) rfl rfl (hp ⟨40, .data⟩ (by simp) rfl)
      obtain rfl : v40 = .pointer (some ⟨Λc.mb, 0, none⟩) := hf40
      obtain ⟨vg, eg, hfg⟩ := hm.val2 (j := 34) (t := 85) rfl rfl (hp ⟨34, .guard⟩ (by simp) rfl)
      obtain rfl : vg = .bool true := hfg
      exact stepCw (wanted_of rfl rfl rfl eg) 18 #[.pointer (some ⟨Λc.mb, 0, none⟩)] (by go_simp) (fun v w' => (∃ A c, v = .slice A n c ∧ RowV w' A (bytesV img) ∧ ∀ a, A = some a → a.spot = none) ∧ Below W9.heap.size W9 w') ((HIC.out W9 (below_chain (Below.refl _ w8).drew hr)).mono fun e w' h => by obtain ⟨A, c, h1, h2, h3, h4⟩ := h; exact ⟨_, h1, ⟨A, c, rfl, h2, h3⟩, h4⟩) (fun v w' h => hK v w' h.1 h.2)
    · intro L9 a9 W9 hm hn hp hr K9 hK
      obtain ⟨v41, e92, hf41⟩ := hm.val2 (j := 41) (t := 92) rfl rfl (hp ⟨41, .data⟩ (by simp) rfl)
      obtain ⟨A, c, rfl, hrow, hsp⟩ := hf41
      obtain ⟨vg, eg, hfg⟩ := hm.val2 (j := 34) (t := 85) rfl rfl (hp ⟨34, .guard⟩ (by simp) rfl)
      obtain rfl : vg = .bool true := hfg
      have hcv := conv_row (c := c) HN.out hsp W9 hrow
      exact stepVw (wanted_of rfl rfl rfl eg) (by go_simp) (hK _ _ rfl (Below.refl _ _))
    · intro L9 a9 W9 hm hn hp hr K9 hK
      obtain ⟨v38, e89, hf38⟩ := hm.val2 (j := 38) (t := 89) rfl rfl (hp ⟨38, .data⟩ (by simp) rfl)
      obtain rfl : v38 = .string ⟨img.toArray⟩ := hf38
      obtain ⟨v42, e93, hf42⟩ := hm.val2 (j := 42) (t := 93) rfl rfl (hp ⟨42, .data⟩ (by simp) rfl)
      obtain rfl : v42 = .string ⟨img.toArray⟩ := hf42
      obtain ⟨vg, eg, hfg⟩ := hm.val2 (j := 34) (t := 85) rfl rfl (hp ⟨34, .guard⟩ (by simp) rfl)
      obtain rfl : vg = .bool true := hfg
      exact stepVw (wanted_of rfl rfl rfl eg) (by go_simp) (hK _ _ rfl (Below.refl _ _))
    · intro L9 a9 W9 hm hn hp hr K9 hK
      obtain ⟨v34, e85, hf34⟩ := hm.val2 (j := 34) (t := 85) rfl rfl (hp ⟨34, .data⟩ (by simp) rfl)
      obtain rfl : v34 = .bool true := hf34
      obtain ⟨v43, e94, hf43⟩ := hm.val2 (j := 43) (t := 94) rfl rfl (hp ⟨43, .data⟩ (by simp) rfl)
      obtain rfl : v43 = .bool true := hf43
      exact stepV rfl (by go_simp) (hK _ _ rfl (Below.refl _ _))
    · intro L9 a9 W9 hm hn hp hr K9 hK
      obtain ⟨v44, e95, hf44⟩ := hm.val2 (j := 44) (t := 95) rfl rfl (hp ⟨44, .data⟩ (by simp) rfl)
      obtain rfl : v44 = .bool true := hf44
      exact stepV rfl (by go_simp) (hK _ _ rfl (Below.refl _ _))
  · intro vs w9 hF hR
    have h45 : vs 45 = .bool true := hF 45 (by decide)
    have HFIN := Lib.hid (below_chain HB8.out (below_chain (Below.refl _ w8).drew hR))
    clear hF hR
    simp only [putAll, Act.put, List.setIfInBounds_toArray, List.set_cons_zero, List.set_cons_succ, Nat.zero_add, Nat.reduceAdd]
    rw [h45]
    go_wp2_with fail
    go_ret
    exact ⟨rfl, HFIN.out⟩
end Go.Proofs.YtoafmlegamjlpaaGreatDoor
