/-
  The walk of the law ImageBack. No condition but the package's tables and what lies there.
-/
import Derived.Test.YtoafmlegamjlpaaGreatDoorKX
set_option linter.unusedVariables false
set_option linter.unusedSimpArgs false
namespace Go.Proofs.YtoafmlegamjlpaaGreatDoor
open Go.RowKit Go.Colm Go.Cap Go.Mixp Go.Imgp Go.Maps
set_option linter.unusedVariables false
set_option linter.unusedSimpArgs false
theorem back_sqz (A : Option Addr) (cap : Nat) (b : List UInt8) (w : World) (hr : RowV w A (bytesV b)) (hcap : b.length ≤ cap) (hlen : b.length < 1099511627776) (hm : mayB b.length = true) :
    Calls Tryz.prog 8 #[.slice A b.length cap] w fun e w' => ∃ A1 c1, e = .returned (.tuple #[.slice A1 (sqzL b).length c1, .int .i64 0]) ∧ (sqzL b).length ≤ c1 ∧ RowV w' A1 (bytesV (sqzL b)) ∧ (∀ a, A1 = some a → a.spot = none) ∧ Below w.heap.size w w' := by
  have hq : sqz b = (sqzL b, 0) := by rw [sqz, if_pos hm]
  refine (isqz_ok A cap b w hr hcap hlen).mono ?_
  rintro e w1 ⟨v1, rfl, hv1, hb1⟩
  rw [hq] at hv1 ⊢
  obtain ⟨A1, c1, rfl, h1, hr1, hs1⟩ := own_conv hv1
  exact ⟨A1, c1, rfl, h1, hr1, hs1, hb1⟩
theorem back_bad (A : Option Addr) (cap : Nat) (b : List UInt8) (w : World) (hr : RowV w A (bytesV b)) (hcap : b.length ≤ cap) (hlen : b.length < 1099511627776) (hm : ¬ mayB b.length = true) :
    Calls Tryz.prog 8 #[.slice A b.length cap] w fun e w' => ∃ A1 c1, e = .returned (.tuple #[.slice A1 0 c1, .int .i64 2]) ∧ Below w.heap.size w w' := by
  have hq : sqz b = ([], 2) := by rw [sqz, if_neg hm]
  refine (isqz_ok A cap b w hr hcap hlen).mono ?_
  rintro e w1 ⟨v1, rfl, hv1, hb1⟩
  rw [hq] at hv1 ⊢
  obtain ⟨A1, c1, rfl, h1, hr1, hs1⟩ := own_conv hv1
  exact ⟨A1, c1, rfl, hb1⟩
theorem sqzL_small {a : List UInt8} (hl : a.length ≤ 20000) (hm : mayB a.length = true) : (sqzL a).length < 100000 := by
  have h16 := (Go.Imgp.may_iff.1 hm).2.2
  have hc := cnt_le a (a.length / 16)
  rw [sqzL, List.length_append, head_length _ h16, le4_length]
  omega
theorem row_spot {w : World} {A : Option Addr} {l : List UInt8} (h : RowV w A (bytesV l)) (hl : 0 < l.length) : ∀ x, A = some x → x.spot = none := fun x hx => by
  obtain ⟨b, off, e, _⟩ := h 0 _ (by rw [bytesV, List.getElem?_map, List.getElem?_eq_getElem hl]; rfl)
  rw [hx] at e
  cases e
  rfl
theorem spr_pos {b : List UInt8} (h : (spr b).2 = 0) : 0 < b.length := by
  have h1 := (sqz_spr h).2
  rw [← h1, sqzL, List.length_append, le4_length]
  omega
theorem sprL_small {b : List UInt8} (h : (spr b).2 = 0) : (spr b).1.length < 10000000 := by
  have h1 := (Go.Imgp.may_iff.1 (sqz_spr h).1).2.1
  omega
set_option maxRecDepth 100000 in
set_option maxHeartbeats 12800000 in
theorem back_ok (A B : Option Addr) (ca cb : Nat) (a b : List UInt8) (w : World) (he : EnvC w) (hra : RowV w A (bytesV a)) (hca : a.length ≤ ca) (hrb : RowV w B (bytesV b)) (hcb : b.length ≤ cb) :
    Calls Tryz.prog 5 #[.slice A a.length ca, .slice B b.length cb] w fun e w' => e = .returned (.bool true) ∧ Below w.heap.size w w' := by
  have HE := Lib.hid he
  by_cases hbig : 20000 < a.length ∨ 20000 < b.length
  · obtain ⟨L, hL⟩ : ∃ L, L = a.length := ⟨_, rfl⟩
    obtain ⟨M, hM⟩ : ∃ M, M = b.length := ⟨_, rfl⟩
    rw [← hL, ← hM] at hbig ⊢
    clear he hra hca hrb hcb hL hM
    by_cases hl : 20000 < L
    · have hd : decide ((20000 : Int) < (L : Int)) = true := by simp; omega
      have hd2 : decide (20000 < L) = true := by simp; omega
      go_enter Tryz.func5, Tryz.ntmps5
      go_wp2_with fail
      refine (opens_ok _ HE.out).mono ?_
      rintro e w1 ⟨rfl, hb1⟩
      have HBF := Lib.hid hb1
      clear hb1
      go_wp2_with fail
      go_ret
      exact ⟨rfl, HBF.out⟩
    · have hd : decide ((20000 : Int) < (L : Int)) = false := by simp; omega
      have hd2 : decide (20000 < L) = false := by simp; omega
      have hd3 : decide ((20000 : Int) < (M : Int)) = true := by simp; omega
      have hd4 : decide (20000 < M) = true := by simp; omega
      go_enter Tryz.func5, Tryz.ntmps5
      go_wp2_with fail
      refine (opens_ok _ HE.out).mono ?_
      rintro e w1 ⟨rfl, hb1⟩
      have HBF := Lib.hid hb1
      clear hb1
      go_wp2_with fail
      go_ret
      exact ⟨rfl, HBF.out⟩
  have ha20 : a.length ≤ 20000 := by omega
  have hb20 : b.length ≤ 20000 := by omega
  have HSP := Lib.hid (fun W (hb : Below w.heap.size w W) => back_tail B cb b W (hrb.below hb) hcb hb20)
  by_cases hm : mayB a.length = true
  · have HQ := Lib.hid (back_sqz A ca a w hra hca (by omega) hm)
    have hsl := sqzL_small ha20 hm
    have HSS := Lib.hid (spr_sqz hm)
    have hml := (Go.Imgp.may_iff.1 hm).1
    have HRA := Lib.hid (fun W (hb : Below w.heap.size w W) => conv_row (c := ca) rfl (row_spot hra (by omega)) W (hra.below hb))
    by_cases hf : (spr b).2 = 0
    · have hq := sqz_spr hf
      have hbl := spr_pos hf
      have HRB := Lib.hid (fun W (hb : Below w.heap.size w W) => conv_row (c := cb) rfl (row_spot hrb (by omega)) W (hrb.below hb))
      have HQ2 := Lib.hid (fun A1 c1 W (hr : RowV W A1 (bytesV (spr b).1)) (hc : (spr b).1.length ≤ c1) => back_sqz A1 c1 (spr b).1 W hr hc (by have := sprL_small hf; omega) hq.1)
      rw [hq.2] at HQ2
      obtain ⟨L, hL⟩ : ∃ L, L = a.length := ⟨_, rfl⟩
      obtain ⟨M, hM⟩ : ∃ M, M = b.length := ⟨_, rfl⟩
      rw [← hL] at ha20 HQ HRA hml ⊢
      rw [← hM] at hb20 HSP HRB hbl ⊢
      have hd : decide ((20000 : Int) < (L : Int)) = false := by simp; omega
      have hd2 : decide (20000 < L) = false := by simp; omega
      have hd3 : decide ((20000 : Int) < (M : Int)) = false := by simp; omega
      have hd4 : decide (20000 < M) = false := by simp; omega
      have HLA := Lib.hid hL
      obtain ⟨x, hx⟩ : ∃ x, x = sqzL a := ⟨_, rfl⟩
      rw [← hx] at HQ hsl HSS
      have HSX := Lib.hid (fun A1 c1 W (hr : RowV W A1 (bytesV x)) (hc : x.length ≤ c1) => ispr_ok A1 c1 x W hr hc (by omega))
      rw [HSS.out] at HSX
      dsimp only at HSX
      have HMB := Lib.hid hM
      obtain ⟨y, hy⟩ : ∃ y, y = (spr b).1 := ⟨_, rfl⟩
      obtain ⟨k, hk⟩ : ∃ k, k = (spr b).2 := ⟨_, rfl⟩
      rw [← hk] at hf
      rw [← hy, ← hk] at HSP
      rw [← hy] at HQ2
      subst hf
      clear he hra hca hrb hcb hL hM hbig hm ha20 hb20 hy hk hx hq
      go_enter Tryz.func5, Tryz.ntmps5
      go_wp2_with fail
      refine HQ.out.mono ?_
      rintro e w1 ⟨A1, c1, rfl, hc1, hr1, _, hb1⟩
      have HSX1 := Lib.hid (HSX.out A1 c1 w1 hr1 hc1)
      have HB1 := Lib.hid hb1
      clear hb1 hr1 hc1
      go_wp2_with fail
      refine HSX1.out.mono ?_
      rintro e w2 ⟨v2, rfl, hv2, hb2⟩
      obtain ⟨A2, c2, rfl, _, hr2, hs2⟩ := own_conv hv2
      have hcv1 := conv_row (c := c2) rfl hs2 w2 hr2
      have HB2 := Lib.hid (below_chain HB1.out hb2)
      have hcv2 := HRA.out w2 HB2.out
      clear hv2 hb2 hr2 hs2
      go_wp2_with fail
      refine (HSP.out _ HB2.out).mono ?_
      rintro e w3 ⟨A3, c3, rfl, hc3, hr3, _, hb3⟩
      have HB3 := Lib.hid (below_chain HB2.out hb3)
      have HQ3 := Lib.hid (HQ2.out A3 c3 w3 hr3 hc3)
      clear hb3 hr3 hc3 hcv1 hcv2
      go_wp2_with fail
      refine HQ3.out.mono ?_
      rintro e w4 ⟨A4, c4, rfl, hc4, hr4, hs4, hb4⟩
      have HB4 := Lib.hid (below_chain HB3.out hb4)
      have hcv3 := conv_row (c := c4) rfl hs4 w4 hr4
      have hcv4 := HRB.out w4 HB4.out
      clear hb4 hr4 hc4 hs4
      go_wp2_with fail
      refine (opens_ok _ (HE.out.below HB4.out)).mono ?_
      rintro e w5 ⟨rfl, hbf⟩
      have HBF := Lib.hid (below_chain HB4.out hbf)
      clear hbf
      go_wp2_with fail
      go_ret
      exact ⟨rfl, HBF.out⟩
    · have hbad := spr_bad hf
      have hf2 : ¬ (((spr b).2 : Int) = 0) := by omega
      have hf3 : ((((spr b).2 : Nat) : Int) != 0) = true := by simp; omega
      obtain ⟨L, hL⟩ : ∃ L, L = a.length := ⟨_, rfl⟩
      obtain ⟨M, hM⟩ : ∃ M, M = b.length := ⟨_, rfl⟩
      rw [← hL] at ha20 HQ HRA hml ⊢
      rw [← hM] at hb20 HSP ⊢
      have hd : decide ((20000 : Int) < (L : Int)) = false := by simp; omega
      have hd2 : decide (20000 < L) = false := by simp; omega
      have hd3 : decide ((20000 : Int) < (M : Int)) = false := by simp; omega
      have hd4 : decide (20000 < M) = false := by simp; omega
      have HLA := Lib.hid hL
      obtain ⟨x, hx⟩ : ∃ x, x = sqzL a := ⟨_, rfl⟩
      rw [← hx] at HQ hsl HSS
      have HSX := Lib.hid (fun A1 c1 W (hr : RowV W A1 (bytesV x)) (hc : x.length ≤ c1) => ispr_ok A1 c1 x W hr hc (by omega))
      rw [HSS.out] at HSX
      dsimp only at HSX
      have HMB := Lib.hid hM
      obtain ⟨y, hy⟩ : ∃ y, y = (spr b).1 := ⟨_, rfl⟩
      obtain ⟨k, hk⟩ : ∃ k, k = (spr b).2 := ⟨_, rfl⟩
      rw [← hk] at hf2 hf3
      rw [← hy] at hbad
      rw [← hy, ← hk] at HSP
      subst hbad
      clear he hra hca hrb hcb hL hM hbig hm ha20 hb20 hy hk hx hf
      go_enter Tryz.func5, Tryz.ntmps5
      go_wp2_with fail
      refine HQ.out.mono ?_
      rintro e w1 ⟨A1, c1, rfl, hc1, hr1, _, hb1⟩
      have HSX1 := Lib.hid (HSX.out A1 c1 w1 hr1 hc1)
      have HB1 := Lib.hid hb1
      clear hb1 hr1 hc1
      go_wp2_with fail
      refine HSX1.out.mono ?_
      rintro e w2 ⟨v2, rfl, hv2, hb2⟩
      obtain ⟨A2, c2, rfl, _, hr2, hs2⟩ := own_conv hv2
      have hcv1 := conv_row (c := c2) rfl hs2 w2 hr2
      have HB2 := Lib.hid (below_chain HB1.out hb2)
      have hcv2 := HRA.out w2 HB2.out
      clear hv2 hb2 hr2 hs2
      go_wp2_with fail
      refine (HSP.out _ HB2.out).mono ?_
      rintro e w3 ⟨A3, c3, rfl, hc3, hr3, _, hb3⟩
      have HB3 := Lib.hid (below_chain HB2.out hb3)
      clear hb3 hr3 hc3 hcv1 hcv2
      go_wp2_with fail
      refine (opens_ok _ (HE.out.below HB3.out)).mono ?_
      rintro e w5 ⟨rfl, hbf⟩
      have HBF := Lib.hid (below_chain HB3.out hbf)
      clear hbf
      go_wp2_with fail
      go_ret
      exact ⟨rfl, HBF.out⟩
  · have HQ := Lib.hid (back_bad A ca a w hra hca (by omega) hm)
    by_cases hf : (spr b).2 = 0
    · have hq := sqz_spr hf
      have hbl := spr_pos hf
      have HRB := Lib.hid (fun W (hb : Below w.heap.size w W) => conv_row (c := cb) rfl (row_spot hrb (by omega)) W (hrb.below hb))
      have HQ2 := Lib.hid (fun A1 c1 W (hr : RowV W A1 (bytesV (spr b).1)) (hc : (spr b).1.length ≤ c1) => back_sqz A1 c1 (spr b).1 W hr hc (by have := sprL_small hf; omega) hq.1)
      rw [hq.2] at HQ2
      obtain ⟨L, hL⟩ : ∃ L, L = a.length := ⟨_, rfl⟩
      obtain ⟨M, hM⟩ : ∃ M, M = b.length := ⟨_, rfl⟩
      rw [← hL] at ha20 HQ ⊢
      rw [← hM] at hb20 HSP HRB hbl ⊢
      have hd : decide ((20000 : Int) < (L : Int)) = false := by simp; omega
      have hd2 : decide (20000 < L) = false := by simp; omega
      have hd3 : decide ((20000 : Int) < (M : Int)) = false := by simp; omega
      have hd4 : decide (20000 < M) = false := by simp; omega
      have HMB := Lib.hid hM
      obtain ⟨y, hy⟩ : ∃ y, y = (spr b).1 := ⟨_, rfl⟩
      obtain ⟨k, hk⟩ : ∃ k, k = (spr b).2 := ⟨_, rfl⟩
      rw [← hk] at hf
      rw [← hy, ← hk] at HSP
      rw [← hy] at HQ2
      subst hf
      clear he hra hca hrb hcb hL hM hbig hm ha20 hb20 hy hk hq
      go_enter Tryz.func5, Tryz.ntmps5
      go_wp2_with fail
      refine HQ.out.mono ?_
      rintro e w2 ⟨A1, c1, rfl, hb2⟩
      have HB2 := Lib.hid hb2
      clear hb2
      go_wp2_with fail
      refine (HSP.out _ HB2.out).mono ?_
      rintro e w3 ⟨A3, c3, rfl, hc3, hr3, _, hb3⟩
      have HB3 := Lib.hid (below_chain HB2.out hb3)
      have HQ3 := Lib.hid (HQ2.out A3 c3 w3 hr3 hc3)
      clear hb3 hr3 hc3
      go_wp2_with fail
      refine HQ3.out.mono ?_
      rintro e w4 ⟨A4, c4, rfl, hc4, hr4, hs4, hb4⟩
      have HB4 := Lib.hid (below_chain HB3.out hb4)
      have hcv3 := conv_row (c := c4) rfl hs4 w4 hr4
      have hcv4 := HRB.out w4 HB4.out
      clear hb4 hr4 hc4 hs4
      go_wp2_with fail
      refine (opens_ok _ (HE.out.below HB4.out)).mono ?_
      rintro e w5 ⟨rfl, hbf⟩
      have HBF := Lib.hid (below_chain HB4.out hbf)
      clear hbf
      go_wp2_with fail
      go_ret
      exact ⟨rfl, HBF.out⟩
    · have hbad := spr_bad hf
      have hf2 : ¬ (((spr b).2 : Int) = 0) := by omega
      have hf3 : ((((spr b).2 : Nat) : Int) != 0) = true := by simp; omega
      obtain ⟨L, hL⟩ : ∃ L, L = a.length := ⟨_, rfl⟩
      obtain ⟨M, hM⟩ : ∃ M, M = b.length := ⟨_, rfl⟩
      rw [← hL] at ha20 HQ ⊢
      rw [← hM] at hb20 HSP ⊢
      have hd : decide ((20000 : Int) < (L : Int)) = false := by simp; omega
      have hd2 : decide (20000 < L) = false := by simp; omega
      have hd3 : decide ((20000 : Int) < (M : Int)) = false := by simp; omega
      have hd4 : decide (20000 < M) = false := by simp; omega
      have HMB := Lib.hid hM
      obtain ⟨y, hy⟩ : ∃ y, y = (spr b).1 := ⟨_, rfl⟩
      obtain ⟨k, hk⟩ : ∃ k, k = (spr b).2 := ⟨_, rfl⟩
      rw [← hk] at hf2 hf3
      rw [← hy] at hbad
      rw [← hy, ← hk] at HSP
      subst hbad
      clear he hra hca hrb hcb hL hM hbig hm ha20 hb20 hy hk hf
      go_enter Tryz.func5, Tryz.ntmps5
      go_wp2_with fail
      refine HQ.out.mono ?_
      rintro e w2 ⟨A1, c1, rfl, hb2⟩
      have HB2 := Lib.hid hb2
      clear hb2
      go_wp2_with fail
      refine (HSP.out _ HB2.out).mono ?_
      rintro e w3 ⟨A3, c3, rfl, hc3, hr3, _, hb3⟩
      have HB3 := Lib.hid (below_chain HB2.out hb3)
      clear hb3 hr3 hc3
      go_wp2_with fail
      refine (opens_ok _ (HE.out.below HB3.out)).mono ?_
      rintro e w5 ⟨rfl, hbf⟩
      have HBF := Lib.hid (below_chain HB3.out hbf)
      clear hbf
      go_wp2_with fail
      go_ret
      exact ⟨rfl, HBF.out⟩
end Go.Proofs.YtoafmlegamjlpaaGreatDoor
