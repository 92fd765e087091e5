/-
  The walks of the laws ImageSqueezes, ImageSpreads, ImageBack. No condition but the package's tables and what lies there.
  The walks of the laws ImageSqueezes, ImageBack. No condition but the package's tables and what lies there.
-/
import Derived.Test.YtoafmlegamjlpaaGreatDoorKW
set_option linter.unusedVariables false
set_option linter.unusedSimpArgs false
namespace Go.Proofs.YtoafmlegamjlpaaGreatDoor
open Go.RowKit Go.Colm Go.Cap Go.Mixp Go.Imgp Go.Maps
set_option linter.unusedVariables false
set_option linter.unusedSimpArgs false
theorem own_conv {B : Nat} {W : World} {v : Value} {l : List UInt8} (h : BOwn 5 B W v l) : ∃ A c, v = .slice A l.length c ∧ l.length ≤ c ∧ RowV W A (bytesV l) ∧ (∀ a, A = some a → a.spot = none) := by
  obtain ⟨A, c, h1, h2, h3, _, h5⟩ := h.slice
  exact ⟨A, c, h1, h2, h3, fun a ha => (h5 a ha).2.1⟩
set_option maxRecDepth 100000 in
set_option maxHeartbeats 6400000 in
theorem spreads_ok (A : Option Addr) (cap : Nat) (b : List UInt8) (w : World) (he : EnvC w) (hr : RowV w A (bytesV b)) (hcap : b.length ≤ cap) :
    Calls Tryz.prog 4 #[.slice A b.length cap] w fun e w' => e = .returned (.bool true) ∧ Below w.heap.size w w' := by
  have HE := Lib.hid he
  by_cases hbig : 20000 < b.length
  · obtain ⟨L, hL⟩ : ∃ L, L = b.length := ⟨_, rfl⟩
    rw [← hL] at hbig ⊢
    have hd : decide ((20000 : Int) < (L : Int)) = true := by simp; omega
    have hd2 : decide (20000 < L) = true := by simp; omega
    clear he hr hcap hL
    go_enter Tryz.func4, Tryz.ntmps4
    go_wp2_with fail
    refine (opens_ok _ HE.out).mono ?_
    rintro e w1 ⟨rfl, hb1⟩
    have HBF := Lib.hid hb1
    clear hb1
    go_wp2_with fail
    go_ret
    exact ⟨rfl, HBF.out⟩
  · have HS := Lib.hid (ispr_ok A cap b w hr hcap (by omega))
    have HT := Lib.hid (fun W (hb : Below w.heap.size w W) => rspr_ok A cap b W (hr.below hb) hcap (by omega))
    obtain ⟨L, hL⟩ : ∃ L, L = b.length := ⟨_, rfl⟩
    rw [← hL] at hbig HS HT ⊢
    have hd : decide ((20000 : Int) < (L : Int)) = false := by simp; omega
    have hd2 : decide (20000 < L) = false := by simp; omega
    obtain ⟨y, hy⟩ : ∃ y, y = (spr b).1 := ⟨_, rfl⟩
    obtain ⟨k, hk⟩ : ∃ k, k = (spr b).2 := ⟨_, rfl⟩
    unfold SprR at HT
    rw [← hy, ← hk] at HS HT
    clear he hr hcap hL hy hk
    go_enter Tryz.func4, Tryz.ntmps4
    go_wp2_with fail
    refine HS.out.mono ?_
    rintro e w1 ⟨v1, rfl, hv1, hb1⟩
    obtain ⟨A1, c1, rfl, _, hr1, hs1⟩ := own_conv hv1
    have HB1 := Lib.hid hb1
    have HR1 := Lib.hid hr1
    clear hv1 hb1 hr1
    go_wp2_with fail
    refine (HT.out _ HB1.out).mono ?_
    rintro e w2 ⟨v2, rfl, hv2, hb2⟩
    obtain ⟨A2, c2, rfl, _, hr2, hs2⟩ := own_conv hv2
    have hcv1 := conv_row (c := c1) rfl hs1 w2 (HR1.out.below hb2)
    have hcv2 := conv_row (c := c2) rfl hs2 w2 hr2
    have HB2 := Lib.hid (below_chain HB1.out hb2)
    clear hv2 hb2 hr2 hs1 hs2
    go_wp2_with fail
    refine (opens_ok _ (HE.out.below HB2.out)).mono ?_
    rintro e w3 ⟨rfl, hbf⟩
    have HBF := Lib.hid (below_chain HB2.out hbf)
    clear hbf
    go_wp2_with fail
    go_ret
    exact ⟨rfl, HBF.out⟩
end Go.Proofs.YtoafmlegamjlpaaGreatDoor
namespace Go.Proofs.YtoafmlegamjlpaaGreatDoor
open Go.RowKit Go.Colm Go.Cap Go.Mixp Go.Imgp Go.Maps
set_option linter.unusedVariables false
set_option linter.unusedSimpArgs false
set_option maxRecDepth 100000 in
set_option maxHeartbeats 6400000 in
theorem squeezes_ok (A : Option Addr) (cap : Nat) (b : List UInt8) (w : World) (he : EnvC w) (hr : RowV w A (bytesV b)) (hcap : b.length ≤ cap) :
    Calls Tryz.prog 3 #[.slice A b.length cap] w fun e w' => e = .returned (.bool true) ∧ Below w.heap.size w w' := by
  have HE := Lib.hid he
  by_cases hbig : 20000 < b.length
  · obtain ⟨L, hL⟩ : ∃ L, L = b.length := ⟨_, rfl⟩
    rw [← hL] at hbig ⊢
    have hd : decide ((20000 : Int) < (L : Int)) = true := by simp; omega
    have hd2 : decide (20000 < L) = true := by simp; omega
    clear he hr hcap hL
    go_enter Tryz.func3, Tryz.ntmps3
    go_wp2_with fail
    refine (opens_ok _ HE.out).mono ?_
    rintro e w1 ⟨rfl, hb1⟩
    have HBF := Lib.hid hb1
    clear hb1
    go_wp2_with fail
    go_ret
    exact ⟨rfl, HBF.out⟩
  · have HS := Lib.hid (isqz_ok A cap b w hr hcap (by omega))
    have HT := Lib.hid (fun W (hb : Below w.heap.size w W) => rsqz_ok A cap b W (hr.below hb) hcap (by omega))
    have HC := Lib.hid (fun W (hb : Below w.heap.size w W) => iconf_ok A cap b W (he.below hb).szs (hr.below hb) hcap (by omega))
    have HD := Lib.hid (fun W (hb : Below w.heap.size w W) => rconf_ok A cap b W (he.below hb).szs (hr.below hb) hcap (by omega))
    obtain ⟨L, hL⟩ : ∃ L, L = b.length := ⟨_, rfl⟩
    rw [← hL] at hbig HS HT HC HD ⊢
    have hd : decide ((20000 : Int) < (L : Int)) = false := by simp; omega
    have hd2 : decide (20000 < L) = false := by simp; omega
    obtain ⟨y, hy⟩ : ∃ y, y = (sqz b).1 := ⟨_, rfl⟩
    obtain ⟨k, hk⟩ : ∃ k, k = (sqz b).2 := ⟨_, rfl⟩
    obtain ⟨p, hp⟩ : ∃ p, p = (cfgL b).1 := ⟨_, rfl⟩
    obtain ⟨q, hq⟩ : ∃ q, q = (cfgL b).2.1 := ⟨_, rfl⟩
    obtain ⟨r, hrr⟩ : ∃ r, r = (cfgL b).2.2 := ⟨_, rfl⟩
    rw [← hy, ← hk] at HS HT
    rw [← hp, ← hq, ← hrr] at HC HD
    clear he hr hcap hL hy hk hp hq hrr
    go_enter Tryz.func3, Tryz.ntmps3
    go_wp2_with fail
    refine HS.out.mono ?_
    rintro e w1 ⟨v1, rfl, hv1, hb1⟩
    obtain ⟨A1, c1, rfl, _, hr1, hs1⟩ := own_conv hv1
    have HB1 := Lib.hid hb1
    have HR1 := Lib.hid hr1
    clear hv1 hb1 hr1
    go_wp2_with fail
    refine (HT.out _ HB1.out).mono ?_
    rintro e w2 ⟨v2, rfl, hv2, hb2⟩
    obtain ⟨A2, c2, rfl, _, hr2, hs2⟩ := own_conv hv2
    have HR1 := Lib.hid (HR1.out.below hb2)
    have HR2 := Lib.hid hr2
    have HB2 := Lib.hid (below_chain HB1.out hb2)
    clear hv2 hb2 hr2
    go_wp2_with fail
    refine (HC.out _ HB2.out).mono ?_
    rintro e w3 ⟨rfl, hb3⟩
    obtain ⟨w4, hw4, hb4, x0, x1⟩ := cfg_box p q w3
    have hb34 := below_chain hb3 hb4
    have HR1 := Lib.hid (HR1.out.below hb34)
    have HR2 := Lib.hid (HR2.out.below hb34)
    have HB4 := Lib.hid (below_chain HB2.out hb34)
    clear hb3 hb4 hb34
    go_upto_region 6 with fail
    rw [← hw4]
    clear hw4
    go_wp2_with fail
    refine (HD.out _ HB4.out).mono ?_
    rintro e w5 ⟨rfl, hb5⟩
    obtain ⟨w6, hw6, hb6, y0, y1⟩ := cfg_box p q w5
    have hb56 := below_chain hb5 hb6
    have x0 := cell_on x0 hb56
    have x1 := cell_on x1 hb56
    have hcv1 := conv_row (c := c1) rfl hs1 w6 (HR1.out.below hb56)
    have hcv2 := conv_row (c := c2) rfl hs2 w6 (HR2.out.below hb56)
    have HB6 := Lib.hid (below_chain HB4.out hb56)
    clear hb5 hb6 hb56 hs1 hs2
    go_upto_region 7 with fail
    rw [← hw6]
    clear hw6
    go_wp2_with fail
    refine (opens_ok _ (HE.out.below HB6.out)).mono ?_
    rintro e w7 ⟨rfl, hbf⟩
    have HBF := Lib.hid (below_chain HB6.out hbf)
    clear hbf
    go_wp2_with fail
    go_ret
    exact ⟨rfl, HBF.out⟩
set_option maxRecDepth 100000 in
set_option maxHeartbeats 6400000 in
theorem back_tail (A : Option Addr) (cap : Nat) (b : List UInt8) (w : World) (hr : RowV w A (bytesV b)) (hcap : b.length ≤ cap) (hlen : b.length ≤ 20000) :
    Calls Tryz.prog 12 #[.slice A b.length cap] w fun e w' => ∃ A1 c1, e = .returned (.tuple #[.slice A1 (spr b).1.length c1, .int .i64 ((spr b).2 : Int)]) ∧ (spr b).1.length ≤ c1 ∧ RowV w' A1 (bytesV (spr b).1) ∧ (∀ a, A1 = some a → a.spot = none) ∧ Below w.heap.size w w' := by
  refine (ispr_ok A cap b w hr hcap (by omega)).mono ?_
  rintro e w1 ⟨v1, rfl, hv1, hb1⟩
  obtain ⟨A1, c1, rfl, h1, hr1, hs1⟩ := own_conv hv1
  exact ⟨A1, c1, rfl, h1, hr1, hs1, hb1⟩
end Go.Proofs.YtoafmlegamjlpaaGreatDoor
