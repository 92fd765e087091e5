/-
  The walks of the laws of layer mix: each answers true. No condition.
-/
import Derived.Test.YtpoioafchilmhaaMixE
import Derived.OpenShut
namespace Go.Proofs.Ytpoioafchilmhaa
open Go.RowKit Go.Mixp Go.Foldp Go.Colm

set_option maxHeartbeats 800000 in
theorem mixBack_walk (h : Int) (wh : (Lit.int .u32 h).wf = true) (b : Int) (wb : (Lit.int .u8 b).wf = true) (w : World) :
    Calls Try.prog 6 #[.int .u32 h, .int .u8 b] w fun e w' => e = .returned (.bool true) ∧ Below w.heap.size w w' := by
  obtain ⟨h0, h1⟩ := bounds_u32 wh
  obtain ⟨b0, b1⟩ := bounds_u8 wb
  have l1 := mStep_lt h.toNat b.toNat
  have l2 : mBack h.toNat b.toNat < 4294967296 := mBack_lt (by omega)
  have e1 : ((mBack (mStep h.toNat b.toNat) b.toNat : Nat) : Int) = h := by rw [back_step (by omega) (by omega)]; omega
  have e2 : ((mStep (mBack h.toNat b.toNat) b.toNat : Nat) : Int) = h := by rw [step_back (by omega)]; omega
  have c1 := fun W => step_any h b W h0 (by omega) b0 (by omega)
  have c2 := fun W => back_any (mStep h.toNat b.toNat : Nat) b W (by omega) (by omega) b0 (by omega)
  have c3 := fun W => back_any h b W h0 (by omega) b0 (by omega)
  have c4 := fun W => step_any (mBack h.toNat b.toNat : Nat) b W (by omega) (by omega) b0 (by omega)
  have c5 := fun W => rstep_any (mBack h.toNat b.toNat : Nat) b W (by omega) (by omega) b0 (by omega)
  rw [Int.toNat_natCast, e1] at c2
  rw [Int.toNat_natCast, e2] at c4 c5
  clear e1 e2
  have C1 := Lib.hid c1
  have C2 := Lib.hid c2
  have C3 := Lib.hid c3
  have C4 := Lib.hid c4
  have C5 := Lib.hid c5
  clear c1 c2 c3 c4 c5
  go_enter Try.func6, Try.ntmps6
  go_wp2_with fail
  refine (C1.out _).mono ?_
  rintro e w1 ⟨rfl, rfl⟩
  go_wp2_with fail
  refine (C2.out _).mono ?_
  rintro e w1 ⟨rfl, rfl⟩
  go_wp2_with fail
  refine (C3.out _).mono ?_
  rintro e w1 ⟨rfl, rfl⟩
  go_wp2_with fail
  refine (C4.out _).mono ?_
  rintro e w1 ⟨rfl, rfl⟩
  go_wp2_with fail
  refine (C3.out _).mono ?_
  rintro e w1 ⟨rfl, rfl⟩
  go_wp2_with fail
  refine (C5.out _).mono ?_
  rintro e w1 ⟨rfl, n, rfl⟩
  go_wp2_with fail
  refine (mixes_any _).mono ?_
  rintro e w1 ⟨rfl, hb⟩
  go_wp2_with fail
  go_ret
  exact ⟨rfl, below_chain (below_of_drewN _ _) hb⟩

end Go.Proofs.Ytpoioafchilmhaa
