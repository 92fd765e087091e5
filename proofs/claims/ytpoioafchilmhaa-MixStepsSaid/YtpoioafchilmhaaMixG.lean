/-
  The walks of three laws of layer mix over bytes: each answers true. No condition.
-/
import Derived.Test.YtpoioafchilmhaaMixE
import Derived.OpenShut
namespace Go.Proofs.Ytpoioafchilmhaa
open Go.RowKit Go.Mixp Go.Foldp Go.Colm
set_option linter.unusedVariables false

theorem step_same (h b : Int) (w : World) (h0 : 0 ≤ h) (h1 : h < 4294967296) (b0 : 0 ≤ b) (b1 : b < 256) :
    Calls Try.prog 9 #[.int .u32 h, .int .u8 b] w fun e w' => e = .returned (.int .u32 (mStep h.toNat b.toNat : Nat)) ∧ w' = w :=
  (step_any h b w h0 h1 b0 b1).mono fun _ _ ⟨a, e⟩ => ⟨a, e.symm⟩

set_option maxHeartbeats 1600000 in
theorem mixSteps_walk (h : Int) (wh : (Lit.int .u32 h).wf = true) (A : Option Addr) (l : List UInt8) (c : Nat) (hlc : l.length ≤ c) (hcm : c ≤ maxLen) (w : World) (hr : RowV w A (bytesV l)) :
    Calls Try.prog 3 #[.int .u32 h, .slice A l.length c] w fun e w' => e = .returned (.bool true) ∧ Below w.heap.size w w' := by
  obtain ⟨h0, h1⟩ := bounds_u32 wh
  unfold maxLen at hcm
  have Hr := Lib.hid hr
  clear hr
  by_cases h3 : 3000 < l.length
  · go_enter Try.func3, Try.ntmps3
    go_wp2_with fail
    refine (mixes_any _).mono ?_
    rintro e w1 ⟨rfl, hb⟩
    go_wp2_with fail
    go_ret
    exact ⟨rfl, hb⟩
  · go_enter Try.func3, Try.ntmps3
    go_wp2_with fail
    go_loopw [5] (fun i wr => ∃ k : Nat, k ≤ l.length ∧ k ≤ 3 ∧ i = .int .i64 k ∧ Below w.heap.size w wr) (fun i _ => 3 - (intOf i).toNat)
    case atStart => exact ⟨0, Nat.zero_le _, by omega, rfl, Below.refl _ _⟩
    case round =>
      obtain ⟨k, hk, hk3, rfl, hbw⟩ := hrel
      by_cases hk2 : k < l.length ∧ k < 3
      · obtain ⟨ha, hb⟩ := hk2
        obtain ⟨b, off, rfl, hc⟩ := (Hr.out.below hbw).byte ha
        have hby := byte_range l[k]
        go_wp2_with fail
        go_quiet (first | (go_at_call 9; exact Calls.quiet_of_same (step_same _ _ _ h0 (by omega) hby.1 hby.2)) | (go_at_call 10; exact Calls.quiet_of (rstep_any _ _ _ h0 (by omega) hby.1 hby.2)))
        go_wp2_with fail
        go_roundw
        case rel => exact ⟨k + 1, by omega, by omega, by go_num, below_drewN hbw _⟩
        case measure => simp [intOf]; omega
      · by_cases ha : k < l.length
        all_goals
          go_wp2_with fail
          refine (bytes_any _ _ _ _ _ h0 (by omega) (by omega) (Hr.out.below hbw)).mono ?_
          rintro e w1 ⟨rfl, rfl⟩
          go_wp2_with fail
          refine (rbytes_any _ _ _ _ _ h0 (by omega) (by omega) (Hr.out.below hbw)).mono ?_
          rintro e w1 ⟨rfl, n, rfl⟩
          go_wp2_with fail
          refine (mixes_any _).mono ?_
          rintro e w1 ⟨rfl, hb⟩
          go_wp2_with fail
          go_ret
          exact ⟨rfl, below_chain (below_drewN hbw _) hb⟩

end Go.Proofs.Ytpoioafchilmhaa
