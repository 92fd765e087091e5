/-
  The walks of layer fold's Common and Same: what each call answers. Texts of at most 2^46 bytes.
-/
import Derived.Test.YtfnpjcfaabbejaaDoorFoldL
namespace Go.Proofs.YtfnpjcfaabbejaaDoor
open Go.RowKit Go.Foldp Go.Colm
set_option linter.unusedVariables false

theorem small_byte (x : UInt8) (w : World) : Calls Tryd.prog 33 #[.int .u8 (x.toNat : Int)] w fun e w' => e = .returned (.int .u8 ((lowB x).toNat : Int)) ∧ w' = w := by
  rw [← lowI_toNat]
  exact (small_any _ w (byte_range x).1 (byte_range x).2).mono fun _ _ ⟨a, e⟩ => ⟨a, e.symm⟩
theorem rlow_byte (x : UInt8) (w : World) : Calls Tryd.prog 36 #[.int .u8 (x.toNat : Int)] w fun e w' => e = .returned (.int .u8 ((lowB x).toNat : Int)) ∧ w' = w := by
  rw [← lowI_toNat]
  exact (rlow_any _ w (byte_range x).1 (byte_range x).2).mono fun _ _ ⟨a, e⟩ => ⟨a, e.symm⟩

set_option maxHeartbeats 800000 in
theorem common_any (a b : ByteArray) (w : World) (ha : a.size ≤ 70368744177664) (hb : b.size ≤ 70368744177664) :
    Calls Tryd.prog 40 #[.string a, .string b] w fun e w' => e = .returned (.int .i64 (commonL a.data.toList b.data.toList : Nat)) ∧ Below w.heap.size w w' := by
  go_enter Tryd.func40, Tryd.ntmps40
  go_wp2_with fail
  go_loopw [13] (fun i wr => ∃ k : Nat, k ≤ a.size ∧ k ≤ b.size ∧ i = .int .i64 k ∧ Hid (commonL a.data.toList b.data.toList = k + commonL (a.data.toList.drop k) (b.data.toList.drop k)) ∧ Below w.heap.size w wr) (fun i _ => a.size - (intOf i).toNat)
  case atStart => exact ⟨0, Nat.zero_le _, Nat.zero_le _, rfl, Lib.hid (by simp), Below.refl _ _⟩
  case round =>
    obtain ⟨k, hka, hkb, rfl, HC, hbw⟩ := hrel
    by_cases hk : k < a.size ∧ k < b.size
    · obtain ⟨h1, h2⟩ := hk
      have h3 : (k : Int) < min (a.size : Int) b.size := by omega
      by_cases e : lowB a[k] = lowB b[k]
      · have t1 : (((lowB a[k]).toNat : Int) != ((lowB b[k]).toNat : Int)) = false := by rw [e]; simp
        have HC2 := Lib.hid (commonL_step (a := a.data.toList) (b := b.data.toList) (k := k) (by simpa using h1) (by simpa using h2) HC.out e)
        clear e
        go_wp2_with fail
        go_quiet ((go_at_call 33; exact Calls.quiet_of_same (small_byte _ _)))
        go_wp2_with fail
        go_roundw
        case rel => exact ⟨k + 1, by omega, by omega, by go_num, HC2, below_drewN hbw _⟩
        case measure => simp [intOf]; omega
      · have t1 : (((lowB a[k]).toNat : Int) != ((lowB b[k]).toNat : Int)) = true := by
          rw [bne_iff_ne]
          intro x
          exact e (toNat_lowB_inj (by omega))
        have hc := commonL_stop (a := a.data.toList) (b := b.data.toList) (k := k) (by simpa using h1) (by simpa using h2) HC.out e
        have Hc := Lib.hid hc
        clear e hc
        go_wp2_with fail
        go_quiet ((go_at_call 33; exact Calls.quiet_of_same (small_byte _ _)))
        go_wp2_with fail
        go_ret
        exact ⟨ret_int (by rw [Hc.out]), below_drewN hbw _⟩
    · have hc := commonL_end (a := a.data.toList) (b := b.data.toList) (k := k) (by simpa using hk) HC.out
      have Hc := Lib.hid hc
      clear hc
      have h3 : ¬ (k : Int) < min (a.size : Int) b.size := by omega
      have hmin : min (a.size : Int) b.size = k := by omega
      have Hm := Lib.hid hmin
      clear hmin
      go_wp2_with fail
      go_ret
      exact ⟨ret_int (by rw [Hc.out]; exact Hm.out), hbw⟩

set_option maxHeartbeats 800000 in
theorem same_any (a b : ByteArray) (w : World) (ha : a.size ≤ 70368744177664) (hb : b.size ≤ 70368744177664) :
    Calls Tryd.prog 29 #[.string a, .string b] w fun e w' => e = .returned (.bool (sameL a.data.toList b.data.toList)) ∧ Below w.heap.size w w' := by
  have hs := sameL_eq a.data.toList b.data.toList
  rw [str_len, str_len] at hs
  by_cases h : a.size = b.size
  · have t1 : ((a.size : Int) == (b.size : Int)) = true := by rw [h]; simp
    have e : (((commonL a.data.toList b.data.toList : Nat) : Int) == (a.size : Int)) = sameL a.data.toList b.data.toList := by
      rw [hs, Bool.eq_iff_iff]
      simp [h]
      omega
    have E := Lib.hid e
    clear e hs h
    go_enter Tryd.func29, Tryd.ntmps29
    go_wp2_with fail
    refine (common_any _ _ _ ha hb).mono ?_
    rintro e w1 ⟨rfl, hb1⟩
    go_wp2_with fail
    go_ret
    exact ⟨ret_bool E.out, hb1⟩
  · have t1 : ((a.size : Int) == (b.size : Int)) = false := by
      rw [beq_eq_false_iff_ne]
      omega
    have E := Lib.hid (show sameL a.data.toList b.data.toList = false by rw [hs]; simp [h])
    clear hs h
    go_enter Tryd.func29, Tryd.ntmps29
    go_wp2_with fail
    go_ret
    exact ⟨ret_bool E.out.symm, Below.refl _ _⟩
end Go.Proofs.YtfnpjcfaabbejaaDoor
