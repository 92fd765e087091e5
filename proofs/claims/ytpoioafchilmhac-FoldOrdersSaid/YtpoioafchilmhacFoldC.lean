/-
  The walks of the reference's Common, Compare and Label, and of fold's Label: what each call answers. Texts of at most 2^46 bytes.
-/
import Derived.Test.YtpoioafchilmhacFoldB
import Derived.Lib.OthersKept
namespace Go.Proofs.Ytpoioafchilmhac
open Go.RowKit Go.Foldp Go.Colm
set_option linter.unusedVariables false

set_option maxHeartbeats 800000 in
theorem rcommon_any (a b : ByteArray) (w : World) (ha : a.size ≤ 70368744177664) (hb : b.size ≤ 70368744177664) :
    Calls Try.prog 17 #[.string a, .string b] w fun e w' => e = .returned (.int .i64 (commonL a.data.toList b.data.toList : Nat)) ∧ Below w.heap.size w w' := by
  go_enter Try.func17, Try.ntmps17
  go_wp2_with fail
  go_loopw [5] (fun i wr => ∃ k : Nat, k ≤ a.size ∧ k ≤ b.size ∧ i = .int .i64 k ∧ Hid (commonL a.data.toList b.data.toList = k + commonL (a.data.toList.drop k) (b.data.toList.drop k)) ∧ Below w.heap.size w wr) (fun i _ => a.size - (intOf i).toNat)
  case atStart => exact ⟨0, Nat.zero_le _, Nat.zero_le _, rfl, Lib.hid (by simp), Below.refl _ _⟩
  case round =>
    obtain ⟨k, hka, hkb, rfl, HC, hbw⟩ := hrel
    by_cases h1 : k < a.size
    · by_cases h2 : k < b.size
      · have i1 : (k : Int) < (a.size : Int) := by omega
        have i2 : (k : Int) < (b.size : Int) := by omega
        by_cases e : lowB a[k] = lowB b[k]
        · have t1 : (((lowB a[k]).toNat : Int) == ((lowB b[k]).toNat : Int)) = true := by rw [e]; simp
          have HC2 := Lib.hid (commonL_step (a := a.data.toList) (b := b.data.toList) (k := k) (by simpa using h1) (by simpa using h2) HC.out e)
          clear e
          go_wp2_with fail
          go_quiet ((go_at_call 22; exact Calls.quiet_of_same (rlow_byte _ _)))
          go_wp2_with fail
          go_roundw
          case rel => exact ⟨k + 1, by omega, by omega, by go_num, HC2, below_drewN hbw _⟩
          case measure => simp [intOf]; omega
        · have t1 : (((lowB a[k]).toNat : Int) == ((lowB b[k]).toNat : Int)) = false := by
            rw [beq_eq_false_iff_ne]
            intro x
            exact e (toNat_lowB_inj (by omega))
          have hc := commonL_stop (a := a.data.toList) (b := b.data.toList) (k := k) (by simpa using h1) (by simpa using h2) HC.out e
          have Hc := Lib.hid hc
          clear e hc
          go_wp2_with fail
          go_quiet ((go_at_call 22; exact Calls.quiet_of_same (rlow_byte _ _)))
          go_wp2_with fail
          go_ret
          exact ⟨ret_int (by rw [Hc.out]), below_drewN hbw _⟩
      · have hc := commonL_end (a := a.data.toList) (b := b.data.toList) (k := k) (by simp; omega) HC.out
        have Hc := Lib.hid hc
        clear hc
        have i1 : (k : Int) < (a.size : Int) := by omega
        have d2 : decide ((k : Int) < (b.size : Int)) = false := by simpa using h2
        go_wp2_with fail
        go_quiet (fail)
        go_wp2_with fail
        go_ret
        exact ⟨ret_int (by rw [Hc.out]), below_drewN hbw _⟩
    · have hc := commonL_end (a := a.data.toList) (b := b.data.toList) (k := k) (by simp; omega) HC.out
      have Hc := Lib.hid hc
      clear hc
      have d1 : decide ((k : Int) < (a.size : Int)) = false := by simpa using h1
      go_wp2_with fail
      go_quiet (fail)
      go_wp2_with fail
      go_ret
      exact ⟨ret_int (by rw [Hc.out]), below_drewN hbw _⟩

set_option maxHeartbeats 1600000 in
theorem rcompare_any (a b : ByteArray) (w : World) (ha : a.size ≤ 70368744177664) (hb : b.size ≤ 70368744177664) :
    Calls Try.prog 15 #[.string a, .string b] w fun e w' => e = .returned (.int .i64 (cmpL a.data.toList b.data.toList)) ∧ Below w.heap.size w w' := by
  go_enter Try.func15, Try.ntmps15
  go_wp2_with fail
  go_loopw [5] (fun i wr => ∃ k : Nat, k ≤ a.size ∧ k ≤ b.size ∧ i = .int .i64 k ∧ Hid (cmpL a.data.toList b.data.toList = cmpL (a.data.toList.drop k) (b.data.toList.drop k)) ∧ Below w.heap.size w wr) (fun i _ => a.size - (intOf i).toNat)
  case atStart => exact ⟨0, Nat.zero_le _, Nat.zero_le _, rfl, Lib.hid (by simp), Below.refl _ _⟩
  case round =>
    obtain ⟨k, hka, hkb, rfl, HC, hbw⟩ := hrel
    by_cases hk : k < a.size ∧ k < b.size
    · obtain ⟨h1, h2⟩ := hk
      have i1 : (k : Int) < (a.size : Int) := by omega
      have i2 : (k : Int) < (b.size : Int) := by omega
      have hs := cmpL_step (a := a.data.toList) (b := b.data.toList) (k := k) (by simpa using h1) (by simpa using h2)
      have hx : lowB (a.data.toList[k]'(by simpa using h1)) = lowB a[k] := rfl
      have hy : lowB (b.data.toList[k]'(by simpa using h2)) = lowB b[k] := rfl
      rw [hx, hy, ← HC.out] at hs
      by_cases e1 : (lowB a[k]).toNat < (lowB b[k]).toNat
      · rw [if_pos e1] at hs
        have Hs := Lib.hid hs
        clear hs hx hy
        go_wp2_with fail
        go_quiet ((go_at_call 22; exact Calls.quiet_of_same (rlow_byte _ _)))
        go_wp2_with fail
        go_ret
        exact ⟨ret_int Hs.out.symm, below_drewN hbw _⟩
      · rw [if_neg e1] at hs
        by_cases e2 : (lowB b[k]).toNat < (lowB a[k]).toNat
        · rw [if_pos e2] at hs
          have Hs := Lib.hid hs
          clear hs hx hy
          go_wp2_with fail
          go_quiet ((go_at_call 22; exact Calls.quiet_of_same (rlow_byte _ _)))
          go_wp2_with fail
          obtain ⟨w1, hw1⟩ : ∃ w1, w1 = wr.drewN nq := ⟨_, rfl⟩
          rw [← hw1]
          have hb1 : Below w.heap.size w w1 := by rw [hw1]; exact below_drewN hbw _
          clear hw1
          go_quiet ((go_at_call 22; exact Calls.quiet_of_same (rlow_byte _ _)))
          go_wp2_with fail
          go_ret
          exact ⟨ret_int Hs.out.symm, below_drewN hb1 _⟩
        · rw [if_neg e2] at hs
          have Hs := Lib.hid hs
          clear hs hx hy
          go_wp2_with fail
          go_quiet ((go_at_call 22; exact Calls.quiet_of_same (rlow_byte _ _)))
          go_wp2_with fail
          obtain ⟨w1, hw1⟩ : ∃ w1, w1 = wr.drewN nq := ⟨_, rfl⟩
          rw [← hw1]
          have hb1 : Below w.heap.size w w1 := by rw [hw1]; exact below_drewN hbw _
          clear hw1
          go_quiet ((go_at_call 22; exact Calls.quiet_of_same (rlow_byte _ _)))
          go_wp2_with fail
          go_roundw
          case rel => exact ⟨k + 1, by omega, by omega, by go_num, Hs, below_drewN hb1 _⟩
          case measure => simp [intOf]; omega
    · have hc := HC.out.trans (cmpL_end (a := a.data.toList) (b := b.data.toList) (k := k) (by simpa using hka) (by simpa using hkb) (by simpa using hk))
      rw [str_len, str_len] at hc
      by_cases s1 : a.size < b.size
      · have Hc := Lib.hid (show cmpL a.data.toList b.data.toList = -1 by rw [hc]; unfold sgn; rw [if_pos (by omega)])
        clear hc
        have s1' : (a.size : Int) < (b.size : Int) := by omega
        have h1 : ¬ k < a.size := by omega
        go_wp2_with fail
        go_ret
        exact ⟨ret_int Hc.out.symm, hbw⟩
      · by_cases s2 : b.size < a.size
        · have Hc := Lib.hid (show cmpL a.data.toList b.data.toList = 1 by rw [hc]; unfold sgn; rw [if_neg (by omega), if_pos (by omega)])
          clear hc
          have h1 : k < a.size := by omega
          go_wp2_with fail
          go_ret
          exact ⟨ret_int Hc.out.symm, hbw⟩
        · have Hc := Lib.hid (show cmpL a.data.toList b.data.toList = 0 by rw [hc]; unfold sgn; rw [if_neg (by omega), if_neg (by omega)])
          clear hc
          have h1 : ¬ k < a.size := by omega
          go_wp2_with fail
          go_ret
          exact ⟨ret_int Hc.out.symm, hbw⟩

end Go.Proofs.Ytpoioafchilmhac
