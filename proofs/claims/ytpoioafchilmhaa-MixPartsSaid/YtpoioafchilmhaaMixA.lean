/-
  The walks of layer mix's small functions: what each call answers, and that it leaves the world as it was.
-/
import Derived.Test.YtpoioafchilmhaaProg
import Derived.Test.YtpoioafchilmhaaMixP
import Derived.Test.YtpoioafchilmhaaMem
import Derived.WalkKit
import Derived.WalkSpells
import Derived.WalkLawsBesides
import Derived.BigQuiet
import Derived.Deep.QuietTactic
import Derived.Lib.Hide
namespace Go.Proofs.Ytpoioafchilmhaa
open Go.RowKit Go.Mixp Go.Colm

theorem mStep_int (h b : Int) (h0 : 0 ≤ h) (h1 : h < 4294967296) (b0 : 0 ≤ b) (b1 : b < 256) :
    bits .xor .u32 h b * 16777619 % 4294967296 = (mStep h.toNat b.toNat : Nat) := by
  rw [u32_xor h b h0 h1 b0 (by omega)]
  unfold mStep
  omega

set_option maxHeartbeats 400000 in
theorem step_any (h b : Int) (w : World) (h0 : 0 ≤ h) (h1 : h < 4294967296) (b0 : 0 ≤ b) (b1 : b < 256) :
    Calls Try.prog 9 #[.int .u32 h, .int .u8 b] w fun e w' => e = .returned (.int .u32 (mStep h.toNat b.toNat : Nat)) ∧ w = w' := by
  go_enter Try.func9, Try.ntmps9
  go_wp2
  go_ret
  exact ⟨ret_int (mStep_int h b h0 h1 b0 b1), rfl⟩

theorem mBack_int (h b : Int) (h0 : 0 ≤ h) (h1 : h < 4294967296) (b0 : 0 ≤ b) (b1 : b < 256) :
    bits .xor .u32 (h * 899433627 % 4294967296) b = (mBack h.toNat b.toNat : Nat) := by
  rw [u32_xor _ b (by omega) (by omega) b0 (by omega)]
  have e : (h * 899433627 % 4294967296).toNat = h.toNat * 899433627 % 4294967296 := by omega
  unfold mBack
  rw [e]

set_option maxHeartbeats 400000 in
theorem back_any (h b : Int) (w : World) (h0 : 0 ≤ h) (h1 : h < 4294967296) (b0 : 0 ≤ b) (b1 : b < 256) :
    Calls Try.prog 21 #[.int .u32 h, .int .u8 b] w fun e w' => e = .returned (.int .u32 (mBack h.toNat b.toNat : Nat)) ∧ w = w' := by
  go_enter Try.func21, Try.ntmps21
  go_wp2
  go_ret
  exact ⟨ret_int (mBack_int h b h0 h1 b0 b1), rfl⟩

def homeI (h s : Int) : Int := if s < 1 then 0 else h % s

set_option maxHeartbeats 400000 in
theorem home_any (h s : Int) (w : World) (h0 : 0 ≤ h) (h1 : h < 4294967296) (s0 : -9223372036854775808 ≤ s) (s1 : s ≤ 9223372036854775807) :
    Calls Try.prog 19 #[.int .u32 h, .int .i64 s] w fun e w' => e = .returned (.int .i64 (homeI h s)) ∧ w = w' := by
  by_cases hs : s < 1
  · go_enter Try.func19, Try.ntmps19
    go_wp2
    go_ret
    exact ⟨ret_int (by simp [homeI, hs]), rfl⟩
  · have hm : 0 ≤ h % s := Int.emod_nonneg _ (by omega)
    have hm2 : h % s < s := Int.emod_lt_of_pos _ (by omega)
    go_enter Try.func19, Try.ntmps19
    go_wp2
    go_ret
    exact ⟨ret_int (by rw [homeI, if_neg (by omega)]), rfl⟩

set_option maxHeartbeats 400000 in
theorem rhome_any (h s : Int) (w : World) (h0 : 0 ≤ h) (h1 : h < 4294967296) (s0 : -9223372036854775808 ≤ s) (s1 : s ≤ 9223372036854775807) :
    Calls Try.prog 20 #[.int .u32 h, .int .i64 s] w fun e w' => e = .returned (.int .i64 (homeI h s)) ∧ w = w' := by
  by_cases hs : s < 1
  · go_enter Try.func20, Try.ntmps20
    go_wp2
    go_ret
    exact ⟨ret_int (by simp [homeI, hs]), rfl⟩
  · have hm : 0 ≤ h % s := Int.emod_nonneg _ (by omega)
    have hm2 : h % s < s := Int.emod_lt_of_pos _ (by omega)
    go_enter Try.func20, Try.ntmps20
    go_wp2
    go_ret
    exact ⟨ret_int (by rw [homeI, if_neg (by omega)]), rfl⟩

theorem pow_cases (j : Nat) (h : j ≤ 7) : 1 ≤ 2 ^ j ∧ 2 ^ j ≤ 128 := by
  have h1 : 2 ^ j ≤ 2 ^ 7 := Nat.pow_le_pow_right (by omega) h
  have h2 : 0 < 2 ^ j := Nat.two_pow_pos j
  simp only [Nat.reducePow] at h1
  omega
/-- What the reference's loop holds: the bit i that is asked next, and n: the bits above it. -/
def XorAt (X i n : Nat) : Prop := (i = 0 ∧ n = X) ∨ ∃ j, j ≤ 7 ∧ i = 2 ^ j ∧ n = hi X (j + 1)
theorem XorAt.start {X : Nat} (h : X < 256) : XorAt X 128 0 := .inr ⟨7, by omega, rfl, (hi_eight h).symm⟩
theorem XorAt.stop {X n : Nat} (h : XorAt X 0 n) : n = X := by
  rcases h with ⟨_, h⟩ | ⟨j, _, h, _⟩
  · exact h
  · have := Nat.two_pow_pos j
    omega
theorem half_pow {j : Nat} (X : Nat) (hj : j ≤ 7) : XorAt X (2 ^ j / 2) (hi X j) := by
  rcases j with _ | j
  · exact .inl ⟨rfl, hi_zero X⟩
  · exact .inr ⟨j, by omega, by rw [Nat.pow_succ, Nat.mul_div_cancel _ (by omega)], rfl⟩
theorem XorAt.same {a b i n : Nat} (h : XorAt (a ^^^ b) i n) (hi0 : 0 < i) (e : a / i % 2 = b / i % 2) : XorAt (a ^^^ b) (i / 2) n := by
  rcases h with ⟨h, _⟩ | ⟨j, hj, rfl, rfl⟩
  · omega
  · rw [← hi_same e]; exact half_pow _ hj
theorem XorAt.other {a b i n : Nat} (h : XorAt (a ^^^ b) i n) (hi0 : 0 < i) (e : ¬ a / i % 2 = b / i % 2) : XorAt (a ^^^ b) (i / 2) (n + i) := by
  rcases h with ⟨h, _⟩ | ⟨j, hj, rfl, rfl⟩
  · omega
  · rw [← hi_other e]; exact half_pow _ hj
theorem XorAt.le {a b i n : Nat} (h : XorAt (a ^^^ b) i n) (hX : a ^^^ b < 256) (e : ¬ a / i % 2 = b / i % 2) : i ≤ 128 ∧ n + i ≤ 255 := by
  rcases h with ⟨rfl, _⟩ | ⟨j, hj, rfl, rfl⟩
  · simp at e
  · rw [← hi_other e]
    have := hi_le (a ^^^ b) j
    have := pow_cases j hj
    omega
theorem XorAt.le_i {X i n : Nat} (h : XorAt X i n) : i ≤ 128 := by
  rcases h with ⟨rfl, _⟩ | ⟨j, hj, rfl, rfl⟩
  · omega
  · exact (pow_cases j hj).2

set_option maxHeartbeats 800000 in
theorem rxor_any (a b : Nat) (w : World) (a1 : a < 256) (b1 : b < 256) :
    Calls Try.prog 22 #[.int .u8 a, .int .u8 b] w fun e w' => e = .returned (.int .u8 ((a ^^^ b : Nat) : Int)) ∧ ∃ n, w' = w.drewN n := by
  have hX : a ^^^ b < 256 := Nat.xor_lt_two_pow (n := 8) a1 b1
  go_enter Try.func22, Try.ntmps22
  go_wp2
  go_loopw [5, 6] (fun n i wr => ∃ i' n' m : Nat, i = .int .u8 i' ∧ n = .int .u8 n' ∧ wr = w.drewN m ∧ XorAt (a ^^^ b) i' n') (fun _ i _ => (intOf i).toNat)
  case atStart => exact ⟨128, 0, 0, rfl, rfl, rfl, .start hX⟩
  case round =>
    obtain ⟨i, n, m, rfl, rfl, rfl, hr⟩ := hrel
    have hle := hr.le_i
    by_cases h0 : i = 0
    · subst h0
      go_wp2
      go_ret
      exact ⟨ret_int (by rw [hr.stop]), m, rfl⟩
    · have g1 : (0 : Int) < i := by omega
      by_cases e : a / i % 2 = b / i % 2
      · have t1 : ((a : Int) / i % 2 != (b : Int) / i % 2) = false := by
          rw [bne_eq_false_iff_eq]; omega
        go_wp2
        go_quiet (fail)
        go_wp2
        go_roundw
        case rel => exact ⟨i / 2, n, _, by go_num, rfl, rfl, hr.same (by omega) e⟩
        case measure => simp [intOf]; omega
      · have t1 : ((a : Int) / i % 2 != (b : Int) / i % 2) = true := by
          rw [bne_iff_ne]; omega
        have hb := hr.le hX e
        go_wp2
        go_quiet (fail)
        go_wp2
        go_roundw
        case rel => exact ⟨i / 2, n + i, _, by go_num, by go_num, rfl, hr.other (by omega) e⟩
        case measure => simp [intOf]; omega

theorem rxor_low (h b : Nat) (hb : b < 256) : (h - h % 256 + (h % 256 ^^^ b)) * 16777619 % 4294967296 = mStep h b := by
  unfold mStep
  rw [← xor_low h b hb]

theorem rxor_int (a b : Int) (w : World) (a0 : 0 ≤ a) (a1 : a < 256) (b0 : 0 ≤ b) (b1 : b < 256) :
    Calls Try.prog 22 #[.int .u8 a, .int .u8 b] w fun e w' => e = .returned (.int .u8 ((a.toNat ^^^ b.toNat : Nat) : Int)) ∧ ∃ n, w' = w.drewN n := by
  obtain ⟨a, rfl⟩ := Int.eq_ofNat_of_zero_le a0
  obtain ⟨b, rfl⟩ := Int.eq_ofNat_of_zero_le b0
  exact rxor_any a b w (by omega) (by omega)

theorem rstep_int (h b : Int) (h0 : 0 ≤ h) (h1 : h < 4294967296) (b0 : 0 ≤ b) (b1 : b < 256) :
    (h - h % 256 + (((h % 256).toNat ^^^ b.toNat : Nat) : Int)) * 16777619 % 4294967296 = (mStep h.toNat b.toNat : Nat) ∧
      0 ≤ (((h % 256).toNat ^^^ b.toNat : Nat) : Int) ∧ (((h % 256).toNat ^^^ b.toNat : Nat) : Int) < 256 := by
  obtain ⟨a, rfl⟩ := Int.eq_ofNat_of_zero_le h0
  obtain ⟨b, rfl⟩ := Int.eq_ofNat_of_zero_le b0
  have e : ((a : Int) % 256).toNat = a % 256 := by omega
  have hx : a % 256 ^^^ b < 256 := Nat.xor_lt_two_pow (n := 8) (by omega) (by omega)
  have hl := rxor_low a b (by omega)
  rw [e]
  simp only [Int.toNat_natCast]
  refine ⟨?_, by omega, by omega⟩
  rw [← hl]
  generalize a % 256 ^^^ b = x at *
  omega

set_option maxHeartbeats 800000 in
theorem rstep_any (h b : Int) (w : World) (h0 : 0 ≤ h) (h1 : h < 4294967296) (b0 : 0 ≤ b) (b1 : b < 256) :
    Calls Try.prog 10 #[.int .u32 h, .int .u8 b] w fun e w' => e = .returned (.int .u32 (mStep h.toNat b.toNat : Nat)) ∧ ∃ n, w' = w.drewN n := by
  obtain ⟨hl, x0, x1⟩ := rstep_int h b h0 h1 b0 b1
  have H := Lib.hid hl
  clear hl
  go_enter Try.func10, Try.ntmps10
  go_wp2_with (go_at_call 22; refine (rxor_int _ _ _ (by omega) (by omega) b0 b1).mono ?_; rintro e w' ⟨rfl, n, rfl⟩)
  go_ret
  exact ⟨ret_int H.out, _, rfl⟩

end Go.Proofs.Ytpoioafchilmhaa
