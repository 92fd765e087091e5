/-
  Plain arithmetic of the numbers that stand for names (layer mix): a step with a byte, back again, through bytes. No program in sight. No condition.
  The walks of layer mix's small functions: what each call answers, and that it leaves the world as it was.
  The walks of layer mix's functions over bytes and texts: what each call answers, and what becomes of the world.
  Images in plain Lean: squeezing leaves lines of noughts away, spreading puts them back. No program in sight. No condition.
-/
import Derived.Laws.BitsAllLaws
import Derived.Test.YtoafmlegamjlpaaGreatDoorProg
import Derived.Test.YtoafmlegamjlpaaGreatDoorKA
import Derived.WalkKit
import Derived.WalkSpells
import Derived.WalkLawsBesides
import Derived.BigQuiet
import Derived.Deep.QuietTactic
import Derived.Lib.Hide
namespace Go.Mixp
def mStep (h b : Nat) : Nat := (h ^^^ b) * 16777619 % 4294967296
def mBack (h b : Nat) : Nat := (h * 899433627 % 4294967296) ^^^ b
def mBytes (h : Nat) (l : List UInt8) : Nat := l.foldl (fun h b => mStep h b.toNat) h
theorem xor_lt {h b : Nat} (hh : h < 4294967296) (hb : b < 256) : h ^^^ b < 4294967296 :=
  Nat.xor_lt_two_pow (n := 32) hh (by omega)
theorem mStep_lt (h b : Nat) : mStep h b < 4294967296 := Nat.mod_lt _ (by omega)
theorem mBack_lt {h b : Nat} (hb : b < 256) : mBack h b < 4294967296 := xor_lt (Nat.mod_lt _ (by omega)) hb
theorem mul_mod_back (x a b : Nat) (hx : x < 4294967296) (hab : a * b % 4294967296 = 1) : (x * a % 4294967296) * b % 4294967296 = x := by
  rw [Nat.mod_mul_mod, Nat.mul_assoc, Nat.mul_mod, hab, Nat.mul_one, Nat.mod_mod, Nat.mod_eq_of_lt hx]
theorem back_step {h b : Nat} (hh : h < 4294967296) (hb : b < 256) : mBack (mStep h b) b = h := by
  unfold mBack mStep
  rw [mul_mod_back _ _ _ (xor_lt hh hb) (by decide), Nat.xor_assoc, Nat.xor_self, Nat.xor_zero]
theorem step_back {h b : Nat} (hh : h < 4294967296) : mStep (mBack h b) b = h := by
  unfold mBack mStep
  rw [Nat.xor_assoc, Nat.xor_self, Nat.xor_zero, mul_mod_back _ _ _ hh (by decide)]
theorem mStep_inj {g h b : Nat} (hg : g < 4294967296) (hh : h < 4294967296) (hb : b < 256) (e : mStep g b = mStep h b) : g = h := by
  rw [← back_step hg hb, e, back_step hh hb]
theorem byte_lt (b : UInt8) : b.toNat < 256 := UInt8.toNat_lt b
theorem mBytes_nil (h : Nat) : mBytes h [] = h := rfl
theorem mBytes_cons (h : Nat) (b : UInt8) (l : List UInt8) : mBytes h (b :: l) = mBytes (mStep h b.toNat) l := rfl
theorem mBytes_append (h : Nat) (l m : List UInt8) : mBytes h (l ++ m) = mBytes (mBytes h l) m := List.foldl_append
theorem mBytes_snoc (h : Nat) (l : List UInt8) (b : UInt8) : mBytes h (l ++ [b]) = mStep (mBytes h l) b.toNat := by rw [mBytes_append, mBytes_cons, mBytes_nil]
theorem mBytes_lt {h : Nat} (hh : h < 4294967296) (l : List UInt8) : mBytes h l < 4294967296 := by
  induction l generalizing h with
  | nil => exact hh
  | cons b l ih => exact ih (mStep_lt _ _)
theorem mBytes_inj (l : List UInt8) {g h : Nat} (hg : g < 4294967296) (hh : h < 4294967296) (e : mBytes g l = mBytes h l) : g = h := by
  induction l generalizing g h with
  | nil => exact e
  | cons b l ih => exact mStep_inj hg hh (byte_lt b) (ih (mStep_lt _ _) (mStep_lt _ _) e)
theorem mBytes_eq_iff (l : List UInt8) {g h : Nat} (hg : g < 4294967296) (hh : h < 4294967296) : mBytes g l = mBytes h l ↔ g = h :=
  ⟨mBytes_inj l hg hh, fun e => e ▸ rfl⟩
/-- The reference's step: the low byte alone is turned. -/
theorem xor_low (h b : Nat) (hb : b < 256) : h ^^^ b = h - h % 256 + (h % 256 ^^^ b) := by
  have h1 : (h ^^^ b) % 2 ^ 8 = h % 2 ^ 8 ^^^ b % 2 ^ 8 := Nat.xor_mod_two_pow
  have h2 : (h ^^^ b) / 2 ^ 8 = h / 2 ^ 8 ^^^ b / 2 ^ 8 := Nat.xor_div_two_pow
  have h3 : b / 2 ^ 8 = 0 := Nat.div_eq_of_lt hb
  have h4 : b % 2 ^ 8 = b := Nat.mod_eq_of_lt hb
  rw [h3, Nat.xor_zero] at h2
  rw [h4] at h1
  have := Nat.div_add_mod (h ^^^ b) (2 ^ 8)
  have := Nat.div_add_mod h 256
  simp only [Nat.reducePow] at *
  omega
theorem xor_bit (a b j : Nat) : (a / 2 ^ j % 2 = b / 2 ^ j % 2) ↔ (a ^^^ b) / 2 ^ j % 2 = 0 := by
  have h := Nat.testBit_xor a b j
  rw [Nat.testBit_eq_decide_div_mod_eq, Nat.testBit_eq_decide_div_mod_eq, Nat.testBit_eq_decide_div_mod_eq] at h
  have h1 : a / 2 ^ j % 2 = 0 ∨ a / 2 ^ j % 2 = 1 := by omega
  have h2 : b / 2 ^ j % 2 = 0 ∨ b / 2 ^ j % 2 = 1 := by omega
  rcases h1 with h1 | h1 <;> rcases h2 with h2 | h2 <;> rw [h1, h2] at h ⊢ <;> simp at h <;> omega
/-- The high bits of X from bit j on. -/
def hi (X j : Nat) : Nat := X / 2 ^ j * 2 ^ j
theorem hi_zero (X : Nat) : hi X 0 = X := by simp [hi]
theorem hi_eight {X : Nat} (h : X < 256) : hi X 8 = 0 := by unfold hi; rw [Nat.div_eq_of_lt h, Nat.zero_mul]
theorem hi_le (X j : Nat) : hi X j ≤ X := Nat.div_mul_le_self _ _
theorem hi_succ (X j : Nat) : hi X j = hi X (j + 1) + X / 2 ^ j % 2 * 2 ^ j := by
  unfold hi
  rw [Nat.pow_succ, ← Nat.div_div_eq_div_mul]
  have h := Nat.div_add_mod (X / 2 ^ j) 2
  generalize X / 2 ^ j = q at *
  generalize 2 ^ j = m at *
  rw [← Nat.mul_assoc, Nat.mul_comm (q / 2 * m) 2, ← Nat.mul_assoc, ← Nat.add_mul, h]
theorem hi_same {a b j : Nat} (e : a / 2 ^ j % 2 = b / 2 ^ j % 2) : hi (a ^^^ b) j = hi (a ^^^ b) (j + 1) := by
  rw [hi_succ, (xor_bit a b j).1 e, Nat.zero_mul, Nat.add_zero]
theorem hi_other {a b j : Nat} (e : ¬ a / 2 ^ j % 2 = b / 2 ^ j % 2) : hi (a ^^^ b) j = hi (a ^^^ b) (j + 1) + 2 ^ j := by
  have h : ¬ (a ^^^ b) / 2 ^ j % 2 = 0 := fun h => e ((xor_bit a b j).2 h)
  have h1 : (a ^^^ b) / 2 ^ j % 2 = 1 := by
    generalize (a ^^^ b) / 2 ^ j = q at *
    omega
  rw [hi_succ, h1, Nat.one_mul]
attribute [irreducible] mStep mBack
end Go.Mixp
namespace Go.Proofs.YtoafmlegamjlpaaGreatDoor
open Go.RowKit Go.Mixp Go.Colm

theorem mStep_int (h b : Int) (h0 : 0 ≤ h) (h1 : h < 4294967296) (b0 : 0 ≤ b) (b1 : b < 256) :
    bits .xor .u32 h b * 16777619 % 4294967296 = (mStep h.toNat b.toNat : Nat) := by
  rw [u32_xor h b h0 h1 b0 (by omega)]
  unfold mStep
  omega

set_option maxHeartbeats 400000 in
theorem step_any (h b : Int) (w : World) (h0 : 0 ≤ h) (h1 : h < 4294967296) (b0 : 0 ≤ b) (b1 : b < 256) :
    Calls Tryz.prog 162 #[.int .u32 h, .int .u8 b] w fun e w' => e = .returned (.int .u32 (mStep h.toNat b.toNat : Nat)) ∧ w = w' := by
  go_enter Tryz.func162, Tryz.ntmps162
  go_wp2
  go_ret
  exact ⟨ret_int (mStep_int h b h0 h1 b0 b1), rfl⟩

theorem mBack_int (h b : Int) (h0 : 0 ≤ h) (h1 : h < 4294967296) (b0 : 0 ≤ b) (b1 : b < 256) :
    bits .xor .u32 (h * 899433627 % 4294967296) b = (mBack h.toNat b.toNat : Nat) := by
  rw [u32_xor _ b (by omega) (by omega) b0 (by omega)]
  have e : (h * 899433627 % 4294967296).toNat = h.toNat * 899433627 % 4294967296 := by omega
  unfold mBack
  rw [e]

def homeI (h s : Int) : Int := if s < 1 then 0 else h % s

set_option maxHeartbeats 400000 in
theorem home_any (h s : Int) (w : World) (h0 : 0 ≤ h) (h1 : h < 4294967296) (s0 : -9223372036854775808 ≤ s) (s1 : s ≤ 9223372036854775807) :
    Calls Tryz.prog 298 #[.int .u32 h, .int .i64 s] w fun e w' => e = .returned (.int .i64 (homeI h s)) ∧ w = w' := by
  by_cases hs : s < 1
  · go_enter Tryz.func298, Tryz.ntmps298
    go_wp2
    go_ret
    exact ⟨ret_int (by simp [homeI, hs]), rfl⟩
  · have hm : 0 ≤ h % s := Int.emod_nonneg _ (by omega)
    have hm2 : h % s < s := Int.emod_lt_of_pos _ (by omega)
    go_enter Tryz.func298, Tryz.ntmps298
    go_wp2
    go_ret
    exact ⟨ret_int (by rw [homeI, if_neg (by omega)]), rfl⟩

set_option maxHeartbeats 400000 in
theorem rhome_any (h s : Int) (w : World) (h0 : 0 ≤ h) (h1 : h < 4294967296) (s0 : -9223372036854775808 ≤ s) (s1 : s ≤ 9223372036854775807) :
    Calls Tryz.prog 207 #[.int .u32 h, .int .i64 s] w fun e w' => e = .returned (.int .i64 (homeI h s)) ∧ w = w' := by
  by_cases hs : s < 1
  · go_enter Tryz.func207, Tryz.ntmps207
    go_wp2
    go_ret
    exact ⟨ret_int (by simp [homeI, hs]), rfl⟩
  · have hm : 0 ≤ h % s := Int.emod_nonneg _ (by omega)
    have hm2 : h % s < s := Int.emod_lt_of_pos _ (by omega)
    go_enter Tryz.func207, Tryz.ntmps207
    go_wp2
    go_ret
    exact ⟨ret_int (by rw [homeI, if_neg (by omega)]), rfl⟩

theorem pow_cases (j : Nat) (h : j ≤ 7) : 1 ≤ 2 ^ j ∧ 2 ^ j ≤ 128 := by
  have h1 : 2 ^ j ≤ 2 ^ 7 := Nat.pow_le_pow_right (by omega) h
  have h2 : 0 < 2 ^ j := Nat.two_pow_pos j
  simp only [Nat.reducePow] at h1
  omega
/-- What the reference's loop holds: the bit i that is asked next, and n: the bits above it. -/
def XorAt (X i n : Nat) : Prop := (i = 0 ∧ n = X) ∨ ∃ j, j ≤ 7 ∧ i = 2 ^ j ∧ n = hi X (j + 1)
theorem XorAt.start {X : Nat} (h : X < 256) : XorAt X 128 0 := .inr ⟨7, by omega, rfl, (hi_eight h).symm⟩
theorem XorAt.stop {X n : Nat} (h : XorAt X 0 n) : n = X := by
  rcases h with ⟨_, h⟩ | ⟨j, _, h, _⟩
  · exact h
  · have := Nat.two_pow_pos j
    omega
theorem half_pow {j : Nat} (X : Nat) (hj : j ≤ 7) : XorAt X (2 ^ j / 2) (hi X j) := by
  rcases j with _ | j
  · exact .inl ⟨rfl, hi_zero X⟩
  · exact .inr ⟨j, by omega, by rw [Nat.pow_succ, Nat.mul_div_cancel _ (by omega)], rfl⟩
theorem XorAt.same {a b i n : Nat} (h : XorAt (a ^^^ b) i n) (hi0 : 0 < i) (e : a / i % 2 = b / i % 2) : XorAt (a ^^^ b) (i / 2) n := by
  rcases h with ⟨h, _⟩ | ⟨j, hj, rfl, rfl⟩
  · omega
  · rw [← hi_same e]; exact half_pow _ hj
theorem XorAt.other {a b i n : Nat} (h : XorAt (a ^^^ b) i n) (hi0 : 0 < i) (e : ¬ a / i % 2 = b / i % 2) : XorAt (a ^^^ b) (i / 2) (n + i) := by
  rcases h with ⟨h, _⟩ | ⟨j, hj, rfl, rfl⟩
  · omega
  · rw [← hi_other e]; exact half_pow _ hj
theorem XorAt.le {a b i n : Nat} (h : XorAt (a ^^^ b) i n) (hX : a ^^^ b < 256) (e : ¬ a / i % 2 = b / i % 2) : i ≤ 128 ∧ n + i ≤ 255 := by
  rcases h with ⟨rfl, _⟩ | ⟨j, hj, rfl, rfl⟩
  · simp at e
  · rw [← hi_other e]
    have := hi_le (a ^^^ b) j
    have := pow_cases j hj
    omega
theorem XorAt.le_i {X i n : Nat} (h : XorAt X i n) : i ≤ 128 := by
  rcases h with ⟨rfl, _⟩ | ⟨j, hj, rfl, rfl⟩
  · omega
  · exact (pow_cases j hj).2

set_option maxHeartbeats 800000 in
theorem rxor_any (a b : Nat) (w : World) (a1 : a < 256) (b1 : b < 256) :
    Calls Tryz.prog 93 #[.int .u8 a, .int .u8 b] w fun e w' => e = .returned (.int .u8 ((a ^^^ b : Nat) : Int)) ∧ ∃ n, w' = w.drewN n := by
  have hX : a ^^^ b < 256 := Nat.xor_lt_two_pow (n := 8) a1 b1
  go_enter Tryz.func93, Tryz.ntmps93
  go_wp2
  go_loopw [5, 6] (fun n i wr => ∃ i' n' m : Nat, i = .int .u8 i' ∧ n = .int .u8 n' ∧ wr = w.drewN m ∧ XorAt (a ^^^ b) i' n') (fun _ i _ => (intOf i).toNat)
  case atStart => exact ⟨128, 0, 0, rfl, rfl, rfl, .start hX⟩
  case round =>
    obtain ⟨i, n, m, rfl, rfl, rfl, hr⟩ := hrel
    have hle := hr.le_i
    by_cases h0 : i = 0
    · subst h0
      go_wp2
      go_ret
      exact ⟨ret_int (by rw [hr.stop]), m, rfl⟩
    · have g1 : (0 : Int) < i := by omega
      by_cases e : a / i % 2 = b / i % 2
      · have t1 : ((a : Int) / i % 2 != (b : Int) / i % 2) = false := by
          rw [bne_eq_false_iff_eq]; omega
        go_wp2
        go_quiet (fail)
        go_wp2
        go_roundw
        case rel => exact ⟨i / 2, n, _, by go_num, rfl, rfl, hr.same (by omega) e⟩
        case measure => simp [intOf]; omega
      · have t1 : ((a : Int) / i % 2 != (b : Int) / i % 2) = true := by
          rw [bne_iff_ne]; omega
        have hb := hr.le hX e
        go_wp2
        go_quiet (fail)
        go_wp2
        go_roundw
        case rel => exact ⟨i / 2, n + i, _, by go_num, by go_num, rfl, hr.other (by omega) e⟩
        case measure => simp [intOf]; omega

theorem rxor_low (h b : Nat) (hb : b < 256) : (h - h % 256 + (h % 256 ^^^ b)) * 16777619 % 4294967296 = mStep h b := by
  unfold mStep
  rw [← xor_low h b hb]

theorem rxor_int (a b : Int) (w : World) (a0 : 0 ≤ a) (a1 : a < 256) (b0 : 0 ≤ b) (b1 : b < 256) :
    Calls Tryz.prog 93 #[.int .u8 a, .int .u8 b] w fun e w' => e = .returned (.int .u8 ((a.toNat ^^^ b.toNat : Nat) : Int)) ∧ ∃ n, w' = w.drewN n := by
  obtain ⟨a, rfl⟩ := Int.eq_ofNat_of_zero_le a0
  obtain ⟨b, rfl⟩ := Int.eq_ofNat_of_zero_le b0
  exact rxor_any a b w (by omega) (by omega)

theorem rstep_int (h b : Int) (h0 : 0 ≤ h) (h1 : h < 4294967296) (b0 : 0 ≤ b) (b1 : b < 256) :
    (h - h % 256 + (((h % 256).toNat ^^^ b.toNat : Nat) : Int)) * 16777619 % 4294967296 = (mStep h.toNat b.toNat : Nat) ∧
      0 ≤ (((h % 256).toNat ^^^ b.toNat : Nat) : Int) ∧ (((h % 256).toNat ^^^ b.toNat : Nat) : Int) < 256 := by
  obtain ⟨a, rfl⟩ := Int.eq_ofNat_of_zero_le h0
  obtain ⟨b, rfl⟩ := Int.eq_ofNat_of_zero_le b0
  have e : ((a : Int) % 256).toNat = a % 256 := by omega
  have hx : a % 256 ^^^ b < 256 := Nat.xor_lt_two_pow (n := 8) (by omega) (by omega)
  have hl := rxor_low a b (by omega)
  rw [e]
  simp only [Int.toNat_natCast]
  refine ⟨?_, by omega, by omega⟩
  rw [← hl]
  generalize a % 256 ^^^ b = x at *
  omega

set_option maxHeartbeats 800000 in
theorem rstep_any (h b : Int) (w : World) (h0 : 0 ≤ h) (h1 : h < 4294967296) (b0 : 0 ≤ b) (b1 : b < 256) :
    Calls Tryz.prog 52 #[.int .u32 h, .int .u8 b] w fun e w' => e = .returned (.int .u32 (mStep h.toNat b.toNat : Nat)) ∧ ∃ n, w' = w.drewN n := by
  obtain ⟨hl, x0, x1⟩ := rstep_int h b h0 h1 b0 b1
  have H := Lib.hid hl
  clear hl
  go_enter Tryz.func52, Tryz.ntmps52
  go_wp2_with (go_at_call 93; refine (rxor_int _ _ _ (by omega) (by omega) b0 b1).mono ?_; rintro e w' ⟨rfl, n, rfl⟩)
  go_ret
  exact ⟨ret_int H.out, _, rfl⟩

end Go.Proofs.YtoafmlegamjlpaaGreatDoor
namespace Go.Proofs.YtoafmlegamjlpaaGreatDoor
open Go.RowKit Go.Mixp Go.Colm

theorem mBytes_take_succ (h : Nat) (l : List UInt8) (k : Nat) (hk : k < l.length) : mBytes h (l.take (k + 1)) = mStep (mBytes h (l.take k)) l[k].toNat := by
  rw [List.take_succ_eq_append_getElem hk, mBytes_snoc]

set_option maxHeartbeats 400000 in
theorem throughB_any (h : Int) (A : Option Addr) (l : List UInt8) (c : Nat) (w : World) (h0 : 0 ≤ h) (h1 : h < 4294967296) (hl : l.length ≤ 140737488355328) (hr : RowV w A (bytesV l)) :
    Calls Tryz.prog 92 #[.int .u32 h, .slice A l.length c] w fun e w' => e = .returned (.int .u32 (mBytes h.toNat l : Nat)) ∧ w = w' := by
  have Hr := Lib.hid hr
  clear hr
  obtain ⟨h, rfl⟩ := Int.eq_ofNat_of_zero_le h0
  have hh : h < 4294967296 := by omega
  simp only [Int.toNat_natCast]
  go_enter Tryz.func92, Tryz.ntmps92
  go_wp2
  go_loop [0, 8] (fun h' i => ∃ k : Nat, k ≤ l.length ∧ i = .int .i64 k ∧ h' = .int .u32 (mBytes h (l.take k) : Nat)) (fun _ i => l.length - (intOf i).toNat)
  case atStart => exact ⟨0, Nat.zero_le _, rfl, rfl⟩
  case round =>
    obtain ⟨k, hk, rfl, rfl⟩ := hrel
    have hlt := mBytes_lt hh (l.take k)
    by_cases hk2 : k < l.length
    · obtain ⟨b, off, rfl, hc⟩ := Hr.out.byte hk2
      have hs := Lib.hid (mBytes_take_succ h l k hk2)
      have hb := byte_range l[k]
      go_wp2_with (go_at_call 162; refine (step_any _ _ _ (by omega) (by omega) hb.1 hb.2).mono ?_; rintro e w' ⟨rfl, rfl⟩)
      go_round
      case rel => exact ⟨k + 1, by omega, by go_num, by rw [hs.out]⟩
      case measure => simp [intOf]; omega
    · go_wp2
      go_ret
      exact ⟨ret_int (by rw [List.take_of_length_le (by omega)]), rfl⟩

set_option maxHeartbeats 400000 in
theorem throughS_any (h : Int) (s : ByteArray) (w : World) (h0 : 0 ≤ h) (h1 : h < 4294967296) (hl : s.size ≤ 140737488355328) :
    Calls Tryz.prog 250 #[.int .u32 h, .string s] w fun e w' => e = .returned (.int .u32 (mBytes h.toNat s.data.toList : Nat)) ∧ w = w' := by
  obtain ⟨h, rfl⟩ := Int.eq_ofNat_of_zero_le h0
  have hh : h < 4294967296 := by omega
  simp only [Int.toNat_natCast]
  go_enter Tryz.func250, Tryz.ntmps250
  go_wp2
  go_loop [0, 8] (fun h' i => ∃ k : Nat, k ≤ s.size ∧ i = .int .i64 k ∧ h' = .int .u32 (mBytes h (s.data.toList.take k) : Nat)) (fun _ i => s.size - (intOf i).toNat)
  case atStart => exact ⟨0, Nat.zero_le _, rfl, rfl⟩
  case round =>
    obtain ⟨k, hk, rfl, rfl⟩ := hrel
    have hlt := mBytes_lt hh (s.data.toList.take k)
    by_cases hk2 : k < s.size
    · have hs : mBytes h (s.data.toList.take (k + 1)) = mStep (mBytes h (s.data.toList.take k)) s[k].toNat := by rw [take_snoc_str s k hk2, mBytes_snoc]
      have hs := Lib.hid hs
      have hb := byte_range s[k]
      go_wp2_with (go_at_call 162; refine (step_any _ _ _ (by omega) (by omega) hb.1 hb.2).mono ?_; rintro e w' ⟨rfl, rfl⟩)
      go_round
      case rel => exact ⟨k + 1, by omega, by go_num, by rw [hs.out]⟩
      case measure => simp [intOf]; omega
    · go_wp2
      go_ret
      exact ⟨ret_int (by rw [List.take_of_length_le (by simp; omega)]), rfl⟩

set_option maxHeartbeats 400000 in
theorem bytes_any (h : Int) (A : Option Addr) (l : List UInt8) (c : Nat) (w : World) (h0 : 0 ≤ h) (h1 : h < 4294967296) (hl : l.length ≤ 140737488355328) (hr : RowV w A (bytesV l)) :
    Calls Tryz.prog 51 #[.int .u32 h, .slice A l.length c] w fun e w' => e = .returned (.int .u32 (mBytes h.toNat l : Nat)) ∧ w = w' := by
  have Hr := Lib.hid hr
  clear hr
  go_enter Tryz.func51, Tryz.ntmps51
  go_wp2_with (go_at_call 92; refine (throughB_any _ _ _ _ _ h0 h1 hl Hr.out).mono ?_; rintro e w' ⟨rfl, rfl⟩)
  go_ret
  exact ⟨rfl, rfl⟩

set_option maxHeartbeats 400000 in
theorem steps_any (h : Int) (A : Option Addr) (l : List UInt8) (c : Nat) (w : World) (h0 : 0 ≤ h) (h1 : h < 4294967296) (hl : l.length ≤ 140737488355328) (hr : RowV w A (bytesV l)) :
    Calls Tryz.prog 249 #[.int .u32 h, .slice A l.length c] w fun e w' => e = .returned (.int .u32 (mBytes h.toNat l : Nat)) ∧ w = w' := by
  have Hr := Lib.hid hr
  clear hr
  go_enter Tryz.func249, Tryz.ntmps249
  go_wp2_with (go_at_call 92; refine (throughB_any _ _ _ _ _ h0 h1 hl Hr.out).mono ?_; rintro e w' ⟨rfl, rfl⟩)
  go_ret
  exact ⟨rfl, rfl⟩

set_option maxHeartbeats 400000 in
theorem rbytes_any (h : Int) (A : Option Addr) (l : List UInt8) (c : Nat) (w : World) (h0 : 0 ≤ h) (h1 : h < 4294967296) (hl : l.length ≤ 140737488355328) (hr : RowV w A (bytesV l)) :
    Calls Tryz.prog 28 #[.int .u32 h, .slice A l.length c] w fun e w' => e = .returned (.int .u32 (mBytes h.toNat l : Nat)) ∧ ∃ n, w' = w.drewN n := by
  have Hr := Lib.hid hr
  clear hr
  obtain ⟨h, rfl⟩ := Int.eq_ofNat_of_zero_le h0
  have hh : h < 4294967296 := by omega
  simp only [Int.toNat_natCast]
  go_enter Tryz.func28, Tryz.ntmps28
  go_wp2
  go_loopw [0, 5] (fun h' i wr => ∃ k m : Nat, k ≤ l.length ∧ i = .int .i64 k ∧ h' = .int .u32 (mBytes h (l.take k) : Nat) ∧ wr = w.drewN m) (fun _ i _ => l.length - (intOf i).toNat)
  case atStart => exact ⟨0, 0, Nat.zero_le _, rfl, rfl, rfl⟩
  case round =>
    obtain ⟨k, m, hk, rfl, rfl, rfl⟩ := hrel
    have hlt := mBytes_lt hh (l.take k)
    by_cases hk2 : k < l.length
    · obtain ⟨b, off, rfl, hc⟩ := Hr.out.byte hk2
      have hs := Lib.hid (mBytes_take_succ h l k hk2)
      have hb := byte_range l[k]
      go_wp2_with (go_at_call 52; refine (rstep_any _ _ _ (by omega) (by omega) hb.1 hb.2).mono ?_; rintro e w' ⟨rfl, n, rfl⟩)
      go_roundw
      case rel => exact ⟨k + 1, _, by omega, by go_num, by rw [hs.out], rfl⟩
      case measure => simp [intOf]; omega
    · go_wp2
      go_ret
      exact ⟨ret_int (by rw [List.take_of_length_le (by omega)]), _, rfl⟩

end Go.Proofs.YtoafmlegamjlpaaGreatDoor
namespace Go.Imgp
open Go.Mixp
set_option linter.unusedVariables false
def mayB (n : Nat) : Bool := decide (16 ≤ n ∧ n ≤ 1048576 ∧ n % 16 = 0)
def le4 (n : Nat) : List UInt8 := [UInt8.ofNat n, UInt8.ofNat (n / 256), UInt8.ofNat (n / 65536), UInt8.ofNat (n / 16777216)]
def num4 (l : List UInt8) : Nat := (l.getD 0 0).toNat + 256 * (l.getD 1 0).toNat + 65536 * (l.getD 2 0).toNat + 16777216 * (l.getD 3 0).toNat
def blankL (l : List UInt8) : Bool := l.all (· == 0)
def chunk (b : List UInt8) (i : Nat) : List UInt8 := (b.drop (16 * i)).take 16
def addL (r : List UInt8) (i : Nat) (c : List UInt8) : List UInt8 := if blankL c = true then r else r ++ (le4 i ++ c)
def linesL (b : List UInt8) : Nat → List UInt8
  | 0 => []
  | k + 1 => addL (linesL b k) k (chunk b k)
def headL (b : List UInt8) : List UInt8 := le4 b.length ++ le4 ((linesL b (b.length / 16)).length / 20) ++ linesL b (b.length / 16)
def sumL (b : List UInt8) : Nat := mBytes 2166136261 b
def sqzL (b : List UInt8) : List UInt8 := headL b ++ le4 (sumL (headL b))
/-- Squeezed: the bytes, and why not. -/
def sqz (b : List UInt8) : List UInt8 × Nat := if mayB b.length = true then (sqzL b, 0) else ([], 2)
def frmE (b : List UInt8) : Nat :=
  if b.length < 12 then 3 else if mayB (num4 b) = false then 4 else if (b.length - 12) / 20 < num4 (b.drop 4) then 3
  else if num4 (b.drop 4) * 20 < b.length - 12 then 4 else if num4 (b.drop (b.length - 4)) = sumL (b.take (b.length - 4)) then 0 else 4
def zs (n : Nat) : List UInt8 := List.replicate n 0
def rowN (L : List UInt8) (i : Nat) : Nat := num4 (L.drop (20 * i))
def rowC (L : List UInt8) (i : Nat) : List UInt8 := (L.drop (20 * i + 4)).take 16
def stepS (sz : Nat) (L : List UInt8) (i : Nat) (s : Nat × List UInt8) : Option (Nat × List UInt8) :=
  if s.1 ≤ rowN L i ∧ rowN L i < sz / 16 ∧ blankL (rowC L i) = false then some (rowN L i + 1, s.2 ++ (zs (16 * (rowN L i - s.1)) ++ rowC L i)) else none
def runS (sz : Nat) (L : List UInt8) : Nat → Option (Nat × List UInt8)
  | 0 => some (0, [])
  | i + 1 => (runS sz L i).bind (stepS sz L i)
def framed (b : List UInt8) : List UInt8 := (b.drop 8).take (b.length - 12)
/-- Spread: the bytes, and why not. -/
def spr (b : List UInt8) : List UInt8 × Nat :=
  if frmE b = 0 then match runS (num4 b) (framed b) (num4 (b.drop 4)) with
    | none => ([], 4)
    | some (nx, acc) => (acc ++ zs (num4 b - acc.length), 0)
  else ([], frmE b)

theorem le4_length (n : Nat) : (le4 n).length = 4 := rfl
theorem num4_lt (l : List UInt8) : num4 l < 4294967296 := by
  have h0 := UInt8.toNat_lt (l.getD 0 0)
  have h1 := UInt8.toNat_lt (l.getD 1 0)
  have h2 := UInt8.toNat_lt (l.getD 2 0)
  have h3 := UInt8.toNat_lt (l.getD 3 0)
  unfold num4
  omega
theorem num4_le4 {n : Nat} (h : n < 4294967296) (r : List UInt8) : num4 (le4 n ++ r) = n := by
  unfold num4 le4
  simp only [List.cons_append, List.nil_append, List.getD_cons_zero, List.getD_cons_succ, UInt8.toNat_ofNat']
  omega
theorem le4_num4 {l : List UInt8} (h : 4 ≤ l.length) : le4 (num4 l) = l.take 4 := by
  rcases l with _ | ⟨a, _ | ⟨b, _ | ⟨c, _ | ⟨d, l⟩⟩⟩⟩
  · simp at h
  · simp at h
  · simp at h
  · simp at h
  · have h0 := UInt8.toNat_lt a
    have h1 := UInt8.toNat_lt b
    have h2 := UInt8.toNat_lt c
    have h3 := UInt8.toNat_lt d
    have hn : num4 (a :: b :: c :: d :: l) = a.toNat + 256 * b.toNat + 65536 * c.toNat + 16777216 * d.toNat := rfl
    have e : ∀ (x : UInt8) (n : Nat), n % 256 = x.toNat → UInt8.ofNat n = x := fun x n he => UInt8.toNat_inj.1 (by rw [UInt8.toNat_ofNat']; exact he)
    unfold le4
    rw [hn]
    simp only [List.take_succ_cons, List.take_zero]
    rw [e a _ (by omega), e b _ (by omega), e c _ (by omega), e d _ (by omega)]
theorem blank_iff {l : List UInt8} : blankL l = true ↔ ∀ u ∈ l, u = 0 := by simp [blankL]
theorem blank_zs {l : List UInt8} (h : blankL l = true) : l = zs l.length := List.eq_replicate_iff.2 ⟨rfl, blank_iff.1 h⟩
theorem zs_blank (n : Nat) : blankL (zs n) = true := blank_iff.2 fun u hu => (List.mem_replicate.1 hu).2
theorem zs_length (n : Nat) : (zs n).length = n := List.length_replicate
theorem zs_add (m n : Nat) : zs m ++ zs n = zs (m + n) := by simp [zs]
theorem chunk_length {b : List UInt8} {i : Nat} (h : 16 * (i + 1) ≤ b.length) : (chunk b i).length = 16 := by
  simp only [chunk, List.length_take, List.length_drop]
  omega
theorem take_chunk (b : List UInt8) (k : Nat) : b.take (16 * k) ++ chunk b k = b.take (16 * (k + 1)) := by
  rw [chunk, show 16 * (k + 1) = 16 * k + 16 by omega, List.take_add]
def cnt (b : List UInt8) : Nat → Nat
  | 0 => 0
  | k + 1 => if blankL (chunk b k) = true then cnt b k else cnt b k + 1
theorem linesL_length (b : List UInt8) : ∀ k, 16 * k ≤ b.length → (linesL b k).length = 20 * cnt b k
  | 0, _ => rfl
  | k + 1, h => by
    have ih := linesL_length b k (by omega)
    have hc := chunk_length (b := b) (i := k) (by omega)
    rw [linesL, addL, cnt]
    split
    · exact ih
    · rw [List.length_append, List.length_append, ih, hc, le4_length]
      omega
theorem cnt_le (b : List UInt8) : ∀ k, cnt b k ≤ k
  | 0 => Nat.le_refl _
  | k + 1 => by
    have := cnt_le b k
    rw [cnt]
    split <;> omega
theorem lines_pre (b : List UInt8) : ∀ d k, ∃ r, linesL b (k + d) = linesL b k ++ r
  | 0, k => ⟨[], by simp⟩
  | d + 1, k => by
    obtain ⟨r, hr⟩ := lines_pre b d k
    rw [show k + (d + 1) = (k + d) + 1 by omega, linesL, addL, hr]
    split
    · exact ⟨r, rfl⟩
    · exact ⟨r ++ (le4 (k + d) ++ chunk b (k + d)), by rw [List.append_assoc]⟩
theorem runS_lines (a : List UInt8) (h16 : a.length % 16 = 0) (hle : a.length ≤ 1048576) : ∀ k, k ≤ a.length / 16 →
    ∃ nx acc, runS a.length (linesL a (a.length / 16)) (cnt a k) = some (nx, acc) ∧ nx ≤ k ∧ acc.length = 16 * nx ∧ acc ++ zs (16 * (k - nx)) = a.take (16 * k)
  | 0, _ => ⟨0, [], rfl, Nat.le_refl _, rfl, by simp [zs]⟩
  | k + 1, h => by
    obtain ⟨nx, acc, h1, h2, h3, h4⟩ := runS_lines a h16 hle k (by omega)
    have hcl := chunk_length (b := a) (i := k) (by omega)
    by_cases hb : blankL (chunk a k) = true
    · refine ⟨nx, acc, by rw [cnt, if_pos hb]; exact h1, by omega, h3, ?_⟩
      have hz := blank_zs hb
      rw [hcl] at hz
      rw [← take_chunk, ← h4, hz, List.append_assoc, zs_add, show 16 * (k - nx) + 16 = 16 * (k + 1 - nx) by omega]
    · have hlen := linesL_length a k (by omega)
      obtain ⟨r, hr⟩ := lines_pre a (a.length / 16 - (k + 1)) (k + 1)
      rw [show k + 1 + (a.length / 16 - (k + 1)) = a.length / 16 by omega, linesL, addL, if_neg hb] at hr
      have hd : (linesL a (a.length / 16)).drop (20 * cnt a k) = le4 k ++ (chunk a k ++ r) := by
        rw [hr, ← hlen]
        simp [List.append_assoc]
      have hn : rowN (linesL a (a.length / 16)) (cnt a k) = k := by
        rw [rowN, hd, num4_le4 (by omega)]
      have hc : rowC (linesL a (a.length / 16)) (cnt a k) = chunk a k := by
        rw [rowC, ← List.drop_drop, hd, List.drop_left' (le4_length k), List.take_left' hcl]
      refine ⟨k + 1, a.take (16 * (k + 1)), ?_, Nat.le_refl _, ?_, by simp [zs]⟩
      · rw [cnt, if_neg hb, runS, h1]
        show stepS _ _ _ _ = _
        rw [stepS, hn, hc, if_pos ⟨h2, by omega, by simpa using hb⟩, ← take_chunk, ← h4, List.append_assoc]
      · rw [List.length_take]
        omega
theorem may_iff {n : Nat} : mayB n = true ↔ 16 ≤ n ∧ n ≤ 1048576 ∧ n % 16 = 0 := by simp [mayB]
theorem head_length (a : List UInt8) (h : a.length % 16 = 0) : (headL a).length = 8 + 20 * cnt a (a.length / 16) := by
  rw [headL, List.length_append, List.length_append, le4_length, le4_length, linesL_length a _ (by omega)]
theorem sum_lt (b : List UInt8) : sumL b < 4294967296 := mBytes_lt (by decide) _
/-- What is squeezed is spread again. -/
theorem spr_sqz {a : List UInt8} (hm : mayB a.length = true) : spr (sqzL a) = (a, 0) := by
  obtain ⟨m1, m2, m3⟩ := may_iff.1 hm
  have hh := head_length a m3
  have hc := cnt_le a (a.length / 16)
  have hl : (sqzL a).length = 12 + 20 * cnt a (a.length / 16) := by rw [sqzL, List.length_append, le4_length]; omega
  have hL := linesL_length a (a.length / 16) (by omega)
  have e0 : num4 (sqzL a) = a.length := by
    rw [sqzL, headL, List.append_assoc, List.append_assoc, num4_le4 (by omega)]
  have e1 : num4 ((sqzL a).drop 4) = cnt a (a.length / 16) := by
    rw [sqzL, headL, List.append_assoc, List.append_assoc, List.drop_left' (le4_length _), hL, num4_le4 (by omega)]
    omega
  have ed : (sqzL a).drop ((sqzL a).length - 4) = le4 (sumL (headL a)) := by
    rw [hl, sqzL, List.drop_left' (by omega)]
  have et : (sqzL a).take ((sqzL a).length - 4) = headL a := by
    rw [hl, sqzL, List.take_left' (by omega)]
  have ef : framed (sqzL a) = linesL a (a.length / 16) := by
    rw [framed, hl, sqzL, headL, List.append_assoc, List.drop_left' (by rw [List.length_append]; rfl), List.take_left' (by omega)]
  have hf : frmE (sqzL a) = 0 := by
    rw [frmE, if_neg (by omega), e0, hm, if_neg (by decide), e1, if_neg (by omega), if_neg (by omega), ed, et, if_pos]
    have := num4_le4 (sum_lt (headL a)) []
    rwa [List.append_nil] at this
  obtain ⟨nx, acc, h1, h2, h3, h4⟩ := runS_lines a m3 m2 (a.length / 16) (Nat.le_refl _)
  rw [spr, if_pos hf, e0, e1, ef, h1]
  dsimp only
  rw [h3, show a.length - 16 * nx = 16 * (a.length / 16 - nx) by omega, h4, show 16 * (a.length / 16) = a.length by omega, List.take_length]
theorem lines_blank (x : List UInt8) : ∀ d j, (∀ i, j ≤ i → i < j + d → blankL (chunk x i) = true) → linesL x (j + d) = linesL x j
  | 0, j, _ => rfl
  | d + 1, j, h => by
    rw [show j + (d + 1) = (j + d) + 1 by omega, linesL, addL, if_pos (h _ (by omega) (by omega)), lines_blank x d j fun i h1 h2 => h i h1 (by omega)]
theorem chunk_zs {acc t : List UInt8} {m nx i : Nat} (ha : acc.length = 16 * nx) (h1 : nx ≤ i) (h2 : 16 * (i + 1) ≤ 16 * nx + m) : blankL (chunk (acc ++ (zs m ++ t)) i) = true := by
  have e : chunk (acc ++ (zs m ++ t)) i = zs 16 := by
    rw [chunk, List.drop_append, List.drop_of_length_le (by omega), List.nil_append, ha, List.drop_append, List.take_append]
    simp only [zs, List.drop_replicate, List.take_replicate, List.length_replicate]
    rw [show min 16 (m - (16 * i - 16 * nx)) = 16 by omega, show 16 - (m - (16 * i - 16 * nx)) = 0 by omega, List.take_zero, List.append_nil]
  rw [e]
  exact zs_blank _
theorem runS_inv (sz : Nat) (L : List UInt8) : ∀ i nx acc, 20 * i ≤ L.length → runS sz L i = some (nx, acc) → acc.length = 16 * nx ∧ nx ≤ sz / 16 ∧ ∀ t, linesL (acc ++ t) nx = L.take (20 * i)
  | 0, nx, acc, _, h => by
    simp only [runS, Option.some.injEq, Prod.mk.injEq] at h
    obtain ⟨rfl, rfl⟩ := h
    exact ⟨rfl, Nat.zero_le _, fun t => rfl⟩
  | i + 1, nx, acc, hi, h => by
    rw [runS] at h
    obtain ⟨⟨x, a⟩, h1, h2⟩ := Option.bind_eq_some_iff.1 h
    obtain ⟨g1, g2, g3⟩ := runS_inv sz L i x a (by omega) h1
    rw [stepS] at h2
    split at h2
    · rename_i hc
      obtain ⟨c1, c2, c3⟩ := hc
      dsimp only at c1 h2
      simp only [Option.some.injEq, Prod.mk.injEq] at h2
      obtain ⟨rfl, rfl⟩ := h2
      have hcl : (rowC L i).length = 16 := by
        simp only [rowC, List.length_take, List.length_drop]
        omega
      refine ⟨by simp only [List.length_append, zs_length, hcl, g1]; omega, by omega, fun t => ?_⟩
      rw [List.append_assoc, List.append_assoc, linesL, addL]
      have e1 : linesL (a ++ (zs (16 * (rowN L i - x)) ++ (rowC L i ++ t))) (rowN L i) = L.take (20 * i) := by
        have hlb := lines_blank (a ++ (zs (16 * (rowN L i - x)) ++ (rowC L i ++ t))) (rowN L i - x) x fun j j1 j2 => chunk_zs g1 j1 (by omega)
        rw [show x + (rowN L i - x) = rowN L i by omega] at hlb
        rw [hlb, g3]
      have e2 : chunk (a ++ (zs (16 * (rowN L i - x)) ++ (rowC L i ++ t))) (rowN L i) = rowC L i := by
        rw [chunk, ← List.append_assoc a, List.drop_left' (by rw [List.length_append, zs_length, g1]; omega), List.take_left' hcl]
      rw [e1, e2, if_neg (by rw [c3]; decide), show 20 * (i + 1) = 20 * i + (4 + 16) by omega, List.take_add, rowN, le4_num4 (by rw [List.length_drop]; omega), List.take_add, rowC, List.drop_drop]
    · cases h2
theorem frm_ok {b : List UInt8} (h : frmE b = 0) : 12 ≤ b.length ∧ mayB (num4 b) = true ∧ b.length = 12 + 20 * num4 (b.drop 4) ∧ num4 (b.drop (b.length - 4)) = sumL (b.take (b.length - 4)) := by
  rw [frmE] at h
  split at h
  · cases h
  · split at h
    · cases h
    · rename_i h1 h2
      split at h
      · cases h
      · split at h
        · cases h
        · split at h
          · rename_i h3 h4 h5
            exact ⟨by omega, by simpa using h2, by omega, h5⟩
          · cases h
/-- What is spread is squeezed to the same bytes. -/
theorem sqz_spr {b : List UInt8} (h : (spr b).2 = 0) : mayB (spr b).1.length = true ∧ sqzL (spr b).1 = b := by
  rw [spr] at h ⊢
  by_cases hf : frmE b = 0
  · rw [if_pos hf] at h ⊢
    obtain ⟨f1, f2, f3, f4⟩ := frm_ok hf
    obtain ⟨n, hn⟩ : ∃ n, n = num4 (b.drop 4) := ⟨_, rfl⟩
    rw [← hn] at f3 h ⊢
    have hL : (framed b).length = 20 * n := by
      simp only [framed, List.length_take, List.length_drop]
      omega
    cases hr : runS (num4 b) (framed b) n with
    | none => rw [hr] at h; cases h
    | some s =>
      obtain ⟨nx, acc⟩ := s
      dsimp only
      obtain ⟨g1, g2, g3⟩ := runS_inv (num4 b) (framed b) n nx acc (by omega) hr
      obtain ⟨m1, m2, m3⟩ := may_iff.1 f2
      have hlen : (acc ++ zs (num4 b - acc.length)).length = num4 b := by
        rw [List.length_append, zs_length]
        omega
      have hli : linesL (acc ++ zs (num4 b - acc.length)) (num4 b / 16) = framed b := by
        have hlb := lines_blank (acc ++ (zs (num4 b - acc.length) ++ [])) (num4 b / 16 - nx) nx fun j j1 j2 => chunk_zs g1 j1 (by omega)
        rw [List.append_nil, show nx + (num4 b / 16 - nx) = num4 b / 16 by omega, g3] at hlb
        rw [hlb, ← hL, List.take_length]
      refine ⟨by rw [hlen]; exact f2, ?_⟩
      have hh : headL (acc ++ zs (num4 b - acc.length)) = b.take (b.length - 4) := by
        rw [headL, hlen, hli, hL, show 20 * n / 20 = n by omega, hn, le4_num4 (by omega), le4_num4 (by rw [List.length_drop]; omega), framed, show b.length - 4 = 4 + (4 + (b.length - 12)) by omega]
        rw [List.take_add, List.take_add, List.drop_drop, List.append_assoc]
      have h4 : (b.drop (b.length - 4)).take 4 = b.drop (b.length - 4) := List.take_of_length_le (by rw [List.length_drop]; omega)
      rw [sqzL, hh, ← f4, le4_num4 (by rw [List.length_drop]; omega), h4, List.take_append_drop]
  · rw [if_neg hf] at h
    exact absurd h hf
theorem spr_bad {b : List UInt8} (h : (spr b).2 ≠ 0) : (spr b).1 = [] := by
  rw [spr] at h ⊢
  split
  · rename_i hf
    rw [if_pos hf] at h
    split
    · rfl
    · rename_i hr
      rw [hr] at h
      exact absurd rfl h
  · rfl
end Go.Imgp
