/-
  Plain arithmetic of the numbers that stand for names (layer mix): a step with a byte, back again, through bytes. No program in sight. No condition.
-/
import Derived.Laws.BitsAllLaws
namespace Go.Mixp
def mStep (h b : Nat) : Nat := (h ^^^ b) * 16777619 % 4294967296
def mBack (h b : Nat) : Nat := (h * 899433627 % 4294967296) ^^^ b
def mBytes (h : Nat) (l : List UInt8) : Nat := l.foldl (fun h b => mStep h b.toNat) h
theorem xor_lt {h b : Nat} (hh : h < 4294967296) (hb : b < 256) : h ^^^ b < 4294967296 :=
  Nat.xor_lt_two_pow (n := 32) hh (by omega)
theorem mStep_lt (h b : Nat) : mStep h b < 4294967296 := Nat.mod_lt _ (by omega)
theorem mBack_lt {h b : Nat} (hb : b < 256) : mBack h b < 4294967296 := xor_lt (Nat.mod_lt _ (by omega)) hb
theorem mul_mod_back (x a b : Nat) (hx : x < 4294967296) (hab : a * b % 4294967296 = 1) : (x * a % 4294967296) * b % 4294967296 = x := by
  rw [Nat.mod_mul_mod, Nat.mul_assoc, Nat.mul_mod, hab, Nat.mul_one, Nat.mod_mod, Nat.mod_eq_of_lt hx]
theorem back_step {h b : Nat} (hh : h < 4294967296) (hb : b < 256) : mBack (mStep h b) b = h := by
  unfold mBack mStep
  rw [mul_mod_back _ _ _ (xor_lt hh hb) (by decide), Nat.xor_assoc, Nat.xor_self, Nat.xor_zero]
theorem step_back {h b : Nat} (hh : h < 4294967296) : mStep (mBack h b) b = h := by
  unfold mBack mStep
  rw [Nat.xor_assoc, Nat.xor_self, Nat.xor_zero, mul_mod_back _ _ _ hh (by decide)]
theorem mStep_inj {g h b : Nat} (hg : g < 4294967296) (hh : h < 4294967296) (hb : b < 256) (e : mStep g b = mStep h b) : g = h := by
  rw [← back_step hg hb, e, back_step hh hb]
theorem byte_lt (b : UInt8) : b.toNat < 256 := UInt8.toNat_lt b
theorem mBytes_nil (h : Nat) : mBytes h [] = h := rfl
theorem mBytes_cons (h : Nat) (b : UInt8) (l : List UInt8) : mBytes h (b :: l) = mBytes (mStep h b.toNat) l := rfl
theorem mBytes_append (h : Nat) (l m : List UInt8) : mBytes h (l ++ m) = mBytes (mBytes h l) m := List.foldl_append
theorem mBytes_snoc (h : Nat) (l : List UInt8) (b : UInt8) : mBytes h (l ++ [b]) = mStep (mBytes h l) b.toNat := by rw [mBytes_append, mBytes_cons, mBytes_nil]
theorem mBytes_lt {h : Nat} (hh : h < 4294967296) (l : List UInt8) : mBytes h l < 4294967296 := by
  induction l generalizing h with
  | nil => exact hh
  | cons b l ih => exact ih (mStep_lt _ _)
theorem mBytes_inj (l : List UInt8) {g h : Nat} (hg : g < 4294967296) (hh : h < 4294967296) (e : mBytes g l = mBytes h l) : g = h := by
  induction l generalizing g h with
  | nil => exact e
  | cons b l ih => exact mStep_inj hg hh (byte_lt b) (ih (mStep_lt _ _) (mStep_lt _ _) e)
theorem mBytes_eq_iff (l : List UInt8) {g h : Nat} (hg : g < 4294967296) (hh : h < 4294967296) : mBytes g l = mBytes h l ↔ g = h :=
  ⟨mBytes_inj l hg hh, fun e => e ▸ rfl⟩
/-- The reference's step: the low byte alone is turned. -/
theorem xor_low (h b : Nat) (hb : b < 256) : h ^^^ b = h - h % 256 + (h % 256 ^^^ b) := by
  have h1 : (h ^^^ b) % 2 ^ 8 = h % 2 ^ 8 ^^^ b % 2 ^ 8 := Nat.xor_mod_two_pow
  have h2 : (h ^^^ b) / 2 ^ 8 = h / 2 ^ 8 ^^^ b / 2 ^ 8 := Nat.xor_div_two_pow
  have h3 : b / 2 ^ 8 = 0 := Nat.div_eq_of_lt hb
  have h4 : b % 2 ^ 8 = b := Nat.mod_eq_of_lt hb
  rw [h3, Nat.xor_zero] at h2
  rw [h4] at h1
  have := Nat.div_add_mod (h ^^^ b) (2 ^ 8)
  have := Nat.div_add_mod h 256
  simp only [Nat.reducePow] at *
  omega
theorem xor_bit (a b j : Nat) : (a / 2 ^ j % 2 = b / 2 ^ j % 2) ↔ (a ^^^ b) / 2 ^ j % 2 = 0 := by
  have h := Nat.testBit_xor a b j
  rw [Nat.testBit_eq_decide_div_mod_eq, Nat.testBit_eq_decide_div_mod_eq, Nat.testBit_eq_decide_div_mod_eq] at h
  have h1 : a / 2 ^ j % 2 = 0 ∨ a / 2 ^ j % 2 = 1 := by omega
  have h2 : b / 2 ^ j % 2 = 0 ∨ b / 2 ^ j % 2 = 1 := by omega
  rcases h1 with h1 | h1 <;> rcases h2 with h2 | h2 <;> rw [h1, h2] at h ⊢ <;> simp at h <;> omega
/-- The high bits of X from bit j on. -/
def hi (X j : Nat) : Nat := X / 2 ^ j * 2 ^ j
theorem hi_zero (X : Nat) : hi X 0 = X := by simp [hi]
theorem hi_eight {X : Nat} (h : X < 256) : hi X 8 = 0 := by unfold hi; rw [Nat.div_eq_of_lt h, Nat.zero_mul]
theorem hi_le (X j : Nat) : hi X j ≤ X := Nat.div_mul_le_self _ _
theorem hi_succ (X j : Nat) : hi X j = hi X (j + 1) + X / 2 ^ j % 2 * 2 ^ j := by
  unfold hi
  rw [Nat.pow_succ, ← Nat.div_div_eq_div_mul]
  have h := Nat.div_add_mod (X / 2 ^ j) 2
  generalize X / 2 ^ j = q at *
  generalize 2 ^ j = m at *
  rw [← Nat.mul_assoc, Nat.mul_comm (q / 2 * m) 2, ← Nat.mul_assoc, ← Nat.add_mul, h]
theorem hi_same {a b j : Nat} (e : a / 2 ^ j % 2 = b / 2 ^ j % 2) : hi (a ^^^ b) j = hi (a ^^^ b) (j + 1) := by
  rw [hi_succ, (xor_bit a b j).1 e, Nat.zero_mul, Nat.add_zero]
theorem hi_other {a b j : Nat} (e : ¬ a / 2 ^ j % 2 = b / 2 ^ j % 2) : hi (a ^^^ b) j = hi (a ^^^ b) (j + 1) + 2 ^ j := by
  have h : ¬ (a ^^^ b) / 2 ^ j % 2 = 0 := fun h => e ((xor_bit a b j).2 h)
  have h1 : (a ^^^ b) / 2 ^ j % 2 = 1 := by
    generalize (a ^^^ b) / 2 ^ j = q at *
    omega
  rw [hi_succ, h1, Nat.one_mul]
attribute [irreducible] mStep mBack
end Go.Mixp
