/-
  Plain law of the order of texts (layer fold): it is an order, in which just those that are the same stand at one place. No program in sight. No condition.
-/
import Derived.Test.YtpoioafchilmhacFoldQ
namespace Go.Foldp

theorem cmpL_range : ∀ a b : List UInt8, cmpL a b = -1 ∨ cmpL a b = 0 ∨ cmpL a b = 1
  | [], [] => .inr (.inl rfl)
  | [], _ :: _ => .inl rfl
  | _ :: _, [] => .inr (.inr rfl)
  | x :: a, y :: b => by
    rw [cmpL_cons]
    have h := cmpL_range a b
    split
    · exact .inl rfl
    · split
      · exact .inr (.inr rfl)
      · exact h
theorem cmpL_swap : ∀ a b : List UInt8, cmpL a b = -cmpL b a
  | [], [] => rfl
  | [], _ :: _ => rfl
  | _ :: _, [] => rfl
  | x :: a, y :: b => by
    rw [cmpL_cons, cmpL_cons, cmpL_swap a b]
    by_cases h1 : (lowB x).toNat < (lowB y).toNat
    · rw [if_pos h1, if_neg (by omega), if_pos h1]
    · by_cases h2 : (lowB y).toNat < (lowB x).toNat
      · rw [if_neg h1, if_pos h2, if_pos h2]
        rfl
      · rw [if_neg h1, if_neg h2, if_neg h2, if_neg h1]
theorem cmpL_zero : ∀ a b : List UInt8, cmpL a b = 0 ↔ lowL a = lowL b
  | [], [] => by simp [cmpL, lowL]
  | [], _ :: _ => by simp [cmpL, lowL]
  | _ :: _, [] => by simp [cmpL, lowL]
  | x :: a, y :: b => by
    have ih := cmpL_zero a b
    rw [cmpL_cons]
    by_cases e : lowB x = lowB y
    · rw [e, if_neg (by omega), if_neg (by omega), ih]
      simp [lowL, e]
    · have hne : ¬ (lowB x).toNat = (lowB y).toNat := fun h => e (toNat_lowB_inj h)
      have : ¬ lowL (x :: a) = lowL (y :: b) := by simp [lowL, e]
      by_cases h1 : (lowB x).toNat < (lowB y).toNat
      · rw [if_pos h1]
        simp [this]
      · rw [if_neg h1, if_pos (by omega)]
        simp [this]
theorem cmpL_trans : ∀ a b c : List UInt8, cmpL a b ≤ 0 → cmpL b c ≤ 0 → cmpL a c ≤ 0 ∧ (cmpL a c = 0 → cmpL a b = 0 ∧ cmpL b c = 0)
  | [], [], [], _, _ => by simp [cmpL]
  | [], [], _ :: _, _, _ => by simp [cmpL]
  | [], _ :: _, [], _, h => absurd h (by simp [cmpL])
  | [], _ :: _, _ :: _, _, _ => by simp [cmpL]
  | _ :: _, [], _, h, _ => absurd h (by simp [cmpL])
  | _ :: _, _ :: _, [], _, h => absurd h (by simp [cmpL])
  | x :: a, y :: b, z :: c, h1, h2 => by
    have ih := cmpL_trans a b c
    rw [cmpL_cons] at h1 h2 ⊢
    rw [cmpL_cons x y, cmpL_cons y z]
    split at h1
    · rename_i hxy
      split at h2
      · rename_i hyz
        rw [if_pos (by omega), if_pos hxy]
        simp
      · rename_i hyz
        split at h2
        · simp at h2
        · rename_i hzy
          rw [if_pos (show (lowB x).toNat < (lowB z).toNat by omega)]
          simp
    · rename_i hxy
      split at h1
      · simp at h1
      · rename_i hyx
        split at h2
        · rename_i hyz
          rw [if_pos (show (lowB x).toNat < (lowB z).toNat by omega)]
          simp
        · rename_i hyz
          split at h2
          · simp at h2
          · rename_i hzy
            rw [if_neg (show ¬ (lowB x).toNat < (lowB z).toNat by omega), if_neg (show ¬ (lowB z).toNat < (lowB x).toNat by omega), if_neg hxy, if_neg hyx, if_neg hyz, if_neg hzy]
            exact ih h1 h2
theorem cmpL_self (a : List UInt8) : cmpL a a = 0 := (cmpL_zero a a).2 rfl
theorem sameL_cmp (a b : List UInt8) : sameL a b = decide (cmpL a b = 0) := by
  unfold sameL
  rw [decide_eq_decide, cmpL_zero]
theorem commonL_self (a : List UInt8) : commonL a a = a.length := (commonL_full a a rfl).2 rfl
theorem commonL_low (a : List UInt8) : commonL a (lowL a) = a.length := (commonL_full a (lowL a) (lowL_length a).symm).2 (lowL_lowL a).symm
theorem cmpL_low (a : List UInt8) : cmpL a (lowL a) = 0 := (cmpL_zero _ _).2 (lowL_lowL a).symm
theorem sameL_low (a : List UInt8) : sameL a (lowL a) = true := by
  rw [sameL_cmp, cmpL_low]
  rfl
theorem take_common : ∀ a b : List UInt8, lowL (a.take (commonL a b)) = lowL (b.take (commonL a b))
  | [], b => by simp [commonL_nil_left]
  | _ :: _, [] => by simp [commonL_nil_right]
  | x :: a, y :: b => by
    have ih := take_common a b
    rw [commonL_cons]
    by_cases e : lowB x = lowB y
    · rw [if_pos e]
      simp only [List.take_succ_cons, lowL, List.map_cons, e, List.cons.injEq, true_and] at ih ⊢
      exact ih
    · rw [if_neg e]
      simp
theorem sameL_take (a b : List UInt8) : sameL (a.take (commonL a b)) (b.take (commonL a b)) = true := by
  unfold sameL
  rw [take_common]
  simp
theorem okB_low_eq (c : UInt8) : okB (lowB c) = okB c := by
  have h : ∀ n : Fin 256, okB (lowB (UInt8.ofNat n.val)) = okB (UInt8.ofNat n.val) := by decide +kernel
  have := h ⟨c.toNat, UInt8.toNat_lt c⟩
  simpa using this
theorem labelE_low (l : List UInt8) : labelE (lowL l) = labelE l := by
  unfold labelE
  rw [lowL_length]
  have : (lowL l).all okB = l.all okB := by
    unfold lowL
    rw [List.all_map]
    congr 1
    funext c
    exact okB_low_eq c
  rw [this]
end Go.Foldp
