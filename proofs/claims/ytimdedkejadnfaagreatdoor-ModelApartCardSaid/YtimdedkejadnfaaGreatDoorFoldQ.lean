/-
  Plain law of texts held against each other without regard to great letters (layer fold): how many bytes both begin with, which is ahead, which is a label. No program in sight. No condition.
-/
import Derived.Test.YtimdedkejadnfaaGreatDoorFoldP
namespace Go.Foldp

def commonL : List UInt8 → List UInt8 → Nat
  | x :: a, y :: b => if lowB x = lowB y then commonL a b + 1 else 0
  | _, _ => 0
theorem commonL_nil_left (b : List UInt8) : commonL [] b = 0 := by rw [commonL]; simp
theorem commonL_nil_right (a : List UInt8) : commonL a [] = 0 := by
  cases a <;> simp [commonL]
theorem commonL_cons (x y : UInt8) (a b : List UInt8) : commonL (x :: a) (y :: b) = if lowB x = lowB y then commonL a b + 1 else 0 := by rw [commonL]
theorem commonL_le : ∀ a b : List UInt8, commonL a b ≤ a.length ∧ commonL a b ≤ b.length
  | [], b => by simp [commonL_nil_left]
  | x :: a, [] => by simp [commonL_nil_right]
  | x :: a, y :: b => by
    have h := commonL_le a b
    rw [commonL_cons]
    split <;> simp <;> omega
theorem commonL_comm : ∀ a b : List UInt8, commonL a b = commonL b a
  | [], b => by simp [commonL_nil_left, commonL_nil_right]
  | x :: a, [] => by simp [commonL_nil_left, commonL_nil_right]
  | x :: a, y :: b => by
    rw [commonL_cons, commonL_cons, commonL_comm a b]
    by_cases h : lowB x = lowB y
    · rw [if_pos h, if_pos h.symm]
    · rw [if_neg h, if_neg (fun e => h e.symm)]
theorem commonL_step {a b : List UInt8} {k : Nat} (ha : k < a.length) (hb : k < b.length) (h : commonL a b = k + commonL (a.drop k) (b.drop k)) (e : lowB a[k] = lowB b[k]) :
    commonL a b = (k + 1) + commonL (a.drop (k + 1)) (b.drop (k + 1)) := by
  rw [h, List.drop_eq_getElem_cons ha, List.drop_eq_getElem_cons hb, commonL_cons, if_pos e]
  omega
theorem commonL_stop {a b : List UInt8} {k : Nat} (ha : k < a.length) (hb : k < b.length) (h : commonL a b = k + commonL (a.drop k) (b.drop k)) (e : ¬ lowB a[k] = lowB b[k]) : commonL a b = k := by
  rw [h, List.drop_eq_getElem_cons ha, List.drop_eq_getElem_cons hb, commonL_cons, if_neg e]
  omega
theorem commonL_end {a b : List UInt8} {k : Nat} (hk : ¬ (k < a.length ∧ k < b.length)) (h : commonL a b = k + commonL (a.drop k) (b.drop k)) : commonL a b = k := by
  rw [h]
  by_cases ha : k < a.length
  · rw [List.drop_eq_nil_of_le (show b.length ≤ k by omega), commonL_nil_right]
    omega
  · rw [List.drop_eq_nil_of_le (show a.length ≤ k by omega), commonL_nil_left]
    omega
/-- The two are the same: as long, and alike to the end. -/
def sameL (a b : List UInt8) : Bool := decide (lowL a = lowL b)
theorem commonL_full : ∀ a b : List UInt8, a.length = b.length → (commonL a b = a.length ↔ lowL a = lowL b)
  | [], [], _ => by simp [commonL_nil_left, lowL]
  | x :: a, y :: b, h => by
    have ih := commonL_full a b (by simpa using h)
    rw [commonL_cons]
    by_cases e : lowB x = lowB y
    · rw [if_pos e]
      simp only [lowL, List.map_cons, List.cons.injEq, e, true_and, List.length_cons, Nat.add_right_cancel_iff] at ih ⊢
      exact ih
    · rw [if_neg e]
      simp [lowL, e]
theorem sameL_eq (a b : List UInt8) : sameL a b = (decide (a.length = b.length) && decide (commonL a b = a.length)) := by
  unfold sameL
  by_cases h : a.length = b.length
  · have := commonL_full a b h
    simp only [h, decide_true, Bool.true_and, decide_eq_decide] at this ⊢
    rw [this]
  · have : ¬ lowL a = lowL b := fun e => h (by have := congrArg List.length e; simpa [lowL_length] using this)
    simp [h, this]

def sgn (n : Int) : Int := if n < 0 then -1 else if 0 < n then 1 else 0
/-- Which is ahead: by small letters, the shorter one first. -/
def cmpL : List UInt8 → List UInt8 → Int
  | x :: a, y :: b => if (lowB x).toNat < (lowB y).toNat then -1 else if (lowB y).toNat < (lowB x).toNat then 1 else cmpL a b
  | [], _ :: _ => -1
  | _ :: _, [] => 1
  | [], [] => 0
theorem cmpL_cons (x y : UInt8) (a b : List UInt8) : cmpL (x :: a) (y :: b) = if (lowB x).toNat < (lowB y).toNat then -1 else if (lowB y).toNat < (lowB x).toNat then 1 else cmpL a b := by rw [cmpL]
theorem cmpL_step {a b : List UInt8} {k : Nat} (ha : k < a.length) (hb : k < b.length) : cmpL (a.drop k) (b.drop k) =
    if (lowB a[k]).toNat < (lowB b[k]).toNat then -1 else if (lowB b[k]).toNat < (lowB a[k]).toNat then 1 else cmpL (a.drop (k + 1)) (b.drop (k + 1)) := by
  rw [List.drop_eq_getElem_cons ha, List.drop_eq_getElem_cons hb, cmpL_cons]
theorem cmpL_end {a b : List UInt8} {k : Nat} (hka : k ≤ a.length) (hkb : k ≤ b.length) (hk : ¬ (k < a.length ∧ k < b.length)) : cmpL (a.drop k) (b.drop k) = sgn (a.length - b.length) := by
  unfold sgn
  by_cases ha : k < a.length
  · rw [List.drop_eq_nil_of_le (show b.length ≤ k by omega), List.drop_eq_getElem_cons ha]
    rw [if_neg (by omega), if_pos (by omega)]
    rfl
  · by_cases hb : k < b.length
    · rw [List.drop_eq_nil_of_le (show a.length ≤ k by omega), List.drop_eq_getElem_cons hb]
      rw [if_pos (by omega)]
      rfl
    · rw [List.drop_eq_nil_of_le (show a.length ≤ k by omega), List.drop_eq_nil_of_le (show b.length ≤ k by omega)]
      rw [if_neg (by omega), if_neg (by omega)]
      rfl
theorem toNat_lowB_inj {x y : UInt8} (h : (lowB x).toNat = (lowB y).toNat) : lowB x = lowB y := UInt8.toNat_inj.1 h
/-- As the program reckons it: at the first place where they part. -/
theorem cmpL_common : ∀ a b : List UInt8, cmpL a b =
    if h : commonL a b < a.length ∧ commonL a b < b.length then sgn ((lowB (a[commonL a b]'h.1)).toNat - (lowB (b[commonL a b]'h.2)).toNat) else sgn (a.length - b.length)
  | [], [] => by simp [commonL_nil_left, cmpL, sgn]
  | [], y :: b => by
    rw [dif_neg (by simp)]
    unfold sgn
    rw [if_pos (by simp)]
    rfl
  | x :: a, [] => by
    rw [dif_neg (by simp)]
    unfold sgn
    rw [if_neg (by simp; omega), if_pos (by simp)]
    rfl
  | x :: a, y :: b => by
    have ih := cmpL_common a b
    by_cases e : lowB x = lowB y
    · have hc : commonL (x :: a) (y :: b) = commonL a b + 1 := by rw [commonL_cons, if_pos e]
      rw [cmpL_cons, e, if_neg (by omega), if_neg (by omega), ih]
      by_cases h : commonL a b < a.length ∧ commonL a b < b.length
      · rw [dif_pos h, dif_pos (by simp [hc]; omega)]
        simp only [hc, List.getElem_cons_succ]
      · rw [dif_neg h, dif_neg (by simp [hc]; omega)]
        congr 1
        simp
        omega
    · have hc : commonL (x :: a) (y :: b) = 0 := by rw [commonL_cons, if_neg e]
      have hne : ¬ (lowB x).toNat = (lowB y).toNat := fun h => e (toNat_lowB_inj h)
      rw [cmpL_cons, dif_pos (by simp [hc])]
      simp only [hc, List.getElem_cons_zero]
      unfold sgn
      by_cases h1 : (lowB x).toNat < (lowB y).toNat
      · rw [if_pos h1, if_pos (by omega)]
      · rw [if_neg h1, if_pos (by omega), if_neg (by omega), if_pos (by omega)]

/-- May the byte stand in a label? -/
def okB (c : UInt8) : Bool := decide (33 ≤ c.toNat) && decide (c.toNat ≤ 126) && decide (c.toNat ≠ 46)
def labelE (l : List UInt8) : Int := if l.length < 1 ∨ 63 < l.length then 20 else if l.all okB then 0 else 20
theorem all_false {l : List UInt8} {k : Nat} (hk : k < l.length) (h : okB l[k] = false) : l.all okB = false := by
  rw [Bool.eq_false_iff]
  intro e
  rw [List.all_eq_true] at e
  rw [e _ (List.getElem_mem hk)] at h
  cases h
theorem all_true {l : List UInt8} (h : ∀ k, (hk : k < l.length) → okB l[k] = true) : l.all okB = true := by
  rw [List.all_eq_true]
  intro x hx
  obtain ⟨k, hk, rfl⟩ := List.getElem_of_mem hx
  exact h k hk
end Go.Foldp
