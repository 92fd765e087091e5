/-
  Plain: the reference's numbers are the same as strconv's, canonical. No program in sight. No condition.
-/
import Derived.Test.YtifmgmiaeoiidaaGreatDoorScrV
namespace Go.Scrp
def isDig (c : UInt8) : Bool := decide (48 ≤ c.toNat) && decide (c.toNat ≤ 57)
def dg8 (c : UInt8) : Nat := c.toNat - 48
def valR : List UInt8 → Nat → Nat
  | [], acc => acc
  | c :: r, acc => valR r (acc * 10 + dg8 c)
abbrev valD (acc : Nat) (s : List UInt8) : Nat := valR s acc
theorem valD_cons (acc : Nat) (c : UInt8) (r : List UInt8) : valD acc (c :: r) = valD (acc * 10 + dg8 c) r := rfl
theorem valD_ge : ∀ (s : List UInt8) (acc : Nat), acc ≤ valD acc s
  | [], acc => Nat.le_refl _
  | c :: r, acc => by
    have := valD_ge r (acc * 10 + dg8 c)
    rw [valD_cons]
    omega
theorem valD_snoc (c : UInt8) : ∀ (s : List UInt8) (acc : Nat), valD acc (s ++ [c]) = valD acc s * 10 + dg8 c
  | [], acc => rfl
  | x :: r, acc => by rw [List.cons_append, valD_cons, valD_snoc c r, valD_cons]
/-- The reference's number behind its tests of the length. -/
def rnumF (most : Nat) : Nat → List UInt8 → Option Nat
  | acc, [] => some acc
  | acc, c :: r => if isDig c = true then (if most < 10 * acc + dg8 c then none else rnumF most (10 * acc + dg8 c) r) else none
theorem rnumF_eq (most : Nat) : ∀ (s : List UInt8) (acc : Nat), acc ≤ most → rnumF most acc s = if s.all isDig = true ∧ valD acc s ≤ most then some (valD acc s) else none
  | [], acc, h => by simp [rnumF, valR, h]
  | c :: r, acc, h => by
    rw [rnumF]
    by_cases hc : isDig c = true
    · rw [if_pos hc]
      by_cases hm : most < 10 * acc + dg8 c
      · rw [if_pos hm, if_neg]
        rintro ⟨_, h2⟩
        have := valD_ge r (acc * 10 + dg8 c)
        rw [valD_cons] at h2
        omega
      · rw [if_neg hm, rnumF_eq most r _ (by omega), Nat.mul_comm 10 acc]
        simp [hc, valD_cons]
    · rw [if_neg hc, if_neg]
      rintro ⟨h1, _⟩
      simp [hc] at h1
theorem isDig_iff {c : UInt8} : isDig c = true ↔ 48 ≤ c.toNat ∧ c.toNat ≤ 57 := by simp [isDig]
theorem isDig_of {u : Nat} (h : u < 10) : isDig (UInt8.ofNat (48 + u)) = true ∧ dg8 (UInt8.ofNat (48 + u)) = u := by
  have e : (UInt8.ofNat (48 + u)).toNat = 48 + u := by
    rw [UInt8.toNat_ofNat']
    omega
  exact ⟨by rw [isDig_iff, e]; omega, by rw [dg8, e]; omega⟩
theorem dg_back {c : UInt8} (h : isDig c = true) : UInt8.ofNat (48 + dg8 c) = c := by
  have h := isDig_iff.1 h
  apply UInt8.toNat_inj.1
  rw [UInt8.toNat_ofNat', dg8]
  omega
theorem dg_lt {c : UInt8} (h : isDig c = true) : dg8 c < 10 := by
  have h := isDig_iff.1 h
  unfold dg8
  omega
theorem dg_pos {c : UInt8} (h : isDig c = true) (h2 : c ≠ 48) : 1 ≤ dg8 c := by
  have h := isDig_iff.1 h
  have : c.toNat ≠ 48 := fun e => h2 (UInt8.toNat_inj.1 e)
  unfold dg8
  omega
theorem valD_mul : ∀ (s : List UInt8) (acc : Nat), acc * 10 ^ s.length ≤ valD acc s
  | [], acc => by simp [valR]
  | c :: r, acc => by
    have := valD_mul r (acc * 10 + dg8 c)
    rw [valD_cons, List.length_cons, Nat.pow_succ]
    have h2 : acc * (10 ^ r.length * 10) ≤ (acc * 10 + dg8 c) * 10 ^ r.length := by
      rw [Nat.add_mul, Nat.mul_comm (10 ^ r.length) 10, ← Nat.mul_assoc]
      exact Nat.le_add_right _ _
    omega
/-- A number's digits, none 0 ahead of others. -/
def canon (s : List UInt8) : Prop := s ≠ [] ∧ s.all isDig = true ∧ (s.length ≤ 1 ∨ s.head? ≠ some 48)
instance (s : List UInt8) : Decidable (canon s) := by unfold canon; infer_instance
theorem dec_val : ∀ (n : Nat) (s : List UInt8), s.length ≤ n → canon s → Lib.decDigits (valD 0 s) = s
  | 0, s, h, hc => absurd (List.eq_nil_of_length_eq_zero (by omega)) hc.1
  | n + 1, s, h, hc => by
    obtain ⟨h1, h2, h3⟩ := hc
    rcases List.eq_nil_or_concat s with rfl | ⟨t, c, rfl⟩
    · exact absurd rfl h1
    · rw [List.concat_eq_append] at *
      rw [List.all_append, Bool.and_eq_true] at h2
      have hd : isDig c = true := by simpa using h2.2
      have hlt := dg_lt hd
      rw [valD_snoc]
      cases t with
      | nil =>
        rw [show valD 0 [] * 10 + dg8 c = dg8 c by simp [valR], Lib.decDigits_one hlt, dg_back hd]
        rfl
      | cons x r =>
        have hx : isDig x = true := by
          have := h2.1
          simp at this
          exact this.1
        have hne : x ≠ 48 := by
          intro e
          subst e
          rcases h3 with h3 | h3
          · simp at h3
          · exact h3 (by simp)
        have hv : 1 ≤ valD 0 (x :: r) := by
          have := valD_ge r (0 * 10 + dg8 x)
          have := dg_pos hx hne
          rw [valD_cons]
          omega
        have ih := dec_val n (x :: r) (by simp at h ⊢; omega) ⟨by simp, h2.1, .inr (by simpa using hne)⟩
        rw [Lib.decDigits, dif_neg (by omega), show (valD 0 (x :: r) * 10 + dg8 c) / 10 = valD 0 (x :: r) by omega, show (valD 0 (x :: r) * 10 + dg8 c) % 10 = dg8 c by omega, ih, dg_back hd]
theorem dec_canon : ∀ (n u : Nat), u ≤ n → canon (Lib.decDigits u) ∧ valD 0 (Lib.decDigits u) = u := by
  intro n
  induction n with
  | zero =>
    intro u h
    have h : u = 0 := by omega
    subst h
    rw [Lib.decDigits_one (by omega)]
    exact ⟨⟨by simp, by decide, .inl (by simp)⟩, by decide⟩
  | succ n ih =>
    intro u h
    by_cases hu : u < 10
    · rw [Lib.decDigits_one hu]
      obtain ⟨x, hx⟩ : ∃ x, x = UInt8.ofNat (48 + u) := ⟨_, rfl⟩
      have := isDig_of hu
      rw [← hx] at this ⊢
      exact ⟨⟨by simp, by simp [this.1], .inl (by simp)⟩, by simp [valR, this.2]⟩
    · obtain ⟨⟨h1, h2, h3⟩, h4⟩ := ih (u / 10) (by omega)
      have hd := isDig_of (u := u % 10) (by omega)
      rw [Lib.decDigits, dif_neg hu]
      obtain ⟨y, hy⟩ : ∃ y, y = UInt8.ofNat (48 + u % 10) := ⟨_, rfl⟩
      rw [← hy] at hd ⊢
      refine ⟨⟨by simp, by rw [List.all_append, h2]; simp [hd.1], .inr ?_⟩, by rw [valD_snoc, h4, hd.2]; omega⟩
      cases ht : Lib.decDigits (u / 10) with
      | nil => exact absurd ht h1
      | cons x r =>
        rw [ht] at h2 h3 h4
        rw [List.cons_append, List.head?_cons]
        intro e
        have e : x = 48 := by simpa using e
        subst e
        rcases h3 with h3 | h3
        · have : r = [] := by simpa using h3
          subst this
          have : u / 10 = 0 := h4.symm
          omega
        · exact h3 rfl
theorem pu_ok : ∀ (s : List UInt8) (acc u : Nat), Lib.parseUint10 acc s = .ok u → s.all isDig = true ∧ u = valD acc s
  | [], acc, u, h => by
    simp only [Lib.parseUint10] at h
    injection h with h
    exact ⟨rfl, h.symm⟩
  | c :: r, acc, u, h => by
    simp only [Lib.parseUint10] at h
    split at h
    · rename_i hc
      split at h
      · cases h
      · split at h
        · cases h
        · obtain ⟨h1, h2⟩ := pu_ok r _ u h
          exact ⟨by rw [List.all_cons, h1, isDig_iff.2 hc]; rfl, h2⟩
    · cases h
theorem pu_of : ∀ (s : List UInt8) (acc : Nat), s.all isDig = true → valD acc s < 18446744073709551616 → Lib.parseUint10 acc s = .ok (valD acc s)
  | [], acc, _, _ => rfl
  | c :: r, acc, h, hv => by
    rw [List.all_cons, Bool.and_eq_true] at h
    have hc := isDig_iff.1 h.1
    have hg := valD_ge r (acc * 10 + dg8 c)
    rw [valD_cons] at hv ⊢
    have hd : dg8 c = c.toNat - 48 := rfl
    simp only [Lib.parseUint10]
    rw [if_pos hc, if_neg (by omega), if_neg (by omega)]
    exact pu_of r _ h.2 hv
theorem numL_of {s : List UInt8} {most : Nat} (hm : most ≤ 18446744073709551615) : numL s most = if canon s ∧ valD 0 s ≤ most then some (valD 0 s) else none := by
  have hB : Lib.parseUintB 64 s = if s = [] then .syntax else Lib.parseUint10 0 s := by
    rw [Lib.parseUintB, show (2 : Nat) ^ 64 - 1 = 18446744073709551615 from by decide, Lib.parseUintM_64]
  rw [numL, hB]
  by_cases hs : s = []
  · rw [if_pos hs, if_neg (fun h => h.1.1 hs)]
  · rw [if_neg hs]
    by_cases hc : canon s ∧ valD 0 s ≤ most
    · rw [if_pos hc, pu_of s 0 hc.1.2.1 (by omega)]
      exact if_pos ⟨hc.2, dec_val _ s (Nat.le_refl _) hc.1⟩
    · rw [if_neg hc]
      cases hp : Lib.parseUint10 0 s with
      | ok u =>
        obtain ⟨h1, h2⟩ := pu_ok s 0 u hp
        refine if_neg ?_
        rintro ⟨h3, h4⟩
        have := (dec_canon u u (Nat.le_refl _)).1
        rw [h4] at this
        exact hc ⟨this, by rw [← h2]; exact h3⟩
      | _ => rfl
/-- The reference's number. -/
def rnumL (s : List UInt8) (most : Nat) : Option Nat := if s.length = 0 ∨ 20 < s.length ∨ (1 < s.length ∧ s.head? = some 48) then none else rnumF most 0 s
theorem rnum_eq {s : List UInt8} {most : Nat} (hm : most ≤ 18446744073709551615) : rnumL s most = numL s most := by
  rw [numL_of hm, rnumL]
  by_cases h : s.length = 0 ∨ 20 < s.length ∨ (1 < s.length ∧ s.head? = some 48)
  · rw [if_pos h, if_neg]
    rintro ⟨⟨h1, h2, h3⟩, h4⟩
    rcases h with h | h | ⟨h, h5⟩
    · exact h1 (List.eq_nil_of_length_eq_zero h)
    · cases s with
      | nil => simp at h
      | cons x r =>
        have hx : isDig x = true := by
          simp at h2
          exact h2.1
        have hne : x ≠ 48 := by
          intro e
          subst e
          rcases h3 with h3 | h3
          · simp at h3 h
            subst h3
            simp at h
          · exact h3 rfl
        have h6 := valD_mul r (0 * 10 + dg8 x)
        have h7 := dg_pos hx hne
        rw [valD_cons] at h4
        have h8 : 10 ^ 20 ≤ 10 ^ r.length := Nat.pow_le_pow_right (by decide) (by simp at h; omega)
        have h9 : 1 * 10 ^ r.length ≤ (0 * 10 + dg8 x) * 10 ^ r.length := Nat.mul_le_mul_right _ (by omega)
        have e20 : (10 : Nat) ^ 20 = 100000000000000000000 := by decide
        omega
    · rcases h3 with h3 | h3
      · omega
      · exact h3 h5
  · rw [if_neg h, rnumF_eq most s 0 (Nat.zero_le _)]
    have hcan : canon s ↔ s.all isDig = true := ⟨fun h => h.2.1, fun h2 => ⟨fun e => h (.inl (by rw [e]; rfl)), h2, by
      by_cases h3 : s.head? = some 48
      · by_cases h4 : 1 < s.length
        · exact absurd (.inr (.inr ⟨h4, h3⟩)) h
        · exact .inl (by omega)
      · exact .inr h3⟩⟩
    simp only [hcan]
theorem numL_iff {s : List UInt8} {most u : Nat} (hm : most ≤ 18446744073709551615) : numL s most = some u ↔ Lib.parseMag s = .ok u ∧ u ≤ most ∧ Lib.decDigits u = s := by
  rw [numL_of hm, Lib.parseMag]
  constructor
  · intro h
    split at h
    · rename_i hc
      cases h
      refine ⟨?_, hc.2, dec_val _ s (Nat.le_refl _) hc.1⟩
      rw [if_neg hc.1.1]
      exact pu_of s 0 hc.1.2.1 (by omega)
    · cases h
  · rintro ⟨h1, h2, h3⟩
    have h4 := (dec_canon u u (Nat.le_refl _))
    rw [h3] at h4
    rw [if_pos ⟨h4.1, by omega⟩, h4.2]
theorem codeL_iff {s : List UInt8} {v : Int} : codeL s = some v ↔ Lib.atoiAll s = .ok v ∧ Lib.itoa v = s := by
  unfold codeL
  cases h : Lib.atoiAll s with
  | ok u =>
    simp only
    constructor
    · intro h
      split at h
      · cases h
        exact ⟨rfl, by assumption⟩
      · cases h
    · rintro ⟨h1, h2⟩
      cases h1
      exact if_pos h2
  | _ => simp
theorem opt_eq {α : Type} {a b : Option α} (h : ∀ x, a = some x ↔ b = some x) : a = b := by
  cases a with
  | none =>
    cases b with
    | none => rfl
    | some y => exact (h y).2 rfl
  | some x => exact ((h x).1 rfl).symm
theorem dec_head (u : Nat) : ∀ c ∈ (Lib.decDigits u).head?, isDig c = true := by
  intro c hc
  have h := (dec_canon u u (Nat.le_refl _)).1.2.1
  cases hd : Lib.decDigits u with
  | nil => rw [hd] at hc; simp at hc
  | cons x r =>
    rw [hd] at hc h
    simp at hc h
    rw [← hc]
    exact h.1
theorem code_neg (r : List UInt8) : codeL (45 :: r) = (numL r 9223372036854775808).bind fun u => if 0 < u then some (-(u : Int)) else none := by
  refine opt_eq fun v => ?_
  rw [codeL_iff, Option.bind_eq_some_iff]
  have e45 : (45 : UInt8).toNat = 45 := rfl
  constructor
  · rintro ⟨h1, h2⟩
    simp only [Lib.atoiAll, e45] at h1
    split at h1
    · cases h1
    · cases h1
    · rename_i u hu
      rw [if_pos (by decide)] at hu
      simp only [not_true_eq_false, false_and, if_false, true_and, if_true] at h1
      split at h1
      · cases h1
      · rename_i hlt
        injection h1 with h1
        subst h1
        by_cases hu0 : u = 0
        · subst hu0
          rw [show Lib.itoa (-((0 : Nat) : Int)) = [48] from by rw [Lib.itoa, if_neg (by decide)]; exact Lib.decDigits_one (by omega)] at h2
          cases h2
        · rw [Lib.itoa_neg u (by omega)] at h2
          injection h2 with _ h2
          exact ⟨u, (numL_iff (by omega)).2 ⟨hu, by omega, h2⟩, if_pos (by omega)⟩
  · rintro ⟨u, h1, h2⟩
    obtain ⟨h3, h4, h5⟩ := (numL_iff (by omega)).1 h1
    split at h2
    · rename_i hp
      cases h2
      refine ⟨?_, by rw [Lib.itoa_neg u (by omega), h5]⟩
      simp only [Lib.atoiAll, e45]
      rw [if_pos (by decide), h3]
      simp only [not_true_eq_false, false_and, if_false, true_and, if_true]
      rw [if_neg (by omega)]
    · cases h2
theorem code_pos {s : List UInt8} (hs : s.head? ≠ some 45) : codeL s = Option.map (fun u : Nat => (u : Int)) (numL s 9223372036854775807) := by
  refine opt_eq fun v => ?_
  rw [codeL_iff, Option.map_eq_some_iff]
  cases s with
  | nil =>
    constructor
    · rintro ⟨h1, _⟩
      cases h1
    · rintro ⟨u, h1, _⟩
      have := ((numL_iff (by omega)).1 h1).1
      cases this
  | cons c r =>
    have hc : c.toNat ≠ 45 := fun e => hs (by rw [List.head?_cons, show c = 45 from UInt8.toNat_inj.1 e])
    constructor
    · rintro ⟨h1, h2⟩
      simp only [Lib.atoiAll, hc] at h1
      split at h1
      · cases h1
      · cases h1
      · rename_i u hu
        simp only [not_false_eq_true, true_and, false_and, if_false] at h1
        split at h1
        · cases h1
        · rename_i hlt
          injection h1 with h1
          subst h1
          rw [Lib.itoa_nonneg] at h2
          have h43 : c.toNat ≠ 43 := by
            intro e
            have := isDig_iff.1 (dec_head u c (by rw [h2]; simp))
            omega
          simp only [h43, or_self, if_false] at hu
          exact ⟨u, (numL_iff (by omega)).2 ⟨hu, by omega, h2⟩, rfl⟩
    · rintro ⟨u, h1, rfl⟩
      obtain ⟨h3, h4, h5⟩ := (numL_iff (by omega)).1 h1
      have h43 : c.toNat ≠ 43 := by
        intro e
        have := isDig_iff.1 (dec_head u c (by rw [h5]; simp))
        omega
      refine ⟨?_, by rw [Lib.itoa_nonneg, h5]⟩
      simp only [Lib.atoiAll, hc, h43, or_self, if_false]
      rw [h3]
      simp only [not_false_eq_true, true_and, false_and, if_false]
      rw [if_neg (by omega)]
end Go.Scrp
