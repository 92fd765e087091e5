/-
  Plain: lines as the reference reads them, by counting the blanks ahead; the kind of a line by all eight. No program in sight. No condition.
-/
import Derived.Test.YtifmgmiaeoiidaaGreatDoorScrH
namespace Go.Scrp
/-- How many blanks a line begins with. -/
def blk : List UInt8 → Nat
  | [] => 0
  | c :: r => if c = 32 then blk r + 1 else 0
theorem blk_le : ∀ s : List UInt8, blk s ≤ s.length
  | [] => Nat.le_refl _
  | c :: r => by
    have := blk_le r
    rw [blk]
    split <;> simp <;> omega
theorem blk_split : ∀ s : List UInt8, s = List.replicate (blk s) 32 ++ s.drop (blk s)
  | [] => rfl
  | c :: r => by
    have ih := blk_split r
    rw [blk]
    split
    · rename_i h
      subst h
      rw [List.replicate_succ, List.drop_succ_cons, List.cons_append, ← ih]
    · rfl
theorem blk_head : ∀ s : List UInt8, (s.drop (blk s)).head? ≠ some 32
  | [] => by simp [blk]
  | c :: r => by
    rw [blk]
    split
    · rw [List.drop_succ_cons]
      exact blk_head r
    · rename_i h
      simpa using h
theorem blk_of {t : List UInt8} (h : t.head? ≠ some 32) : ∀ n, blk (List.replicate n 32 ++ t) = n
  | 0 => by
    cases t with
    | nil => rfl
    | cons c r =>
      have h : c ≠ 32 := by simpa using h
      exact if_neg h
  | n + 1 => by
    rw [List.replicate_succ, List.cons_append, blk, if_pos rfl, blk_of h n]
theorem blk_all : ∀ (s : List UInt8) (i : Nat) (h : i < s.length), i < blk s → s[i] = 32
  | c :: r, i, h, hb => by
    rw [blk] at hb
    split at hb
    · rename_i hc
      cases i with
      | zero => exact hc
      | succ i => exact blk_all r i (by simpa using h) (by omega)
    · omega
theorem blk_stop (s : List UInt8) (h : blk s < s.length) : s[blk s] ≠ 32 := by
  intro e
  refine blk_head s ?_
  rw [List.drop_eq_getElem_cons h, List.head?_cons, e]
theorem blk_eq {s : List UInt8} {n : Nat} (hn : n ≤ s.length) (h1 : ∀ i (h : i < s.length), i < n → s[i] = 32) (h2 : ∀ h : n < s.length, s[n] ≠ 32) : blk s = n := by
  rcases Nat.lt_trichotomy (blk s) n with h | h | h
  · exact absurd (h1 (blk s) (by omega) h) (blk_stop s (by omega))
  · exact h
  · have := blk_le s
    exact absurd (blk_all s n (by omega) h) (h2 (by omega))
theorem shut_iff {deep : Nat} {s : List UInt8} : shut deep s ↔ 1 < deep ∧ blk s = deep - 2 ∧ s.drop (blk s) = [125] := by
  unfold shut
  constructor
  · rintro ⟨h1, h2⟩
    have hb : blk s = deep - 2 := by
      rw [h2]
      exact blk_of (by decide) _
    refine ⟨h1, hb, ?_⟩
    rw [hb, h2, List.drop_left' (by simp)]
  · rintro ⟨h1, h2, h3⟩
    refine ⟨h1, ?_⟩
    have := blk_split s
    rw [h3, h2] at this
    exact this
theorem spell_some {k : Int} (h1 : 1 ≤ k) (h8 : k ≤ 8) : (spellT k).1 ≠ [] := by
  have : k = 1 ∨ k = 2 ∨ k = 3 ∨ k = 4 ∨ k = 5 ∨ k = 6 ∨ k = 7 ∨ k = 8 := by omega
  rcases this with rfl | rfl | rfl | rfl | rfl | rfl | rfl | rfl <;> decide
theorem spell_one {k j : Int} (h1 : 1 ≤ k) (h8 : k ≤ 8) (g1 : 1 ≤ j) (g8 : j ≤ 8) (h : (spellT k).1 = (spellT j).1) : k = j := by
  have e1 : k = 1 ∨ k = 2 ∨ k = 3 ∨ k = 4 ∨ k = 5 ∨ k = 6 ∨ k = 7 ∨ k = 8 := by omega
  have e2 : j = 1 ∨ j = 2 ∨ j = 3 ∨ j = 4 ∨ j = 5 ∨ j = 6 ∨ j = 7 ∨ j = 8 := by omega
  rcases e1 with rfl | rfl | rfl | rfl | rfl | rfl | rfl | rfl <;> rcases e2 with rfl | rfl | rfl | rfl | rfl | rfl | rfl | rfl <;> first | rfl | exact absurd h (by decide)
theorem kind_zero {r : List (List UInt8)} : kindL ([] :: r) = 0 := by
  by_cases h : kindL ([] :: r) = 0
  · exact h
  · have h2 := (kind_many h).2
    have h8 := kindL_le ([] :: r)
    exact absurd h2 (spell_some (by omega) (by omega))
theorem op_blank {s : List UInt8} : opL (sepL 32 (32 :: s)) = none := by
  rw [sep_dot]
  unfold opL
  rw [kind_zero]
  rfl
theorem line_eq {deep : Nat} (s : List UInt8) (hd : 1 ≤ deep) : lineP deep s = if 20 < deep ∨ blk s ≠ deep - 1 then none else opL (sepL 32 (s.drop (blk s))) := by
  rw [lineP]
  by_cases h20 : 20 < deep
  · rw [if_pos h20, if_pos (.inl h20)]
  · rw [if_neg h20]
    have hsp := blk_split s
    by_cases hb : blk s = deep - 1
    · have hR : (if 20 < deep ∨ blk s ≠ deep - 1 then none else opL (sepL 32 (s.drop (blk s)))) = opL (sepL 32 (s.drop (blk s))) := if_neg (by omega)
      have hL : (List.replicate (deep - 1) (32 : UInt8)).isPrefixOf s = true := by
        rw [List.isPrefixOf_iff_prefix, ← hb]
        exact ⟨_, hsp.symm⟩
      rw [hR, if_pos hL, hb]
    · have hR : (if 20 < deep ∨ blk s ≠ deep - 1 then none else opL (sepL 32 (s.drop (blk s)))) = none := if_pos (.inr hb)
      rw [hR]
      by_cases hp : (List.replicate (deep - 1) (32 : UInt8)).isPrefixOf s = true
      · rw [if_pos hp]
        obtain ⟨t, ht⟩ := List.isPrefixOf_iff_prefix.1 hp
        have hlt : deep - 1 < blk s := by
          rcases Nat.lt_trichotomy (blk s) (deep - 1) with h | h | h
          · exfalso
            have hl : blk s < s.length := by
              have := congrArg List.length ht
              simp at this
              omega
            refine blk_stop s hl ?_
            have : ∀ (a b : List UInt8) (e : a = b) (i : Nat) (h : i < a.length), a[i] = b[i]'(e ▸ h) := by
              intro a b e i h
              subst e
              rfl
            rw [this s (List.replicate (deep - 1) 32 ++ t) ht.symm (blk s) hl, List.getElem_append_left (by simpa using h), List.getElem_replicate]
          · exact absurd h hb
          · exact h
        have hdr : s.drop (deep - 1) = 32 :: s.drop deep := by
          have hl : deep - 1 < s.length := by
            have := blk_le s
            omega
          rw [List.drop_eq_getElem_cons hl, blk_all s _ hl hlt, show deep - 1 + 1 = deep by omega]
        rw [hdr, op_blank]
      · rw [if_neg hp]
/-- A line's kind, found by going through all eight: behind the first i of them. -/
def kindTo (ws : List (List UInt8)) (i : Nat) : Nat := if kindL ws ≤ i then kindL ws else 0
theorem kindFrom_ge (ws : List (List UInt8)) : ∀ f k j, k ≤ j → j < k + f → matchK ws j = true → kindFrom ws f k ≠ 0 ∨ k = 0
  | 0, k, j, h1, h2, _ => by omega
  | f + 1, k, j, h1, h2, hm => by
    rw [kindFrom]
    split
    · rcases Nat.eq_zero_or_pos k with h | h
      · exact .inr h
      · left
        omega
    · rename_i hk
      rcases Nat.lt_or_ge k j with h | h
      · rcases kindFrom_ge ws f (k + 1) j (by omega) (by omega) hm with h | h
        · exact .inl h
        · omega
      · have : k = j := by omega
        subst this
        exact absurd hm hk
theorem matchK_iff {ws : List (List UInt8)} {j : Nat} (h1 : 1 ≤ j) (h8 : j ≤ 8) : matchK ws j = true ↔ kindL ws = j := by
  constructor
  · intro h
    have h0 : kindL ws ≠ 0 := by
      rcases kindFrom_ge ws 8 1 j h1 (by omega) h with h | h
      · exact h
      · omega
    have hk := kind_many h0
    have h8' := kindL_le ws
    simp only [matchK, Bool.and_eq_true, decide_eq_true_eq] at h
    have := spell_one (k := (kindL ws : Int)) (j := (j : Int)) (by omega) (by omega) (by omega) (by omega) (hk.2.trans h.1.symm)
    omega
  · intro h
    have hk := kind_many (ws := ws) (by omega)
    rw [h] at hk
    simp [matchK, hk.1, hk.2]
theorem kindTo_zero (ws : List (List UInt8)) : kindTo ws 0 = 0 := by
  unfold kindTo
  split <;> omega
theorem kindTo_all (ws : List (List UInt8)) : kindTo ws 8 = kindL ws := by
  unfold kindTo
  rw [if_pos (kindL_le ws)]
theorem kindTo_yes {ws : List (List UInt8)} {i : Nat} (hi : i < 8) (h : matchK ws (i + 1) = true) : kindTo ws (i + 1) = i + 1 := by
  have := (matchK_iff (by omega) (by omega)).1 h
  unfold kindTo
  rw [if_pos (by omega), this]
theorem kindTo_no {ws : List (List UInt8)} {i : Nat} (hi : i < 8) (h : matchK ws (i + 1) ≠ true) : kindTo ws (i + 1) = kindTo ws i := by
  have : kindL ws ≠ i + 1 := fun e => h ((matchK_iff (by omega) (by omega)).2 e)
  unfold kindTo
  by_cases h2 : kindL ws ≤ i
  · rw [if_pos h2, if_pos (by omega)]
  · rw [if_neg h2, if_neg (by omega)]
end Go.Scrp
