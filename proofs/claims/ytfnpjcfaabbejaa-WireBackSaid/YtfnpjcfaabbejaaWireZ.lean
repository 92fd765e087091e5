/-
  Plain law of reading all names (layer wire). No program in sight. No condition.
-/
import Derived.Test.YtfnpjcfaabbejaaWireP
namespace Go.Wirep
open Go.Foldp

/-- A name that is got ends inside, behind where it began. -/
theorem getF_next (b : List UInt8) (at_ begin_ next : Nat) (l : List (List UInt8)) : (getF b at_ begin_ next l).2.2 = 0 → (next = 0 → at_ < (getF b at_ begin_ next l).2.1 ∧ (getF b at_ begin_ next l).2.1 ≤ b.length) ∧ (next ≠ 0 → (getF b at_ begin_ next l).2.1 = next) := by
  induction at_, begin_, next, l using getF.induct (b := b) with
  | case1 at_ begin_ next l h h0 =>
    intro _
    rw [getF_end h h0]
    simp only
    constructor
    · intro e
      rw [if_pos e]
      omega
    · intro e
      rw [if_neg e]
  | case2 at_ begin_ next l h h0 h1 h2 h3 ih =>
    intro he
    rw [getF_to h h1 h2 rfl h3] at he ⊢
    have := ih he
    constructor
    · intro e
      rw [dif_pos e] at this
      rw [if_pos e]
      have h5 := this.2 (by omega)
      omega
    · intro e
      rw [dif_neg e] at this
      rw [if_neg e]
      exact this.2 e
  | case3 at_ begin_ next l h h0 h1 h2 h3 => intro he; rw [getF_far h h1 h2 h3] at he; cases he
  | case4 at_ begin_ next l h h0 h1 h2 => intro he; rw [getF_cut h h1 h2] at he; cases he
  | case5 at_ begin_ next l h h0 h1 h2 => intro he; rw [getF_form h h2 (by omega)] at he; cases he
  | case6 at_ begin_ next l h h0 h1 h2 h3 h4 h5 ih =>
    intro he
    rw [getF_on h h0 (by omega) h3 h4 h5] at he ⊢
    have := ih he
    exact ⟨fun e => by have := this.1 e; omega, this.2⟩
  | case7 at_ begin_ next l h h0 h1 h2 h3 h4 h5 => intro he; rw [getF_long h h0 (by omega) h3 h4 h5] at he; cases he
  | case8 at_ begin_ next l h h0 h1 h2 h3 h4 => intro he; rw [getF_no h h0 (by omega) h3 h4] at he; cases he
  | case9 at_ begin_ next l h h0 h1 h2 h3 => intro he; rw [getF_short h h0 (by omega) h3] at he; cases he
  | case10 at_ begin_ next l h => intro he; rw [getF_out h] at he; cases he
theorem getA_next {b : List UInt8} {at_ : Nat} (h : (getA b at_).2.2 = 0) : at_ < (getA b at_).2.1 ∧ (getA b at_).2.1 ≤ b.length := by
  unfold getA at h ⊢
  split at h
  · rename_i hin
    rw [if_pos hin]
    have := (getF_next b _ _ 0 [] h).1 rfl
    simpa using this
  · cases h

/-- All names from a place on, so many at most. -/
def allG (b : List UInt8) : Nat → Nat → List (List (List UInt8)) → List (List (List UInt8)) × Int
  | 0, _, out => (out, 0)
  | f + 1, at_, out => if b.length ≤ at_ then (out, 0) else if (getA b at_).2.2 = 0 then allG b f (getA b at_).2.1 (out ++ [(getA b at_).1]) else ([], (getA b at_).2.2)
theorem allG_end {b : List UInt8} {at_ : Nat} {out : List (List (List UInt8))} : ∀ {f : Nat}, b.length ≤ at_ → allG b f at_ out = (out, 0)
  | 0, _ => by rw [allG]
  | f + 1, h => by rw [allG, if_pos h]
theorem allG_more (b : List UInt8) : ∀ (f f' at_ : Nat) (out : List (List (List UInt8))), b.length - at_ ≤ f → b.length - at_ ≤ f' → allG b f at_ out = allG b f' at_ out
  | 0, f', at_, out, h, h' => by rw [allG, allG_end (by omega)]
  | f + 1, 0, at_, out, h, h' => by rw [allG_end (f := 0) (by omega), allG_end (by omega)]
  | f + 1, f' + 1, at_, out, h, h' => by
    rw [allG, allG]
    by_cases hlt : b.length ≤ at_
    · rw [if_pos hlt, if_pos hlt]
    · rw [if_neg hlt, if_neg hlt]
      by_cases he : (getA b at_).2.2 = 0
      · rw [if_pos he, if_pos he]
        have := getA_next he
        exact allG_more b f f' _ _ (by omega) (by omega)
      · rw [if_neg he, if_neg he]
def allL (b : List UInt8) : List (List (List UInt8)) × Int := allG b b.length 0 []
theorem allG_on {b : List UInt8} {at_ : Nat} {out : List (List (List UInt8))} (h : at_ < b.length) (he : (getA b at_).2.2 = 0) : allG b (b.length - at_) at_ out = allG b (b.length - (getA b at_).2.1) (getA b at_).2.1 (out ++ [(getA b at_).1]) := by
  have hn := getA_next he
  obtain ⟨f, hf⟩ : ∃ f, b.length - at_ = f + 1 := ⟨b.length - at_ - 1, by omega⟩
  rw [hf, allG, if_neg (by omega), if_pos he]
  exact allG_more b _ _ _ _ (by omega) (by omega)
theorem allG_no {b : List UInt8} {at_ : Nat} {out : List (List (List UInt8))} (h : at_ < b.length) (he : (getA b at_).2.2 ≠ 0) : allG b (b.length - at_) at_ out = ([], (getA b at_).2.2) := by
  obtain ⟨f, hf⟩ : ∃ f, b.length - at_ = f + 1 := ⟨b.length - at_ - 1, by omega⟩
  rw [hf, allG, if_neg (by omega), if_neg he]
end Go.Wirep
