/-
  Plain law of names as bytes (layer wire): what name bytes have at a place. No program in sight. No condition.
-/
import Derived.Test.YtimdedkejadnfaaGreatDoorFoldQ
namespace Go.Wirep
open Go.Foldp

/-- How many bytes a name needs. -/
def wireL : List (List UInt8) → Nat
  | [] => 1
  | s :: r => s.length + 1 + wireL r
theorem wireL_snoc : ∀ (l : List (List UInt8)) (s : List UInt8), wireL (l ++ [s]) = wireL l + (s.length + 1)
  | [], s => by simp only [List.nil_append, wireL]; omega
  | x :: r, s => by
    have := wireL_snoc r s
    simp only [List.cons_append, wireL]
    omega
theorem wireL_len : ∀ l : List (List UInt8), l.length + 1 ≤ wireL l
  | [] => by simp [wireL]
  | s :: r => by
    have := wireL_len r
    simp only [wireL, List.length_cons]
    omega

/-- What comes of reading a name: labels, where the name ends, the error (0: none). -/
abbrev Got := List (List UInt8) × Nat × Int

/-- From place 'at' on; 'begin': where this part began; 'next': where the name ends, 0: not known yet; l: the labels so far. -/
def getF (b : List UInt8) (at_ begin_ next : Nat) (l : List (List UInt8)) : Got :=
  if h : at_ < b.length then
    if b[at_].toNat = 0 then (l, if next = 0 then at_ + 1 else next, 0)
    else if 192 ≤ b[at_].toNat then
      if h2 : at_ + 1 < b.length then
        if (b[at_].toNat - 192) * 256 + b[at_ + 1].toNat < begin_ then
          getF b ((b[at_].toNat - 192) * 256 + b[at_ + 1].toNat) ((b[at_].toNat - 192) * 256 + b[at_ + 1].toNat) (if next = 0 then at_ + 2 else next) l
        else ([], 0, 4)
      else ([], 0, 3)
    else if 64 ≤ b[at_].toNat then ([], 0, 4)
    else if at_ + 1 + b[at_].toNat ≤ b.length then
      if labelE ((b.drop (at_ + 1)).take b[at_].toNat) = 0 then
        if wireL (l ++ [lowL ((b.drop (at_ + 1)).take b[at_].toNat)]) ≤ 255 then
          getF b (at_ + 1 + b[at_].toNat) begin_ next (l ++ [lowL ((b.drop (at_ + 1)).take b[at_].toNat)])
        else ([], 0, 21)
      else ([], 0, 4)
    else ([], 0, 3)
  else ([], 0, 3)
termination_by (begin_, 300 - wireL l)
decreasing_by
  · rename_i h
    exact Prod.Lex.left _ _ h
  · rename_i h
    rw [wireL_snoc] at h
    refine Prod.Lex.right _ ?_
    rw [wireL_snoc]
    omega

section
variable {b : List UInt8} {at_ begin_ next : Nat} {l : List (List UInt8)}
theorem getF_out (h : ¬ at_ < b.length) : getF b at_ begin_ next l = ([], 0, 3) := by rw [getF, dif_neg h]
theorem getF_end (h : at_ < b.length) (h0 : b[at_].toNat = 0) : getF b at_ begin_ next l = (l, if next = 0 then at_ + 1 else next, 0) := by
  rw [getF, dif_pos h, if_pos h0]
theorem getF_cut (h : at_ < b.length) (h1 : 192 ≤ b[at_].toNat) (h2 : ¬ at_ + 1 < b.length) : getF b at_ begin_ next l = ([], 0, 3) := by
  rw [getF, dif_pos h, if_neg (by omega), if_pos h1, dif_neg h2]
theorem getF_far (h : at_ < b.length) (h1 : 192 ≤ b[at_].toNat) (h2 : at_ + 1 < b.length) (h3 : ¬ (b[at_].toNat - 192) * 256 + b[at_ + 1].toNat < begin_) : getF b at_ begin_ next l = ([], 0, 4) := by
  rw [getF, dif_pos h, if_neg (by omega), if_pos h1, dif_pos h2, if_neg h3]
theorem getF_to (h : at_ < b.length) (h1 : 192 ≤ b[at_].toNat) (h2 : at_ + 1 < b.length) {to : Nat} (e : (b[at_].toNat - 192) * 256 + b[at_ + 1].toNat = to) (h3 : to < begin_) : getF b at_ begin_ next l = getF b to to (if next = 0 then at_ + 2 else next) l := by
  subst e
  rw [getF, dif_pos h, if_neg (by omega), if_pos h1, dif_pos h2, if_pos h3]
theorem getF_form (h : at_ < b.length) (h1 : 64 ≤ b[at_].toNat) (h2 : b[at_].toNat < 192) : getF b at_ begin_ next l = ([], 0, 4) := by
  rw [getF, dif_pos h, if_neg (by omega), if_neg (by omega), if_pos h1]
theorem getF_short (h : at_ < b.length) (h0 : b[at_].toNat ≠ 0) (h1 : b[at_].toNat < 64) (h2 : ¬ at_ + 1 + b[at_].toNat ≤ b.length) : getF b at_ begin_ next l = ([], 0, 3) := by
  rw [getF, dif_pos h, if_neg h0, if_neg (by omega), if_neg (by omega), if_neg h2]
theorem getF_no (h : at_ < b.length) (h0 : b[at_].toNat ≠ 0) (h1 : b[at_].toNat < 64) (h2 : at_ + 1 + b[at_].toNat ≤ b.length) (h3 : labelE ((b.drop (at_ + 1)).take b[at_].toNat) ≠ 0) : getF b at_ begin_ next l = ([], 0, 4) := by
  rw [getF, dif_pos h, if_neg h0, if_neg (by omega), if_neg (by omega), if_pos h2, if_neg h3]
theorem getF_long (h : at_ < b.length) (h0 : b[at_].toNat ≠ 0) (h1 : b[at_].toNat < 64) (h2 : at_ + 1 + b[at_].toNat ≤ b.length) (h3 : labelE ((b.drop (at_ + 1)).take b[at_].toNat) = 0)
    (h4 : ¬ wireL (l ++ [lowL ((b.drop (at_ + 1)).take b[at_].toNat)]) ≤ 255) : getF b at_ begin_ next l = ([], 0, 21) := by
  rw [getF, dif_pos h, if_neg h0, if_neg (by omega), if_neg (by omega), if_pos h2, if_pos h3, if_neg h4]
theorem getF_on (h : at_ < b.length) (h0 : b[at_].toNat ≠ 0) (h1 : b[at_].toNat < 64) (h2 : at_ + 1 + b[at_].toNat ≤ b.length) (h3 : labelE ((b.drop (at_ + 1)).take b[at_].toNat) = 0)
    (h4 : wireL (l ++ [lowL ((b.drop (at_ + 1)).take b[at_].toNat)]) ≤ 255) : getF b at_ begin_ next l = getF b (at_ + 1 + b[at_].toNat) begin_ next (l ++ [lowL ((b.drop (at_ + 1)).take b[at_].toNat)]) := by
  rw [getF, dif_pos h, if_neg h0, if_neg (by omega), if_neg (by omega), if_pos h2, if_pos h3, if_pos h4]
end

/-- Reading at any place. -/
def getA (b : List UInt8) (at_ : Int) : Got := if 0 ≤ at_ ∧ at_ < b.length then getF b at_.toNat at_.toNat 0 [] else ([], 0, 2)
end Go.Wirep
