/-
  Plain law of scripts as texts: what the lines of steps are, and whether they can be written. No program in sight. No condition.
-/
import Derived.Test.YtifmgmiaeoiidaaGreatDoorScrL
namespace Go.Scrp
open Go.RowKit Go.Colm
set_option linter.unusedVariables false

/-- A step's words. -/
def wordsT (h : Hd) : List (List UInt8) :=
  [(spellT h.kind).1] ++ (if keyT h.kind = true then [wordL h.name, Lib.decDigits h.typ] else []) ++
  (if h.kind = 1 then [Lib.decDigits h.life, setL h.recs] else if h.kind = 5 ∨ h.kind = 6 then [Lib.decDigits h.n] else if h.kind = 3 then [endT h.how, Lib.itoa h.code, [123]] else [])
/-- May a step not stand so deep? m: how many steps it has. -/
def badT (deep : Nat) (h : Hd) (m : Nat) : Bool := decide (20 < deep) || decide ((spellT h.kind).1 = []) || decide (endT h.how = []) || !ownT h m
mutual
/-- A step's lines, and whether one within can't be written. -/
def outS (deep : Nat) : Opd → List UInt8 × Bool
  | .mk h l => if h.kind = 3 then (lineT deep (wordsT h) ++ (outL (deep + 1) l).1 ++ lineT deep [[125]], (outL (deep + 1) l).2) else (lineT deep (wordsT h), false)
/-- Steps' lines, so many deep. -/
def outL (deep : Nat) : List Opd → List UInt8 × Bool
  | [] => ([], false)
  | .mk h l :: r => if badT deep h l.length = true then ([], true) else ((outS deep (.mk h l)).1 ++ (outL deep r).1, (outS deep (.mk h l)).2 || (outL deep r).2)
end
theorem outL_nil (deep : Nat) : outL deep [] = ([], false) := by rw [outL]
theorem outL_bad {deep : Nat} {h : Hd} {l r : List Opd} (e : badT deep h l.length = true) : outL deep (.mk h l :: r) = ([], true) := by rw [outL, if_pos e]
theorem outL_good {deep : Nat} {h : Hd} {l r : List Opd} (e : badT deep h l.length = false) : outL deep (.mk h l :: r) = ((outS deep (.mk h l)).1 ++ (outL deep r).1, (outS deep (.mk h l)).2 || (outL deep r).2) := by rw [outL, if_neg (by simp [e])]
theorem outS_view {deep : Nat} {h : Hd} {l : List Opd} (e : h.kind = 3) : outS deep (.mk h l) = (lineT deep (wordsT h) ++ (outL (deep + 1) l).1 ++ lineT deep [[125]], (outL (deep + 1) l).2) := by rw [outS, if_pos e]
theorem outS_plain {deep : Nat} {h : Hd} {l : List Opd} (e : h.kind ≠ 3) : outS deep (.mk h l) = (lineT deep (wordsT h), false) := by rw [outS, if_neg e]

/-- What the first k steps' lines are: the rest is written as it stands. -/
def OutSo (deep : Nat) (l : List Opd) (k : Nat) (acc : List UInt8) (wf : Bool) : Prop := outL deep l = (acc ++ (outL deep (l.drop k)).1, wf || (outL deep (l.drop k)).2)
theorem OutSo.start (deep : Nat) (l : List Opd) : OutSo deep l 0 [] false := by simp [OutSo]
theorem OutSo.on {deep k : Nat} {l sub : List Opd} {acc : List UInt8} {wf : Bool} {h : Hd} (H : OutSo deep l k acc wf) (hk : k < l.length) (hl : l[k] = .mk h sub) (hb : badT deep h sub.length = false) :
    OutSo deep l (k + 1) (acc ++ (outS deep (.mk h sub)).1) (wf || (outS deep (.mk h sub)).2) := by
  unfold OutSo at *
  rw [List.drop_eq_getElem_cons hk, hl, outL_good hb] at H
  rw [H]
  simp [Bool.or_assoc]
theorem OutSo.bad {deep k : Nat} {l sub : List Opd} {acc : List UInt8} {wf : Bool} {h : Hd} (H : OutSo deep l k acc wf) (hk : k < l.length) (hl : l[k] = .mk h sub) (hb : badT deep h sub.length = true) : outL deep l = (acc, true) := by
  unfold OutSo at H
  rw [List.drop_eq_getElem_cons hk, hl, outL_bad hb] at H
  rw [H]
  simp
theorem OutSo.done {deep k : Nat} {l : List Opd} {acc : List UInt8} {wf : Bool} (H : OutSo deep l k acc wf) (hk : l.length ≤ k) : outL deep l = (acc, wf) := by
  unfold OutSo at H
  rw [List.drop_eq_nil_of_le hk, outL_nil] at H
  rw [H]
  simp
theorem OutSo.len {deep k : Nat} {l sub : List Opd} {acc : List UInt8} {wf : Bool} {h : Hd} (H : OutSo deep l k acc wf) (hk : k < l.length) (hl : l[k] = .mk h sub) (hb : badT deep h sub.length = false) :
    acc.length + (outS deep (.mk h sub)).1.length ≤ (outL deep l).1.length := by
  unfold OutSo at H
  rw [List.drop_eq_getElem_cons hk, hl, outL_good hb] at H
  rw [H]
  simp
theorem bad_parts {deep : Nat} {h : Hd} {m : Nat} (hb : badT deep h m = false) : ¬ 20 < deep ∧ (spellT h.kind).1 ≠ [] ∧ endT h.how ≠ [] ∧ ownT h m = true := by
  unfold badT at hb
  simp at hb
  exact ⟨by omega, hb.1.1.2, hb.1.2, hb.2⟩
theorem spell_kinds {k : Int} (h : (spellT k).1 ≠ []) : k = 1 ∨ k = 2 ∨ k = 3 ∨ k = 4 ∨ k = 5 ∨ k = 6 ∨ k = 7 ∨ k = 8 := by
  unfold spellT at h
  by_cases h1 : k = 1
  · exact .inl h1
  by_cases h2 : k = 2
  · exact .inr (.inl h2)
  by_cases h3 : k = 3
  · exact .inr (.inr (.inl h3))
  by_cases h4 : k = 4
  · exact .inr (.inr (.inr (.inl h4)))
  by_cases h5 : k = 5
  · exact .inr (.inr (.inr (.inr (.inl h5))))
  by_cases h6 : k = 6
  · exact .inr (.inr (.inr (.inr (.inr (.inl h6)))))
  by_cases h7 : k = 7
  · exact .inr (.inr (.inr (.inr (.inr (.inr (.inl h7))))))
  by_cases h8 : k = 8
  · exact .inr (.inr (.inr (.inr (.inr (.inr (.inr h8))))))
  simp [h1, h2, h3, h4, h5, h6, h7, h8] at h
theorem words_ne (h : Hd) : wordsT h ≠ [] := by simp [wordsT]
theorem words_bulk (h : Hd) (deep : Nat) (l : List Opd) : bulk (wordsT h) ≤ (outS deep (.mk h l)).1.length := by
  have := line_len deep (wordsT h) (words_ne h)
  by_cases e : h.kind = 3
  · rw [outS_view e]
    simp
    omega
  · rw [outS_plain e]
    simp
    omega
theorem word_ge (s : List UInt8) : s.length ≤ (wordL s).length := by
  unfold wordL
  split
  · omega
  · simp [hexL_length]
    omega
theorem item_ge : ∀ l : List (List UInt8), bulk l ≤ bulk (l.map itemL)
  | [] => by simp [bulk]
  | s :: r => by
    have := item_ge r
    simp [bulk, itemL]
    split
    · subst_vars
      simp
      omega
    · rw [hexL_length]
      omega
theorem set_ge (l : List (List UInt8)) : bulk l ≤ (setL l).length + 1 := by
  unfold setL
  split
  · subst_vars
    simp [bulk]
  · rename_i h
    have := join_bulk 44 (l.map itemL) (by simpa using h)
    have := item_ge l
    omega

mutual
/-- How many steps there are, at all depths. -/
def cntS : Opd → Nat
  | .mk _ l => cntL l + 1
def cntL : List Opd → Nat
  | [] => 0
  | s :: r => cntS s + cntL r
end
theorem cntL_cons (s : Opd) (r : List Opd) : cntL (s :: r) = cntS s + cntL r := by rw [cntL]
theorem cntL_get : ∀ (l : List Opd) (k : Nat) (hk : k < l.length), cntS l[k] ≤ cntL l
  | s :: r, 0, _ => by rw [cntL_cons]; simp
  | s :: r, k + 1, hk => by
    have := cntL_get r k (by simpa using hk)
    rw [cntL_cons]
    simp only [List.getElem_cons_succ]
    omega
theorem cntS_sub {h : Hd} {l : List Opd} : cntS (.mk h l) = cntL l + 1 := by rw [cntS]
end Go.Scrp
