/-
  Plain law of stories (layer lend): what comes of steps. No program in sight. No condition.
-/
import Derived.Laws.BitsAllLaws
namespace Go.Lendp

/-- A step of a story: its kind, its code, the steps within. -/
inductive Stp where
  | mk (kind code : Int) (steps : List Stp) : Stp

/-- What came of steps: the notes that came on, how much was lent at most on the way (0: nothing), what failed. -/
abbrev Came := List Int × Nat × Option Int

mutual
/-- One step; 'nb': there is no book; d: how much is lent; deep: how deep the steps lie. -/
def doS (nb : Bool) (d deep : Nat) : Stp → Came
  | .mk k c l =>
    if k = 1 then ([if nb then 0 else (d : Int)], 0, none)
    else if k = 2 then
      ((doL nb (d + 1) (deep + 1) l).1, max (d + 1) (doL nb (d + 1) (deep + 1) l).2.1, (doL nb (d + 1) (deep + 1) l).2.2)
    else if k = 3 then ([], 0, some c)
    else if k = 4 then
      ((doL nb (d + 1) (deep + 1) l).1 ++ (doL nb (d + 1) (deep + 1) l).2.2.toList, max (d + 1) (doL nb (d + 1) (deep + 1) l).2.1, none)
    else ([], 0, none)
/-- Steps, so many deep. -/
def doL (nb : Bool) (d deep : Nat) : List Stp → Came
  | [] => ([], 0, none)
  | s :: r =>
    if 50 < deep then ([], 0, none)
    else match (doS nb d deep s).2.2 with
      | some c => ((doS nb d deep s).1, (doS nb d deep s).2.1, some c)
      | none => ((doS nb d deep s).1 ++ (doL nb d deep r).1, max (doS nb d deep s).2.1 (doL nb d deep r).2.1, (doL nb d deep r).2.2)
end

mutual
/-- How many steps there are. -/
def cntS : Stp → Nat
  | .mk _ _ l => cntL l + 1
def cntL : List Stp → Nat
  | [] => 0
  | s :: r => cntS s + cntL r
end
mutual
/-- How deep steps go. -/
def dpS : Stp → Nat
  | .mk _ _ l => dpL l + 1
def dpL : List Stp → Nat
  | [] => 0
  | s :: r => max (dpS s) (dpL r)
end

theorem doL_deep (nb : Bool) (d deep : Nat) (l : List Stp) (h : 50 < deep) : doL nb d deep l = ([], 0, none) := by
  cases l with
  | nil => rw [doL]
  | cons s r => rw [doL, if_pos h]
theorem doL_fail {nb : Bool} {d deep : Nat} {s : Stp} {r : List Stp} {c : Int} (h : ¬ 50 < deep) (e : (doS nb d deep s).2.2 = some c) : doL nb d deep (s :: r) = ((doS nb d deep s).1, (doS nb d deep s).2.1, some c) := by
  rw [doL, if_neg h, e]
theorem doL_on {nb : Bool} {d deep : Nat} {s : Stp} {r : List Stp} (h : ¬ 50 < deep) (e : (doS nb d deep s).2.2 = none) :
    doL nb d deep (s :: r) = ((doS nb d deep s).1 ++ (doL nb d deep r).1, max (doS nb d deep s).2.1 (doL nb d deep r).2.1, (doL nb d deep r).2.2) := by
  rw [doL, if_neg h, e]

mutual
/-- No more notes come on than there are steps. -/
theorem doS_len (nb : Bool) (d deep : Nat) : ∀ s : Stp, (doS nb d deep s).1.length + (doS nb d deep s).2.2.toList.length ≤ cntS s
  | .mk k c l => by
    have h := doL_len nb (d + 1) (deep + 1) l
    rw [doS, cntS]
    repeat' split
    all_goals simp
    · omega
    · omega
theorem doL_len (nb : Bool) (d deep : Nat) : ∀ l : List Stp, (doL nb d deep l).1.length + (doL nb d deep l).2.2.toList.length ≤ cntL l
  | [] => by rw [doL]; simp
  | s :: r => by
    have h := doS_len nb d deep s
    have g := doL_len nb d deep r
    rw [cntL]
    by_cases hd : 50 < deep
    · rw [doL_deep _ _ _ _ hd]
      simp
    · rcases e : (doS nb d deep s).2.2 with _ | c
      · rw [doL_on hd e]
        rw [e] at h
        simp at h ⊢
        omega
      · rw [doL_fail hd e]
        rw [e] at h
        simp at h ⊢
        omega
end
end Go.Lendp
namespace Go.Lendp
mutual
/-- However deep and at whatever depth, as long as none is cut off: as many notes, the same failure. -/
theorem doS_shape (nb nb' : Bool) (d d' deep deep' : Nat) : ∀ s : Stp, deep + dpS s ≤ 51 → deep' + dpS s ≤ 51 →
    (doS nb d deep s).1.length = (doS nb' d' deep' s).1.length ∧ (doS nb d deep s).2.2 = (doS nb' d' deep' s).2.2
  | .mk k c l => fun h h' => by
    rw [dpS] at h h'
    have g := doL_shape nb nb' (d + 1) (d' + 1) (deep + 1) (deep' + 1) l (by omega) (by omega)
    rw [doS, doS]
    repeat' split
    all_goals simp_all
theorem doL_shape (nb nb' : Bool) (d d' deep deep' : Nat) : ∀ l : List Stp, deep + dpL l ≤ 51 → deep' + dpL l ≤ 51 →
    (doL nb d deep l).1.length = (doL nb' d' deep' l).1.length ∧ (doL nb d deep l).2.2 = (doL nb' d' deep' l).2.2
  | [] => fun _ _ => by rw [doL, doL]; simp
  | s :: r => fun h h' => by
    rw [dpL] at h h'
    have h1 : 1 ≤ dpS s := by cases s; rw [dpS]; omega
    have g1 := doS_shape nb nb' d d' deep deep' s (by omega) (by omega)
    have g2 := doL_shape nb nb' d d' deep deep' r (by omega) (by omega)
    rcases e : (doS nb d deep s).2.2 with _ | c
    · rw [doL_on (by omega) e, doL_on (by omega) (g1.2 ▸ e)]
      simp [g1.1, g2.1, g2.2]
    · rw [doL_fail (by omega) e, doL_fail (by omega) (g1.2 ▸ e)]
      exact ⟨g1.1, rfl⟩
end

/-- Notes without a book beside those with one: nothing, or the same. -/
inductive Beside : List Int → List Int → Prop where
  | nil : Beside [] []
  | cons {x y : Int} {a b : List Int} : (x = 0 ∨ x = y) → Beside a b → Beside (x :: a) (y :: b)
theorem Beside.self : ∀ a : List Int, Beside a a
  | [] => .nil
  | _ :: a => .cons (.inr rfl) (Beside.self a)
theorem Beside.append {a b c d : List Int} (h : Beside a b) (k : Beside c d) : Beside (a ++ c) (b ++ d) := by
  induction h with
  | nil => exact k
  | cons h _ ih => exact .cons h ih
theorem Beside.length {a b : List Int} (h : Beside a b) : a.length = b.length := by
  induction h with
  | nil => rfl
  | cons _ _ ih => simp [ih]
theorem Beside.at_ {a b : List Int} (h : Beside a b) : ∀ i, (hi : i < a.length) → a[i] = 0 ∨ a[i] = b[i]'(h.length ▸ hi) := by
  induction h with
  | nil => intro i hi; simp at hi
  | cons h _ ih =>
    intro i hi
    cases i with
    | zero => simpa using h
    | succ i => simpa using ih i (by simpa using hi)
mutual
theorem doS_nil (d d' deep : Nat) : ∀ s : Stp, Beside (doS true d deep s).1 (doS false d' deep s).1 ∧ (doS true d deep s).2.2 = (doS false d' deep s).2.2
  | .mk k c l => by
    have g := doL_nil (d + 1) (d' + 1) (deep + 1) l
    rw [doS, doS]
    by_cases h1 : k = 1
    · rw [if_pos h1, if_pos h1]
      exact ⟨.cons (.inl (by simp)) .nil, rfl⟩
    · rw [if_neg h1, if_neg h1]
      by_cases h2 : k = 2
      · rw [if_pos h2, if_pos h2]
        exact g
      · rw [if_neg h2, if_neg h2]
        by_cases h3 : k = 3
        · rw [if_pos h3, if_pos h3]
          exact ⟨.nil, rfl⟩
        · rw [if_neg h3, if_neg h3]
          by_cases h4 : k = 4
          · rw [if_pos h4, if_pos h4, g.2]
            exact ⟨g.1.append (.self _), rfl⟩
          · rw [if_neg h4, if_neg h4]
            exact ⟨.nil, rfl⟩
theorem doL_nil (d d' deep : Nat) : ∀ l : List Stp, Beside (doL true d deep l).1 (doL false d' deep l).1 ∧ (doL true d deep l).2.2 = (doL false d' deep l).2.2
  | [] => by rw [doL, doL]; exact ⟨.nil, rfl⟩
  | s :: r => by
    have g1 := doS_nil d d' deep s
    have g2 := doL_nil d d' deep r
    by_cases hd : 50 < deep
    · rw [doL_deep _ _ _ _ hd, doL_deep _ _ _ _ hd]
      exact ⟨.nil, rfl⟩
    · rcases e : (doS true d deep s).2.2 with _ | c
      · rw [doL_on hd e, doL_on hd (g1.2 ▸ e)]
        exact ⟨g1.1.append g2.1, g2.2⟩
      · rw [doL_fail hd e, doL_fail hd (g1.2 ▸ e)]
        exact ⟨g1.1, rfl⟩
end
end Go.Lendp
