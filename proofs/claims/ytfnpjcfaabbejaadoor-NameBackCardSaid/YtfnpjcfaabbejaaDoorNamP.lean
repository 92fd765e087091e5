/-
  Plain laws of names as texts (layer name): cut at dots, joined by dots, how many labels two names share. No program in sight. No condition.
-/
import Derived.Test.YtfnpjcfaabbejaaDoorWireRA
import Derived.Test.YtfnpjcfaabbejaaDoorNamF
import Derived.Lib.SplitLaws
import Derived.Lib.Strings
namespace Go.Wirep
open Go.Foldp

/-- A text, cut at its dots. -/
def splitL : List UInt8 → List (List UInt8)
  | [] => [[]]
  | c :: r => if c = 46 then [] :: splitL r else match splitL r with
    | [] => [[c]]
    | x :: xs => (c :: x) :: xs
theorem splitL_dot (r : List UInt8) : splitL (46 :: r) = [] :: splitL r := by rw [splitL, if_pos rfl]
theorem splitL_cons {c : UInt8} (h : c ≠ 46) {r x : List UInt8} {xs : List (List UInt8)} (e : splitL r = x :: xs) : splitL (c :: r) = (c :: x) :: xs := by rw [splitL, if_neg h, e]
theorem splitL_some : ∀ s : List UInt8, ∃ x xs, splitL s = x :: xs
  | [] => ⟨_, _, rfl⟩
  | c :: r => by
    obtain ⟨x, xs, e⟩ := splitL_some r
    by_cases h : c = 46
    · subst h
      exact ⟨_, _, splitL_dot r⟩
    · exact ⟨_, _, splitL_cons h e⟩
theorem splitL_part : ∀ (a r : List UInt8), (∀ c ∈ a, c ≠ 46) → splitL (a ++ 46 :: r) = a :: splitL r
  | [], r, _ => splitL_dot r
  | c :: a, r, h => splitL_cons (h c (List.mem_cons_self ..)) (splitL_part a r fun d hd => h d (List.mem_cons_of_mem _ hd))
theorem splitL_end : ∀ a : List UInt8, (∀ c ∈ a, c ≠ 46) → splitL a = [a]
  | [], _ => rfl
  | c :: a, h => splitL_cons (h c (List.mem_cons_self ..)) (splitL_end a fun d hd => h d (List.mem_cons_of_mem _ hd))
/-- No part has a dot. -/
theorem splitL_no_dot : ∀ (s : List UInt8), ∀ x ∈ splitL s, ∀ c ∈ x, c ≠ 46
  | [], x, hx, c, hc => by
    simp [splitL] at hx
    subst hx
    cases hc
  | d :: r, x, hx, c, hc => by
    obtain ⟨y, ys, e⟩ := splitL_some r
    by_cases h : d = 46
    · subst h
      rw [splitL_dot] at hx
      rcases List.mem_cons.1 hx with rfl | hx
      · cases hc
      · exact splitL_no_dot r x hx c hc
    · rw [splitL_cons h e] at hx
      rcases List.mem_cons.1 hx with rfl | hx
      · rcases List.mem_cons.1 hc with rfl | hc
        · exact h
        · exact splitL_no_dot r y (by rw [e]; exact List.mem_cons_self ..) c hc
      · exact splitL_no_dot r x (by rw [e]; exact List.mem_cons_of_mem _ hx) c hc
theorem lib_split : ∀ s : List UInt8, Lib.split s [46] = splitL s
  | [] => by
    rw [Lib.split, Lib.count_miss (by simp [Lib.index])]
    rfl
  | c :: r => by
    have ih := lib_split r
    unfold Lib.split at ih ⊢
    by_cases h : c = 46
    · subst h
      have hix : Lib.index (46 :: r) [46] = 0 := by rw [Lib.index]; simp [List.isPrefixOf]
      rw [Lib.count_cons_eq, Nat.add_comm, Lib.splitK, hix, splitL_dot, ← ih]
      simp
    · rw [Lib.count_cons_ne c 46 r h]
      have hp : ([46] : List UInt8).isPrefixOf (c :: r) = false := by simp [List.isPrefixOf]; exact fun e => h e.symm
      have hix : Lib.index (c :: r) [46] = if Lib.index r [46] == -1 then -1 else Lib.index r [46] + 1 := by rw [Lib.index, hp]; simp
      by_cases hm : Lib.index r [46] = -1
      · rw [Lib.count_miss hm] at ih ⊢
        rw [Lib.splitK] at ih ⊢
        rw [splitL_cons h ih.symm]
      · have hge := Lib.index_ge r [46]
        obtain ⟨j, hj⟩ : ∃ j : Nat, Lib.index r [46] = j := ⟨(Lib.index r [46]).toNat, by omega⟩
        rw [Lib.count_hit (by simp) hj, Nat.add_comm, Lib.splitK] at ih ⊢
        rw [hix]
        rw [hj] at ih ⊢
        have e1 : (((j : Int) == -1) = false) := by rw [beq_eq_false_iff_ne]; omega
        have e2 : (((j : Int) + 1 == -1) = false) := by rw [beq_eq_false_iff_ne]; omega
        have e3 : ((j : Int) + 1).toNat = j + 1 := by omega
        simp only [e1, e2, e3, Bool.false_eq_true, if_false, Int.toNat_natCast, List.length_cons, List.length_nil, Nat.add_zero, Nat.zero_add] at ih ⊢
        rw [splitL_cons h ih.symm]
        simp
theorem low_dot_all : ∀ n : Fin 256, (lowB (UInt8.ofNat n.val) = 46 ↔ UInt8.ofNat n.val = 46) := by decide +kernel
theorem low_dot (c : UInt8) : lowB c = 46 ↔ c = 46 := by
  have := low_dot_all ⟨c.toNat, UInt8.toNat_lt c⟩
  simpa using this
theorem splitL_low : ∀ s : List UInt8, splitL (lowL s) = (splitL s).map lowL
  | [] => rfl
  | c :: r => by
    obtain ⟨x, xs, e⟩ := splitL_some r
    have ih := splitL_low r
    have e0 : lowL (c :: r) = lowB c :: lowL r := rfl
    rw [e0]
    by_cases h : c = 46
    · subst h
      rw [(low_dot 46).2 rfl, splitL_dot, splitL_dot, ih]
      rfl
    · rw [e] at ih
      rw [splitL_cons (fun e => h ((low_dot c).1 e)) ih, splitL_cons h e]
      rfl
/-- What is cut is joined again. -/
theorem join_split : ∀ s : List UInt8, Lib.join (splitL s) [46] = s
  | [] => by simp [splitL, Lib.join_one]
  | c :: r => by
    obtain ⟨x, xs, e⟩ := splitL_some r
    have ih := join_split r
    rw [e] at ih
    by_cases h : c = 46
    · subst h
      rw [splitL_dot, e, Lib.join_cons, tail_cons]
      rw [Lib.join_cons] at ih
      simp [← ih]
    · rw [splitL_cons h e]
      rw [Lib.join_cons] at ih ⊢
      rw [List.cons_append, ih]
theorem split_tail : ∀ r : List (List UInt8), (∀ s ∈ r, ∀ c ∈ s, c ≠ 46) → ∀ x : List UInt8, (∀ c ∈ x, c ≠ 46) → splitL (x ++ Lib.joinTail [46] r) = x :: r
  | [], _, x, hx => by rw [tail_nil, List.append_nil, splitL_end x hx]
  | y :: r, h, x, hx => by
    rw [tail_cons, List.append_assoc, List.singleton_append, splitL_part x _ hx, split_tail r (fun s hs => h s (List.mem_cons_of_mem _ hs)) y (h y (List.mem_cons_self ..))]
/-- What is joined is cut again. -/
theorem split_join {l : List (List UInt8)} (hne : l ≠ []) (h : ∀ s ∈ l, ∀ c ∈ s, c ≠ 46) : splitL (Lib.join l [46]) = l := by
  rcases l with _ | ⟨x, r⟩
  · exact absurd rfl hne
  · rw [Lib.join_cons]
    exact split_tail r (fun s hs => h s (List.mem_cons_of_mem _ hs)) x (h x (List.mem_cons_self ..))

/-- A dot at the end is taken off. -/
def trimDot (s : List UInt8) : List UInt8 := Lib.trimSuffix s [46]
theorem trimDot_le (s : List UInt8) : (trimDot s).length ≤ s.length := Lib.trimSuffix_le _ _
/-- A text's labels, or the error (0: none). -/
def parseL (s : List UInt8) : List (List UInt8) × Int :=
  if s = [46] then ([], 0) else if checkL (splitL (lowL (trimDot s))) = 0 then (splitL (lowL (trimDot s)), 0) else ([], checkL (splitL (lowL (trimDot s))))
/-- A name's text, or the error. -/
def textL (l : List (List UInt8)) : List UInt8 × Int := if checkL l = 0 then (if l = [] then ([46], 0) else (Lib.join l [46], 0)) else ([], checkL l)
theorem checkL_labels {l : List (List UInt8)} (h : checkL l = 0) : ∀ s ∈ l, labelE s = 0 := by
  unfold checkL at h
  split at h
  · rename_i ha
    rw [List.all_eq_true] at ha
    intro s hs
    simpa using ha s hs
  · cases h
theorem checkL_wire {l : List (List UInt8)} (h : checkL l = 0) : wireL l ≤ 255 := by
  unfold checkL at h
  split at h
  · split at h
    · cases h
    · omega
  · cases h
theorem checkL_mk {l : List (List UInt8)} (h1 : ∀ s ∈ l, labelE s = 0) (h2 : wireL l ≤ 255) : checkL l = 0 := by
  unfold checkL
  rw [if_pos (by rw [List.all_eq_true]; intro s hs; simpa using h1 s hs), if_neg (by omega)]
theorem wireL_low : ∀ l : List (List UInt8), wireL (l.map lowL) = wireL l
  | [] => rfl
  | s :: r => by simp only [List.map_cons, wireL, lowL_length, wireL_low r]
theorem checkL_low {l : List (List UInt8)} (h : checkL l = 0) : checkL (l.map lowL) = 0 := by
  refine checkL_mk (fun s hs => ?_) (by rw [wireL_low]; exact checkL_wire h)
  obtain ⟨x, hx, rfl⟩ := List.mem_map.1 hs
  exact labelE_low (checkL_labels h x hx)
theorem labels_no_dot {l : List (List UInt8)} (h : checkL l = 0) : ∀ s ∈ l, ∀ c ∈ s, c ≠ 46 := fun s hs c hc => by
  have h1 := (labelE_len (checkL_labels h s hs)).2.2
  rw [List.all_eq_true] at h1
  have h2 := h1 c hc
  unfold okB at h2
  rintro rfl
  simp at h2
/-- The text of labels ends with no dot, and is no dot. -/
theorem join_last {l : List (List UInt8)} (hne : l ≠ []) (h : checkL l = 0) : ∃ a c, Lib.join l [46] = a ++ [c] ∧ c ≠ 46 := by
  have hnd := labels_no_dot h
  have hlen := fun s hs => (labelE_len (checkL_labels h s hs)).1
  clear h
  induction l with
  | nil => exact absurd rfl hne
  | cons x r ih =>
    rcases r with _ | ⟨y, r⟩
    · rw [Lib.join_one]
      have h1 := hlen x (List.mem_cons_self ..)
      have hx : x ≠ [] := by rintro rfl; simp at h1
      exact ⟨x.dropLast, x.getLast hx, (List.dropLast_concat_getLast hx).symm, hnd x (List.mem_cons_self ..) _ (List.getLast_mem hx)⟩
    · obtain ⟨a, c, e, hc⟩ := ih (by simp) (fun s hs => hnd s (List.mem_cons_of_mem _ hs)) (fun s hs => hlen s (List.mem_cons_of_mem _ hs))
      refine ⟨x ++ [46] ++ a, c, ?_, hc⟩
      rw [Lib.join_cons] at e ⊢
      rw [tail_cons]
      simp only [List.append_assoc] at e ⊢
      rw [e]
theorem trim_none {a : List UInt8} {c : UInt8} (h : c ≠ 46) : trimDot (a ++ [c]) = a ++ [c] := by
  unfold trimDot Lib.trimSuffix
  rw [if_neg]
  unfold Lib.hasSuffix
  simp
  exact fun e => h e.symm
theorem low_join (l : List (List UInt8)) : lowL (Lib.join l [46]) = Lib.join (l.map lowL) [46] := by
  rcases l with _ | ⟨x, r⟩
  · rfl
  · rw [Lib.join_cons, List.map_cons, Lib.join_cons, low_append, low_tail]
/-- What is printed is parsed, with small letters. -/
theorem parse_text {l : List (List UInt8)} (h : checkL l = 0) : parseL (textL l).1 = (l.map lowL, 0) := by
  rw [textL, if_pos h]
  by_cases hne : l = []
  · subst hne
    rfl
  · rw [if_neg hne]
    obtain ⟨a, c, e, hc⟩ := join_last hne h
    have hns : Lib.join l [46] ≠ [46] := by
      rw [e]
      intro e2
      rcases a with _ | ⟨d, a⟩
      · simp at e2
        exact hc e2
      · simp at e2
    have htr : trimDot (Lib.join l [46]) = Lib.join l [46] := by rw [e]; exact trim_none hc
    have hsp : splitL (lowL (trimDot (Lib.join l [46]))) = l.map lowL := by
      rw [htr, splitL_low, split_join hne (labels_no_dot h)]
    show parseL (Lib.join l [46]) = _
    rw [parseL, if_neg hns, hsp, if_pos (checkL_low h)]
/-- What is parsed: small letters, no error in it. -/
theorem parse_ok {s : List UInt8} (h : (parseL s).2 = 0) : checkL (parseL s).1 = 0 ∧ (parseL s).1.map lowL = (parseL s).1 ∧ (textL (parseL s).1).1.length ≤ s.length := by
  unfold parseL at h ⊢
  split
  · rename_i e
    subst e
    exact ⟨rfl, rfl, by decide⟩
  · rename_i e
    rw [if_neg e] at h
    split
    · rename_i hc
      refine ⟨hc, ?_, ?_⟩
      · rw [splitL_low, List.map_map]
        apply List.map_congr_left
        intro x _
        exact lowL_lowL x
      · obtain ⟨x, xs, es⟩ := splitL_some (lowL (trimDot s))
        have hj := join_split (lowL (trimDot s))
        have hle := trimDot_le s
        rw [textL, if_pos hc, if_neg (by rw [es]; simp)]
        show (Lib.join (splitL (lowL (trimDot s))) [46]).length ≤ _
        rw [hj, lowL_length]
        exact hle
    · rename_i hc
      rw [if_neg hc] at h
      exact absurd h hc

/-! ### How many labels two names share, from the end -/
def comL : List (List UInt8) → List (List UInt8) → Nat
  | x :: a, y :: b => if lowL x = lowL y then comL a b + 1 else 0
  | _, _ => 0
theorem comL_nil_left (b : List (List UInt8)) : comL [] b = 0 := by rw [comL]; simp
theorem comL_nil_right (a : List (List UInt8)) : comL a [] = 0 := by rw [comL]; simp
theorem comL_cons (x y : List UInt8) (a b : List (List UInt8)) : comL (x :: a) (y :: b) = if lowL x = lowL y then comL a b + 1 else 0 := by rw [comL]
theorem comL_le : ∀ a b : List (List UInt8), comL a b ≤ a.length ∧ comL a b ≤ b.length
  | [], b => by rw [comL_nil_left]; simp
  | x :: a, [] => by rw [comL_nil_right]; simp
  | x :: a, y :: b => by
    have := comL_le a b
    rw [comL_cons]
    split
    · simp
      omega
    · simp
theorem comL_comm : ∀ a b : List (List UInt8), comL a b = comL b a
  | [], b => by rw [comL_nil_left, comL_nil_right]
  | x :: a, [] => by rw [comL_nil_left, comL_nil_right]
  | x :: a, y :: b => by
    rw [comL_cons, comL_cons, comL_comm a b]
    by_cases h : lowL x = lowL y
    · rw [if_pos h, if_pos h.symm]
    · rw [if_neg h, if_neg (fun e => h e.symm)]
theorem comL_step {a b : List (List UInt8)} {k : Nat} (ha : k < a.length) (hb : k < b.length) (h : comL a b = k + comL (a.drop k) (b.drop k)) (e : lowL a[k] = lowL b[k]) : comL a b = (k + 1) + comL (a.drop (k + 1)) (b.drop (k + 1)) := by
  rw [h, List.drop_eq_getElem_cons ha, List.drop_eq_getElem_cons hb, comL_cons, if_pos e]
  omega
theorem comL_stop {a b : List (List UInt8)} {k : Nat} (ha : k < a.length) (hb : k < b.length) (h : comL a b = k + comL (a.drop k) (b.drop k)) (e : ¬ lowL a[k] = lowL b[k]) : comL a b = k := by
  rw [h, List.drop_eq_getElem_cons ha, List.drop_eq_getElem_cons hb, comL_cons, if_neg e]
  rfl
theorem comL_end {a b : List (List UInt8)} {k : Nat} (hk : ¬ (k < a.length ∧ k < b.length)) (h : comL a b = k + comL (a.drop k) (b.drop k)) : comL a b = k := by
  rw [h]
  by_cases ha : k < a.length
  · rw [show b.drop k = [] from List.drop_eq_nil_of_le (by omega), comL_nil_right]
    rfl
  · rw [show a.drop k = [] from List.drop_eq_nil_of_le (by omega), comL_nil_left]
    rfl
theorem comL_low : ∀ a : List (List UInt8), comL (a.map lowL) a = a.length
  | [] => rfl
  | x :: a => by rw [List.map_cons, comL_cons, if_pos (lowL_lowL x), comL_low a]; rfl
def sharedL (a b : List (List UInt8)) : Nat := comL a.reverse b.reverse
theorem sharedL_comm (a b : List (List UInt8)) : sharedL a b = sharedL b a := comL_comm _ _
theorem sharedL_le (a b : List (List UInt8)) : sharedL a b ≤ a.length ∧ sharedL a b ≤ b.length := by
  have := comL_le a.reverse b.reverse
  rw [List.length_reverse, List.length_reverse] at this
  exact this
theorem sharedL_low (a : List (List UInt8)) : sharedL (a.map lowL) a = a.length := by
  rw [sharedL, ← List.map_reverse, comL_low, List.length_reverse]
end Go.Wirep
