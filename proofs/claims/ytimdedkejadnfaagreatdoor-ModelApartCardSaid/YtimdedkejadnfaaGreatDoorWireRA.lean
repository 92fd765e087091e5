/-
  Plain law of names packed and got again (layer wire): what is read of bytes; what is read of packed ones. No program in sight. No condition.
-/
import Derived.Test.YtimdedkejadnfaaGreatDoorWireQ
namespace Go.Wirep
open Go.Foldp

/-- Labels with small letters, read from a place on in a part that began at 'begin'; the name ends ahead of nx. -/
inductive Rd (b : List UInt8) : Nat → Nat → List (List UInt8) → Nat → Prop
  | fin {at_ begin_ : Nat} (h : b[at_]? = some 0) : Rd b at_ begin_ [] (at_ + 1)
  | lab {at_ begin_ nx : Nat} {s : List UInt8} {l : List (List UInt8)} (hs : labelE s = 0) (hl : lowL s = s) (h1 : b[at_]? = some (UInt8.ofNat s.length)) (h2 : ∀ i, (hi : i < s.length) → b[at_ + 1 + i]? = some s[i])
      (r : Rd b (at_ + 1 + s.length) begin_ l nx) : Rd b at_ begin_ (s :: l) nx
  | ptr {at_ begin_ to nx : Nat} {x y : UInt8} {l : List (List UInt8)} (hx : b[at_]? = some x) (hy : b[at_ + 1]? = some y) (h192 : 192 ≤ x.toNat) (e : (x.toNat - 192) * 256 + y.toNat = to) (ht : to < begin_)
      (r : Rd b to to l nx) (hn : nx ≤ begin_) : Rd b at_ begin_ l (at_ + 2)

theorem labelE_len {s : List UInt8} (h : labelE s = 0) : 1 ≤ s.length ∧ s.length ≤ 63 ∧ s.all okB = true := by
  unfold labelE at h
  split at h
  · cases h
  · split at h
    · exact ⟨by omega, by omega, by assumption⟩
    · cases h
theorem len_byte {s : List UInt8} (h : labelE s = 0) : (UInt8.ofNat s.length).toNat = s.length := by
  have := labelE_len h
  rw [UInt8.toNat_ofNat']
  omega
theorem rd_lt {b : List UInt8} {at_ begin_ nx : Nat} {l : List (List UInt8)} (h : Rd b at_ begin_ l nx) : at_ < nx ∧ nx ≤ b.length := by
  induction h with
  | fin h =>
    have := (List.getElem?_eq_some_iff.1 h).1
    omega
  | lab hs hl h1 h2 r ih => omega
  | ptr hx hy h192 e ht r hn ih =>
    have := (List.getElem?_eq_some_iff.1 hy).1
    omega
theorem rd_begin {b : List UInt8} {at_ begin_ nx : Nat} {l : List (List UInt8)} (h : Rd b at_ begin_ l nx) : ∀ {begin2 : Nat}, begin_ ≤ begin2 → Rd b at_ begin2 l nx := by
  induction h with
  | fin h => exact fun _ => .fin h
  | lab hs hl h1 h2 r ih => exact fun hb => .lab hs hl h1 h2 (ih hb)
  | ptr hx hy h192 e ht r hn ih => exact fun hb => .ptr hx hy h192 e (Nat.lt_of_lt_of_le ht hb) r (Nat.le_trans hn hb)
theorem get_append {b : List UInt8} {i : Nat} {x : UInt8} (c : List UInt8) (h : b[i]? = some x) : (b ++ c)[i]? = some x := by
  rw [List.getElem?_append_left (List.getElem?_eq_some_iff.1 h).1]
  exact h
theorem rd_append {b : List UInt8} {at_ begin_ nx : Nat} {l : List (List UInt8)} (c : List UInt8) (h : Rd b at_ begin_ l nx) : Rd (b ++ c) at_ begin_ l nx := by
  induction h with
  | fin h => exact .fin (get_append c h)
  | lab hs hl h1 h2 r ih => exact .lab hs hl (get_append c h1) (fun i hi => get_append c (h2 i hi)) ih
  | ptr hx hy h192 e ht r hn ih => exact .ptr (get_append c hx) (get_append c hy) h192 e ht ih hn
theorem get_take {b : List UInt8} {i cut : Nat} {x : UInt8} (h : b[i]? = some x) (hc : i < cut) : (b.take cut)[i]? = some x := by
  rw [List.getElem?_take_of_lt hc]
  exact h
theorem rd_take {b : List UInt8} {at_ begin_ nx : Nat} {l : List (List UInt8)} (h : Rd b at_ begin_ l nx) : ∀ {cut : Nat}, begin_ ≤ at_ → nx ≤ cut → Rd (b.take cut) at_ begin_ l nx := by
  induction h with
  | fin h => exact fun _ hn => .fin (get_take h (by omega))
  | lab hs hl h1 h2 r ih =>
    intro cut hb hn
    have := rd_lt r
    exact .lab hs hl (get_take h1 (by omega)) (fun i hi => get_take (h2 i hi) (by omega)) (ih (by omega) hn)
  | ptr hx hy h192 e ht r hn ih => exact fun hb hc => .ptr (get_take hx (by omega)) (get_take hy (by omega)) h192 e ht (ih (Nat.le_refl _) (by omega)) hn

theorem wireL_append : ∀ (a c : List (List UInt8)), wireL (a ++ c) + 1 = wireL a + wireL c
  | [], c => by simp only [List.nil_append, wireL]; omega
  | s :: r, c => by
    have := wireL_append r c
    simp only [List.cons_append, wireL]
    omega
theorem mid_is {b s : List UInt8} {at_ : Nat} (h2 : ∀ i, (hi : i < s.length) → b[at_ + 1 + i]? = some s[i]) (h : at_ + 1 + s.length ≤ b.length) : (b.drop (at_ + 1)).take s.length = s := by
  apply List.ext_getElem
  · simp
    omega
  · intro i h3 h4
    have := h2 i h4
    rw [List.getElem?_eq_getElem (by omega), Option.some.injEq] at this
    simp [this]
theorem get_of_rd {b : List UInt8} {at_ begin_ nx : Nat} {l : List (List UInt8)} (h : Rd b at_ begin_ l nx) : ∀ (next : Nat) (acc : List (List UInt8)), wireL (acc ++ l) ≤ 255 → getF b at_ begin_ next acc = (acc ++ l, if next = 0 then nx else next, 0) := by
  induction h with
  | @fin at_ begin_ h =>
    intro next acc _
    obtain ⟨hlt, h0⟩ := List.getElem?_eq_some_iff.1 h
    rw [getF_end hlt (by rw [h0]; rfl), List.append_nil]
  | @lab at_ begin_ nx s l hs hl h1 h2 r ih =>
    intro next acc hw
    obtain ⟨hlt, h0⟩ := List.getElem?_eq_some_iff.1 h1
    have hsl := labelE_len hs
    have hbt : b[at_].toNat = s.length := by rw [h0, len_byte hs]
    have hin := rd_lt r
    have hm := mid_is h2 (by omega)
    have hw2 : wireL (acc ++ [s]) ≤ 255 := by
      have e1 := wireL_append acc [s]
      have e2 := wireL_append acc (s :: l)
      simp only [wireL] at e1 e2
      have := wireL_len l
      omega
    rw [getF_on hlt (by omega) (by omega) (by omega) (by rw [hbt, hm]; exact hs) (by rw [hbt, hm, hl]; exact hw2)]
    rw [hbt, hm, hl, ih next (acc ++ [s]) (by rw [List.append_assoc]; exact hw), List.append_assoc]
    rfl
  | @ptr at_ begin_ to nx x y l hx hy h192 e ht r hn ih =>
    intro next acc hw
    obtain ⟨hlt, h0⟩ := List.getElem?_eq_some_iff.1 hx
    obtain ⟨hlt2, h02⟩ := List.getElem?_eq_some_iff.1 hy
    rw [getF_to hlt (by rw [h0]; exact h192) hlt2 (by rw [h0, h02]; exact e) ht, ih _ acc hw]
    by_cases hz : next = 0
    · subst hz
      simp
    · simp [hz]
/-- A name that is cut is too short. -/
theorem get_short {b : List UInt8} {at_ begin_ nx : Nat} {l : List (List UInt8)} (h : Rd b at_ begin_ l nx) : ∀ (cut next : Nat) (acc : List (List UInt8)), at_ ≤ cut → cut < nx → wireL (acc ++ l) ≤ 255 → getF (b.take cut) at_ begin_ next acc = ([], 0, 3) := by
  induction h with
  | @fin at_ begin_ h =>
    intro cut next acc h1 h2 _
    exact getF_out (by rw [List.length_take]; omega)
  | @lab at_ begin_ nx s l hs hl h1 h2 r ih =>
    intro cut next acc hc1 hc2 hw
    obtain ⟨hlt, h0⟩ := List.getElem?_eq_some_iff.1 h1
    have hsl := labelE_len hs
    have hin := rd_lt r
    by_cases hca : at_ < cut
    · have hlt' : at_ < (b.take cut).length := by rw [List.length_take]; omega
      have hbt : (b.take cut)[at_].toNat = s.length := by rw [List.getElem_take, h0, len_byte hs]
      by_cases hcs : at_ + 1 + s.length ≤ cut
      · have hm := mid_is (b := b.take cut) (fun i hi => get_take (h2 i hi) (by omega)) (by rw [List.length_take]; omega)
        have hw2 : wireL (acc ++ [s]) ≤ 255 := by
          have e1 := wireL_append acc [s]
          have e2 := wireL_append acc (s :: l)
          simp only [wireL] at e1 e2
          have := wireL_len l
          omega
        rw [getF_on hlt' (by omega) (by omega) (by rw [hbt, List.length_take]; omega) (by rw [hbt, hm]; exact hs) (by rw [hbt, hm, hl]; exact hw2)]
        rw [hbt, hm, hl]
        exact ih cut next _ hcs hc2 (by rw [List.append_assoc]; exact hw)
      · exact getF_short hlt' (by omega) (by omega) (by rw [hbt, List.length_take]; omega)
    · exact getF_out (by rw [List.length_take]; omega)
  | @ptr at_ begin_ to nx x y l hx hy h192 e ht r hn ih =>
    intro cut next acc hc1 hc2 hw
    obtain ⟨hlt, h0⟩ := List.getElem?_eq_some_iff.1 hx
    by_cases hca : at_ < cut
    · have hlt' : at_ < (b.take cut).length := by rw [List.length_take]; omega
      exact getF_cut hlt' (by rw [List.getElem_take, h0]; exact h192) (by rw [List.length_take]; omega)
    · exact getF_out (by rw [List.length_take]; omega)

/-! ### The key of a suffix -/
theorem okB_all : ∀ n : Fin 256, okB (UInt8.ofNat n.val) = true → okB (lowB (UInt8.ofNat n.val)) = true ∧ lowB (UInt8.ofNat n.val) ≠ 46 := by decide +kernel
theorem okB_low {c : UInt8} (h : okB c = true) : okB (lowB c) = true ∧ lowB c ≠ 46 := by
  have := okB_all ⟨c.toNat, UInt8.toNat_lt c⟩
  simpa using this (by simpa using h)
theorem labelE_low {s : List UInt8} (h : labelE s = 0) : labelE (lowL s) = 0 := by
  obtain ⟨h1, h2, h3⟩ := labelE_len h
  unfold labelE
  rw [lowL_length, if_neg (by omega), if_pos]
  unfold lowL
  rw [List.all_map]
  rw [List.all_eq_true] at h3 ⊢
  exact fun c hc => (okB_low (h3 c hc)).1
theorem low_no_dot {s : List UInt8} (h : labelE s = 0) : ∀ c ∈ lowL s, c ≠ 46 := by
  intro c hc
  obtain ⟨x, hx, rfl⟩ := List.mem_map.1 hc
  have := (labelE_len h).2.2
  rw [List.all_eq_true] at this
  exact (okB_low (this x hx)).2
theorem tail_cons (sep : List UInt8) (x : List UInt8) (r : List (List UInt8)) : Lib.joinTail sep (x :: r) = sep ++ x ++ Lib.joinTail sep r := by
  simp [Lib.joinTail]
theorem tail_nil (sep : List UInt8) : Lib.joinTail sep [] = [] := rfl
theorem low_append (a c : List UInt8) : lowL (a ++ c) = lowL a ++ lowL c := by simp [lowL]
theorem low_tail : ∀ r : List (List UInt8), lowL (Lib.joinTail [46] r) = Lib.joinTail [46] (r.map lowL)
  | [] => rfl
  | x :: r => by
    rw [tail_cons, List.map_cons, tail_cons, low_append, low_append, low_tail r]
    rfl
theorem join_part : ∀ (x x' : List UInt8) (r r' : List (List UInt8)), (∀ c ∈ x, c ≠ 46) → (∀ c ∈ x', c ≠ 46) → x ++ Lib.joinTail [46] r = x' ++ Lib.joinTail [46] r' → x = x' ∧ Lib.joinTail [46] r = Lib.joinTail [46] r'
  | [], [], r, r', _, _, h => ⟨rfl, h⟩
  | [], c :: x', r, r', _, h2, h => by
    rcases r with _ | ⟨y, r⟩
    · rw [tail_nil] at h
      cases h
    · rw [tail_cons] at h
      simp only [List.nil_append, List.cons_append, List.cons.injEq] at h
      exact absurd h.1.symm (h2 c (List.mem_cons_self ..))
  | c :: x, [], r, r', h1, _, h => by
    rcases r' with _ | ⟨y, r'⟩
    · rw [tail_nil] at h
      cases h
    · rw [tail_cons] at h
      simp only [List.nil_append, List.cons_append, List.cons.injEq] at h
      exact absurd h.1 (h1 c (List.mem_cons_self ..))
  | c :: x, c' :: x', r, r', h1, h2, h => by
    simp only [List.cons_append, List.cons.injEq] at h
    have := join_part x x' r r' (fun d hd => h1 d (List.mem_cons_of_mem _ hd)) (fun d hd => h2 d (List.mem_cons_of_mem _ hd)) h.2
    exact ⟨by rw [h.1, this.1], this.2⟩
theorem tail_inj : ∀ (r r' : List (List UInt8)), (∀ s ∈ r, ∀ c ∈ s, c ≠ 46) → (∀ s ∈ r', ∀ c ∈ s, c ≠ 46) → Lib.joinTail [46] r = Lib.joinTail [46] r' → r = r'
  | [], [], _, _, _ => rfl
  | [], y :: r', _, _, h => by
    rw [tail_cons] at h
    cases h
  | x :: r, [], _, _, h => by
    rw [tail_cons] at h
    cases h
  | x :: r, y :: r', h1, h2, h => by
    rw [tail_cons, tail_cons, List.append_assoc, List.append_assoc] at h
    simp only [List.cons_append, List.nil_append, List.cons.injEq, true_and] at h
    have := join_part x y r r' (h1 x (List.mem_cons_self ..)) (h2 y (List.mem_cons_self ..)) h
    rw [this.1, tail_inj r r' (fun s hs => h1 s (List.mem_cons_of_mem _ hs)) (fun s hs => h2 s (List.mem_cons_of_mem _ hs)) this.2]
theorem key_cons (s : List UInt8) (r : List (List UInt8)) : keyL (s :: r) = lowL s ++ Lib.joinTail [46] (r.map lowL) := by
  rw [keyL, Lib.join_cons, low_append, low_tail]
theorem key_inj {s s' : List UInt8} {r r' : List (List UInt8)} (h1 : ∀ x ∈ s :: r, labelE x = 0) (h2 : ∀ x ∈ s' :: r', labelE x = 0) (h : keyL (s :: r) = keyL (s' :: r')) : (s :: r).map lowL = (s' :: r').map lowL := by
  rw [key_cons, key_cons] at h
  have := join_part _ _ _ _ (low_no_dot (h1 s (List.mem_cons_self ..))) (low_no_dot (h2 s' (List.mem_cons_self ..))) h
  have e := tail_inj _ _ (fun x hx => by
    obtain ⟨y, hy, rfl⟩ := List.mem_map.1 hx
    exact low_no_dot (h1 y (List.mem_cons_of_mem _ hy))) (fun x hx => by
    obtain ⟨y, hy, rfl⟩ := List.mem_map.1 hx
    exact low_no_dot (h2 y (List.mem_cons_of_mem _ hy))) this.2
  rw [List.map_cons, List.map_cons, this.1, e]
theorem key_len {s : List UInt8} {r : List (List UInt8)} (h : labelE s = 0) : (keyL r).length < (keyL (s :: r)).length := by
  have hs := labelE_len h
  rw [key_cons, List.length_append, lowL_length]
  rcases r with _ | ⟨y, r⟩
  · have : keyL [] = [] := rfl
    rw [this]
    simp only [List.length_nil]
    omega
  · rw [key_cons, List.map_cons, tail_cons]
    simp only [List.length_append, List.length_cons, List.length_nil]
    omega
end Go.Wirep
