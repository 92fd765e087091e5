/-
  Plain law of counting steps: the bounded count and the bounded depth tell that there are few. No program in sight. No condition.
-/
import Derived.Test.YtopmcjpnfnfjiaaLendP
import Derived.IntWalk
namespace Go.Lendp

mutual
/-- The bounded count as it is reckoned, in words of 64 bits. -/
def cW : List Stp → Int → Int → Int
  | [], _, n => n
  | s :: r, most, n => if n ≤ most then cW r most (RowKit.wrap64 (RowKit.wrap64 (n + 1) + cWS s (RowKit.wrap64 (most - n)))) else n
def cWS : Stp → Int → Int
  | .mk _ _ l, most => cW l most 0
end
def subs : Stp → List Stp
  | .mk _ _ l => l
theorem cW_nil (most n : Int) : cW [] most n = n := by rw [cW]
theorem cW_cons (k c : Int) (l r : List Stp) (most n : Int) (h : n ≤ most) : cW (.mk k c l :: r) most n = cW r most (RowKit.wrap64 (RowKit.wrap64 (n + 1) + cW l (RowKit.wrap64 (most - n)) 0)) := by
  rw [cW, if_pos h, cWS]
theorem cW_stop (l : List Stp) (most n : Int) (h : ¬ n ≤ most) : cW l most n = n := by
  cases l with
  | nil => rw [cW]
  | cons s r => rw [cW, if_neg h]

/-- The bounded depth. -/
def dF : Nat → List Stp → Nat
  | 0, _ => 0
  | m + 1, l => (l.take 300).foldl (fun n s => max n (1 + dF m (subs s))) 0

theorem foldl_max_le {f : Stp → Nat} : ∀ (l : List Stp) (a b : Nat), a ≤ b → (∀ s ∈ l, f s ≤ b) → l.foldl (fun n s => max n (f s)) a ≤ b
  | [], _, _, h, _ => h
  | s :: r, a, b, h, hf => foldl_max_le r _ b (Nat.max_le.2 ⟨h, hf s (by simp)⟩) fun t ht => hf t (by simp [ht])
theorem le_foldl_max {f : Stp → Nat} : ∀ (l : List Stp) (a : Nat), a ≤ l.foldl (fun n s => max n (f s)) a ∧ ∀ s ∈ l, f s ≤ l.foldl (fun n s => max n (f s)) a
  | [], a => ⟨Nat.le_refl _, by simp⟩
  | s :: r, a => by
    have h := le_foldl_max (f := f) r (max a (f s))
    refine ⟨Nat.le_trans (Nat.le_max_left _ _) h.1, ?_⟩
    intro t ht
    rcases List.mem_cons.1 ht with rfl | ht
    · exact Nat.le_trans (Nat.le_max_right _ _) h.1
    · exact h.2 t ht
theorem dF_le : ∀ (m : Nat) (l : List Stp), dF m l ≤ m
  | 0, _ => by rw [dF]; omega
  | m + 1, l => by
    rw [dF]
    refine foldl_max_le _ 0 _ (by omega) fun s _ => ?_
    have := dF_le m (subs s)
    omega
theorem dF_at {m : Nat} {l : List Stp} {k : Nat} (hk : k < l.length) (h3 : k < 300) : 1 + dF m (subs l[k]) ≤ dF (m + 1) l := by
  rw [dF]
  refine (le_foldl_max (f := fun s => 1 + dF m (subs s)) (l.take 300) 0).2 l[k] ?_
  rw [List.mem_take_iff_getElem]
  exact ⟨k, by omega, rfl⟩

theorem wrap_small {x : Int} (h0 : 0 ≤ x) (h1 : x < 9223372036854775808) : RowKit.wrap64 x = x := IntWalk.wrap64_in x (by omega)

/-- Below a depth, the count is the true one as long as it is not beyond the bound. -/
theorem cW_true : ∀ (m : Nat), m ≤ 70 → ∀ (r : List Stp) (most n : Nat), most ≤ 200 → n ≤ most + (m + 1) → (∀ j (h : j < r.length), n + j ≤ 200 → dF m (subs r[j]) < m) →
    ∃ c : Nat, cW r most n = c ∧ n ≤ c ∧ c ≤ most + (m + 1) ∧ (c ≤ most → c = n + cntL r)
  | _, _, [], most, n, _, hn, _ => ⟨n, cW_nil _ _, Nat.le_refl _, hn, fun _ => by rw [cntL]; rfl⟩
  | m, hm, .mk k c l :: r, most, n, hmo, hn, hd => by
    by_cases hle : n ≤ most
    · have h0 := hd 0 (by simp) (by omega)
      simp only [List.getElem_cons_zero, subs] at h0
      match m, hm, hd, h0, hn with
      | 0, _, _, h0, _ => omega
      | m' + 1, hm, hd, h0, hn =>
        obtain ⟨c1, e1, _, b1, t1⟩ := cW_true m' (by omega) l (most - n) 0 (by omega) (by omega) fun j hj hj2 => by
          have := dF_at (m := m') hj (by omega)
          omega
        obtain ⟨c2, e2, l2, b2, t2⟩ := cW_true (m' + 1) hm r most (n + 1 + c1) hmo (by omega) fun j hj hj2 => by
          have := hd (j + 1) (by simpa using hj) (by omega)
          simpa using this
        refine ⟨c2, ?_, by omega, b2, fun h => ?_⟩
        · rw [cW_cons _ _ _ _ _ _ (by omega), wrap_small (x := (most : Int) - n) (by omega) (by omega), wrap_small (x := (n : Int) + 1) (by omega) (by omega)]
          rw [show (most : Int) - n = ((most - n : Nat) : Int) by omega]
          have e1' : cW l ((most - n : Nat) : Int) 0 = c1 := e1
          rw [e1', wrap_small (by omega) (by omega), show (n : Int) + 1 + c1 = ((n + 1 + c1 : Nat) : Int) by omega]
          exact e2
        · rw [cntL, cntS]
          have := t1 (by omega)
          have := t2 h
          omega
    · exact ⟨n, cW_stop _ _ _ (by omega), Nat.le_refl _, hn, fun h => absurd h hle⟩
termination_by m _ r => (m, r.length)

theorem dF_deep : ∀ (m : Nat) (l : List Stp), cntL l ≤ 200 → dF m l < m → dpL l ≤ dF m l
  | 0, _, _, h => by omega
  | m + 1, l, hc, h => by
    have key : ∀ (r : List Stp) (b : Nat), (∀ s ∈ r, dpS s ≤ b) → dpL r ≤ b := by
      intro r b
      induction r with
      | nil => intro _; rw [dpL]; omega
      | cons s r ih =>
        intro hb
        rw [dpL]
        exact Nat.max_le.2 ⟨hb s (by simp), ih fun t ht => hb t (by simp [ht])⟩
    refine key l _ fun s hs => ?_
    obtain ⟨k, hk, rfl⟩ := List.getElem_of_mem hs
    have hlen : ∀ r : List Stp, r.length ≤ cntL r := by
      intro r
      induction r with
      | nil => simp
      | cons s r ih =>
        cases s
        rw [cntL, cntS, List.length_cons]
        omega
    have hmem : ∀ (r : List Stp) (k : Nat) (hk : k < r.length), cntS r[k] ≤ cntL r := by
      intro r
      induction r with
      | nil => intro k hk; simp at hk
      | cons s r ih =>
        intro k hk
        rw [cntL]
        cases k with
        | zero => simp
        | succ k =>
          have := ih k (by simpa using hk)
          simp only [List.getElem_cons_succ]
          omega
    have h1 := hlen l
    have h2 := dF_at (m := m) hk (by omega)
    have h3 := hmem l k hk
    rcases e : l[k] with ⟨kk, c, sub⟩
    rw [e] at h2 h3
    rw [cntS] at h3
    simp only [subs] at h2
    have h4 := dF_deep m sub (by omega) (by omega)
    rw [dpS]
    omega

/-- What the two bounds tell together. -/
theorem few_true {l : List Stp} (hc : cW l 200 0 ≤ 200) (hd : dF 70 l < 70) : cntL l ≤ 200 ∧ dpL l ≤ dF 70 l := by
  obtain ⟨c, e, _, _, t⟩ := cW_true 69 (by omega) l 200 0 (by omega) (by omega) fun j hj hj2 => by
    have h9 : 1 + dF 69 (subs l[j]) ≤ dF 70 l := dF_at (m := 69) hj (by omega)
    omega
  have e' : cW l 200 0 = c := e
  have h := t (by omega)
  have hcl : cntL l ≤ 200 := by omega
  exact ⟨hcl, dF_deep 70 l hcl hd⟩
end Go.Lendp
