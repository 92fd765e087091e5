/-
  The walks of Same on two slices of ints, of the bounded count and the bounded depth, and of Few. No condition but lengths.
-/
import Derived.Test.YtopmcjpnfnfjiaaLendH
import Derived.Test.YtopmcjpnfnfjiaaLendT
import Derived.BigQuiet
namespace Go.Proofs.Ytopmcjpnfnfjiaa
open Go.RowKit Go.Colm Go.Lendp
set_option linter.unusedVariables false

theorem intsV_at {w : World} {A : Option Addr} {l : List Int} (h : RowV w A (intsV l)) {k : Nat} (hk : k < l.length) : ∃ b off, A = some ⟨b, off, none⟩ ∧ w.cell? ⟨b, off + k, none⟩ = some (.int .i64 l[k]) :=
  h k _ (by simp [intsV, hk])
theorem list_ne {a b : List Int} {k : Nat} (hk : k < a.length) (hk' : k < b.length) (h : a[k] ≠ b[k]) : (a == b) = false := by
  rw [beq_eq_false_iff_ne]
  rintro rfl
  exact h rfl
theorem list_eq {a b : List Int} (hl : a.length = b.length) (h : ∀ j, (hj : j < a.length) → (hj' : j < b.length) → a[j] = b[j]) : (a == b) = true := by
  rw [beq_iff_eq]
  exact List.ext_getElem hl h

set_option maxHeartbeats 800000 in
theorem same_any (a b : List Int) (A B : Option Addr) (ca cb : Nat) (w : World) (ha : RowV w A (intsV a)) (hb : RowV w B (intsV b)) (la : a.length < 1099511627776) (lb : b.length < 1099511627776) :
    Calls Try.prog 14 #[.slice A a.length ca, .slice B b.length cb] w fun e w' => e = .returned (.bool (a == b)) ∧ Below w.heap.size w w' := by
  by_cases hne : a.length = b.length
  · have HA := Lib.hid ha
    have HB := Lib.hid hb
    have hne' : (a.length : Int) = b.length := by omega
    clear ha hb
    go_enter Try.func14, Try.ntmps14
    go_wp2_with fail
    go_loopw [5] (fun i wr => ∃ k : Nat, k ≤ a.length ∧ i = .int .i64 k ∧ Hid (∀ j, j < k → (hj : j < a.length) → (hj' : j < b.length) → a[j] = b[j]) ∧ Below w.heap.size w wr) (fun i _ => a.length - (intOf i).toNat)
    case atStart => exact ⟨0, Nat.zero_le _, rfl, Lib.hid (by intro j hj; omega), Below.refl _ _⟩
    case round =>
      obtain ⟨k, hk, rfl, HE, hbw⟩ := hrel
      by_cases hlt : k < a.length
      · have hlt' : k < b.length := by omega
        obtain ⟨ba, oa, rfl, xa⟩ := intsV_at (HA.out.below hbw) hlt
        obtain ⟨bb, ob, rfl, xb⟩ := intsV_at (HB.out.below hbw) hlt'
        by_cases e : a[k] = b[k]
        · have HE2 : Hid (∀ j, j < k + 1 → (hj : j < a.length) → (hj' : j < b.length) → a[j] = b[j]) := Lib.hid (by
            intro j hj hj1 hj2
            rcases Nat.lt_or_ge j k with h | h
            · exact HE.out j h hj1 hj2
            · have : j = k := by omega
              subst this
              exact e)
          have t1 : (a[k] != b[k]) = false := by rw [e]; simp
          clear e
          go_wp2_with fail
          go_quiet (fail)
          go_wp2_with fail
          go_roundw
          case rel => exact ⟨k + 1, by omega, by go_num, HE2, below_drewN hbw _⟩
          case measure => simp [intOf]; omega
        · have t1 : (a[k] != b[k]) = true := by rwa [bne_iff_ne]
          have hf := list_ne hlt hlt' e
          have HF := Lib.hid hf
          clear e hf
          go_wp2_with fail
          go_quiet (fail)
          go_wp2_with fail
          go_ret
          exact ⟨ret_bool HF.out.symm, below_drewN hbw _⟩
      · have hf := list_eq hne fun j hj hj' => HE.out j (by omega) hj hj'
        have HF := Lib.hid hf
        clear hf
        go_wp2_with fail
        go_ret
        exact ⟨ret_bool HF.out.symm, hbw⟩
  · have hf : (a == b) = false := by
      rw [beq_eq_false_iff_ne]
      rintro rfl
      exact hne rfl
    have HF := Lib.hid hf
    have hne' : ¬ (a.length : Int) = b.length := by omega
    clear ha hb hf
    go_enter Try.func14, Try.ntmps14
    go_wp2_with fail
    go_ret
    exact ⟨ret_bool HF.out.symm, Below.refl _ _⟩

/-- The bounded count is reckoned rightly at these steps. -/
def CountOK (l : List Stp) : Prop := ∀ (N : Nat → Prop) (A : Option Addr) (cp : Nat) (most : Int) (w : World), StpsAt N w A 0 l →
  Calls Try.prog 21 #[.slice A l.length cp, .int .i64 most] w fun e w' => e = .returned (.int .i64 (cW l most 0)) ∧ w' = w

set_option maxHeartbeats 1000000 in
theorem count_step {l : List Stp} (H : ∀ k (hk : k < l.length) kk c sub, l[k] = .mk kk c sub → CountOK sub) (hlen : l.length ≤ 9223372036854775807) : CountOK l := by
  intro N A cp most w hs
  have HH := Lib.hid H
  have HS := Lib.hid hs
  clear H hs
  go_enter Try.func21, Try.ntmps21
  go_wp2_with fail
  go_loop [5, 6] (fun n i => ∃ (k : Nat) (n' : Int), k ≤ l.length ∧ i = .int .i64 k ∧ n = .int .i64 n' ∧ Hid (cW l most 0 = cW (l.drop k) most n')) (fun _ i => l.length - (intOf i).toNat)
  case atStart => exact ⟨0, 0, Nat.zero_le _, rfl, rfl, Lib.hid rfl⟩
  case round =>
    obtain ⟨k, n', hk, rfl, rfl, HE⟩ := hrel
    by_cases hlt : k < l.length
    · by_cases hle : n' ≤ most
      · obtain ⟨b, off, rfl, hbN, hst⟩ := HS.out.get l 0 k hlt
        rw [Nat.zero_add] at hst
        rcases hek : l[k] with ⟨kk, c, sub⟩
        rw [hek] at hst
        obtain ⟨s0, s1, A', cp', s2, hsub⟩ := stpAt_mk.1 hst
        have hok := HH.out k hlt kk c sub hek N A' cp' (wrap64 (most - n')) _ hsub
        have hnx : cW l most 0 = cW (l.drop (k + 1)) most (wrap64 (wrap64 (n' + 1) + cW sub (wrap64 (most - n')) 0)) := by
          rw [HE.out, List.drop_eq_getElem_cons hlt, hek, cW_cons _ _ _ _ _ _ hle]
        have HNX := Lib.hid hnx
        have HOK := Lib.hid hok
        clear hnx hok hst hek hsub
        go_wp2_with fail
        refine HOK.out.mono ?_
        rintro e w1 ⟨rfl, rfl⟩
        go_wp2_with fail
        go_round
        case rel => exact ⟨k + 1, _, by omega, by go_num, rfl, HNX⟩
        case measure => simp [intOf]; omega
      · have hf : cW l most 0 = n' := by rw [HE.out, cW_stop _ _ _ hle]
        have HF := Lib.hid hf
        clear hf
        go_wp2_with fail
        go_ret
        exact ⟨ret_int HF.out.symm, rfl⟩
    · have hf : cW l most 0 = n' := by rw [HE.out, List.drop_eq_nil_of_le (by omega), cW_nil]
      have HF := Lib.hid hf
      clear hf
      go_wp2_with fail
      go_ret
      exact ⟨ret_int HF.out.symm, rfl⟩

/-- No slice of steps is longer than a slice can be. -/
inductive Lim : List Stp → Prop where
  | mk {l : List Stp} : l.length ≤ 9223372036854775807 → (∀ k (hk : k < l.length), Lim (subs l[k])) → Lim l
theorem count_any : ∀ (n : Nat) (l : List Stp), cntL l < n → Lim l → CountOK l
  | 0, _, h, _ => absurd h (by omega)
  | n + 1, l, h, ⟨hl, hs⟩ => count_step (fun k hk kk c sub e => count_any n sub (by
      have := cntL_get l k hk
      rw [e, cntS] at this
      omega) (by
      have := hs k hk
      rwa [e] at this)) hl

theorem dF_take {m : Nat} {l : List Stp} {k : Nat} {kk c : Int} {sub : List Stp} (hk : k < l.length) (e : l[k] = .mk kk c sub) : (l.take (k + 1)).foldl (fun n s => max n (1 + dF m (subs s))) 0 = max ((l.take k).foldl (fun n s => max n (1 + dF m (subs s))) 0) (1 + dF m sub) := by
  rw [List.take_succ_eq_append_getElem hk, List.foldl_append, e]
  rfl
theorem dF_end {m : Nat} {l : List Stp} {k : Nat} (h : l.length ≤ k ∨ k = 300) (h3 : k ≤ 300) : (l.take k).foldl (fun n s => max n (1 + dF m (subs s))) 0 = dF (m + 1) l := by
  rw [dF]
  rcases h with h | rfl
  · rw [List.take_of_length_le h, List.take_of_length_le (by omega)]
  · rfl

def DeepOK (m : Nat) (l : List Stp) : Prop := ∀ (N : Nat → Prop) (A : Option Addr) (cp : Nat) (w : World), StpsAt N w A 0 l →
  Calls Try.prog 17 #[.slice A l.length cp, .int .i64 (m : Int)] w fun e w' => e = .returned (.int .i64 ((dF m l : Nat) : Int)) ∧ w' = w

set_option maxHeartbeats 1000000 in
theorem deep_zero (l : List Stp) : DeepOK 0 l := by
  intro N A cp w hs
  have hz : dF 0 l = 0 := by rw [dF]
  rw [hz]
  clear hz hs
  by_cases hl : (0 : Int) < l.length
  all_goals
    go_enter Try.func17, Try.ntmps17
    go_wp2_with fail
    go_loop [5, 6] (fun n i => i = .int .i64 0 ∧ n = .int .i64 0) (fun _ i => (intOf i).toNat)
    case atStart => exact ⟨rfl, rfl⟩
    case round =>
      obtain ⟨rfl, rfl⟩ := hrel
      go_wp2_with fail
      go_ret
      exact ⟨rfl, rfl⟩

set_option maxRecDepth 100000 in
set_option maxHeartbeats 1000000 in
theorem deep_step {m : Nat} {l : List Stp} (hm : m < 70) (H : ∀ k (hk : k < l.length) kk c sub, l[k] = .mk kk c sub → DeepOK m sub) : DeepOK (m + 1) l := by
  intro N A cp w hs
  have HH := Lib.hid H
  have HS := Lib.hid hs
  have hm0 : (0 : Int) < ((m + 1 : Nat) : Int) := by omega
  obtain ⟨M, hM⟩ : ∃ M : Int, M = ((m + 1 : Nat) : Int) := ⟨_, rfl⟩
  rw [← hM] at hm0 ⊢
  have hM1 : M - 1 = (m : Int) := by omega
  have hM2 : M ≤ 70 := by omega
  have HM1 := Lib.hid hM1
  clear H hs hM hM1
  go_enter Try.func17, Try.ntmps17
  go_wp2_with fail
  go_loop [5, 6] (fun n i => ∃ (k n' : Nat), k ≤ l.length ∧ k ≤ 300 ∧ i = .int .i64 k ∧ n = .int .i64 n' ∧ n' ≤ 100 ∧ Hid ((l.take k).foldl (fun n s => max n (1 + dF m (subs s))) 0 = n')) (fun _ i => l.length - (intOf i).toNat)
  case atStart => exact ⟨0, 0, Nat.zero_le _, by omega, rfl, rfl, by omega, Lib.hid rfl⟩
  case round =>
    obtain ⟨k, n', hk, hk3, rfl, rfl, hn, HE⟩ := hrel
    by_cases hlt : k < l.length ∧ k < 300
    · obtain ⟨hlt, hlt3⟩ := hlt
      obtain ⟨b, off, rfl, hbN, hst⟩ := HS.out.get l 0 k hlt
      rw [Nat.zero_add] at hst
      rcases hek : l[k] with ⟨kk, c, sub⟩
      rw [hek] at hst
      obtain ⟨s0, s1, A', cp', s2, hsub⟩ := stpAt_mk.1 hst
      have hok := HH.out k hlt kk c sub hek N A' cp' _ hsub
      have hdl := dF_le m sub
      have hnx : (l.take (k + 1)).foldl (fun n s => max n (1 + dF m (subs s))) 0 = max n' (1 + dF m sub) := by rw [dF_take hlt hek, HE.out]
      have HNX := Lib.hid hnx
      have HOK := Lib.hid hok
      clear hnx hok hst hek hsub
      rw [← HM1.out] at HOK
      go_wp2_with fail
      refine HOK.out.mono ?_
      rintro e w1 ⟨rfl, rfl⟩
      go_wp2_with fail
      all_goals
        go_round
        case rel => exact ⟨k + 1, max n' (1 + dF m sub), by omega, by omega, by go_num, (by congr 1; omega), by omega, HNX⟩
        case measure => simp [intOf]; omega
    · have hf := dF_end (m := m) (l := l) (k := k) (by omega) hk3
      rw [HE.out] at hf
      have HF := Lib.hid hf
      clear hf
      by_cases hl2 : k < l.length
      all_goals
        go_wp2_with fail
        go_ret
        exact ⟨ret_int (by rw [HF.out]), rfl⟩

theorem deep_any : ∀ (m : Nat), m ≤ 70 → ∀ l, DeepOK m l
  | 0, _, l => deep_zero l
  | m + 1, h, l => deep_step (by omega) fun k hk kk c sub e => deep_any m (by omega) sub

set_option maxHeartbeats 1000000 in
theorem few_any (x : Value) {N : Nat → Prop} {A : Option Addr} {cp : Nat} {l : List Stp} (w : World) (hs : StpsAt N w A 0 l) (hl : Lim l) :
    Calls Try.prog 8 #[x, .slice A l.length cp] w fun e w' => ∃ q : Bool, e = .returned (.bool q) ∧ (q = true → cntL l ≤ 200 ∧ dpL l ≤ dF 70 l ∧ dF 70 l < 70) ∧ w' = w := by
  have hcount := count_any (cntL l + 1) l (by omega) hl N A cp 200 w hs
  have hdeep := deep_any 70 (by omega) l N A cp w hs
  have htrue := few_true (l := l)
  have HC := Lib.hid hcount
  have HD := Lib.hid hdeep
  have HT := Lib.hid htrue
  obtain ⟨c, hc⟩ : ∃ c, c = cW l 200 0 := ⟨_, rfl⟩
  rw [← hc] at HC HT
  clear hcount hdeep htrue hs hc
  by_cases h1 : c ≤ 200
  · go_enter Try.func8, Try.ntmps8
    go_wp2_with fail
    refine HC.out.mono ?_
    rintro e w1 ⟨rfl, rfl⟩
    by_cases h2 : dF 70 l < 70
    all_goals
      go_wp2_with fail
      refine HD.out.mono ?_
      rintro e w2 ⟨rfl, rfl⟩
      go_wp2_with fail
      go_ret
    · exact ⟨_, rfl, fun _ => ⟨(HT.out h1 h2).1, (HT.out h1 h2).2, h2⟩, rfl⟩
    · refine ⟨_, rfl, fun h => ?_, rfl⟩
      simp at h
      omega
  · go_enter Try.func8, Try.ntmps8
    go_wp2_with fail
    refine HC.out.mono ?_
    rintro e w1 ⟨rfl, rfl⟩
    go_wp2_with fail
    go_ret
    exact .inl ⟨rfl, rfl⟩

end Go.Proofs.Ytopmcjpnfnfjiaa
