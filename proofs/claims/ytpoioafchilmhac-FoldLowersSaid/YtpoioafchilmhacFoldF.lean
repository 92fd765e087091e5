/-
  The walks of four laws of layer fold: each answers true. No condition.
-/
import Derived.Test.YtpoioafchilmhacFoldE
namespace Go.Proofs.Ytpoioafchilmhac
open Go.RowKit Go.Foldp Go.Colm
set_option linter.unusedVariables false

set_option maxHeartbeats 800000 in
theorem foldLowers_walk (s : ByteArray) (hs : s.size ≤ maxLen) (w : World) :
    Calls Try.prog 3 #[.string s] w fun e w' => e = .returned (.bool true) ∧ Below w.heap.size w w' := by
  unfold maxLen at hs
  by_cases h3 : 3000 < s.size
  · go_enter Try.func3, Try.ntmps3
    go_wp2_with fail
    refine (folds_any _).mono ?_
    rintro e w1 ⟨rfl, hb⟩
    go_wp2_with fail
    go_ret
    exact ⟨rfl, hb⟩
  · go_enter Try.func3, Try.ntmps3
    go_wp2_with fail
    refine (lower_any _ _ (by omega)).mono ?_
    rintro e w1 ⟨rfl, hb1⟩
    go_wp2_with fail
    refine (rlower_any _ _ (by omega)).mono ?_
    rintro e w2 ⟨rfl, hb2⟩
    go_wp2_with fail
    refine (folds_any _).mono ?_
    rintro e w3 ⟨rfl, hb3⟩
    go_wp2_with fail
    go_ret
    exact ⟨rfl, below_chain (below_chain hb1 hb2) hb3⟩

set_option maxHeartbeats 800000 in
theorem foldLabels_walk (s : ByteArray) (hs : s.size ≤ maxLen) (w : World) :
    Calls Try.prog 4 #[.string s] w fun e w' => e = .returned (.bool true) ∧ Below w.heap.size w w' := by
  unfold maxLen at hs
  by_cases h3 : 3000 < s.size
  · go_enter Try.func4, Try.ntmps4
    go_wp2_with fail
    refine (folds_any _).mono ?_
    rintro e w1 ⟨rfl, hb⟩
    go_wp2_with fail
    go_ret
    exact ⟨rfl, hb⟩
  · go_enter Try.func4, Try.ntmps4
    go_wp2_with fail
    refine (label_is _ _ (by omega)).mono ?_
    rintro e w1 ⟨rfl, hb1⟩
    go_wp2_with fail
    refine (rlabel_any _ _ (by omega)).mono ?_
    rintro e w2 ⟨rfl, rfl⟩
    go_wp2_with fail
    refine (folds_any _).mono ?_
    rintro e w3 ⟨rfl, hb3⟩
    go_wp2_with fail
    go_ret
    exact ⟨rfl, below_chain hb1 hb3⟩

theorem size_low (s : ByteArray) : (ByteArray.mk (lowL s.data.toList).toArray).size = s.size := by
  show (lowL s.data.toList).toArray.size = s.size
  simp [lowL_length]

set_option maxHeartbeats 800000 in
theorem foldTwice_walk (s : ByteArray) (hs : s.size ≤ maxLen) (w : World) :
    Calls Try.prog 6 #[.string s] w fun e w' => e = .returned (.bool true) ∧ Below w.heap.size w w' := by
  unfold maxLen at hs
  by_cases h3 : 3000 < s.size
  · go_enter Try.func6, Try.ntmps6
    go_wp2_with fail
    refine (folds_any _).mono ?_
    rintro e w1 ⟨rfl, hb⟩
    go_wp2_with fail
    go_ret
    exact ⟨rfl, hb⟩
  · obtain ⟨T, hT, c1, c2, c3, c4, c5, c7⟩ : ∃ T : ByteArray, ((T.size : Int) == (s.size : Int)) = true ∧
        (∀ W, Calls Try.prog 9 #[.string s] W fun e w' => e = .returned (.string T) ∧ Below W.heap.size W w') ∧
        (∀ W, Calls Try.prog 9 #[.string T] W fun e w' => e = .returned (.string T) ∧ Below W.heap.size W w') ∧
        (∀ W, Calls Try.prog 13 #[.string s, .string T] W fun e w' => e = .returned (.bool true) ∧ Below W.heap.size W w') ∧
        (∀ W, Calls Try.prog 14 #[.string s, .string T] W fun e w' => e = .returned (.int .i64 0) ∧ Below W.heap.size W w') ∧
        (∀ W, Calls Try.prog 16 #[.string s, .string T] W fun e w' => e = .returned (.int .i64 s.size) ∧ Below W.heap.size W w') ∧
        (∀ W, Calls Try.prog 11 #[.string T] W fun e w' => e = .returned (.int .i64 (labelE s.data.toList)) ∧ Below W.heap.size W w') := by
      have hz := size_low s
      refine ⟨⟨(lowL s.data.toList).toArray⟩, by rw [hz]; simp, fun W => lower_any s W (by omega), fun W => ?_, fun W => ?_, fun W => ?_, fun W => ?_, fun W => ?_⟩
      · have c := lower_any ⟨(lowL s.data.toList).toArray⟩ W (by omega)
        simp only [lowL_lowL] at c
        exact c
      · have c := same_any s ⟨(lowL s.data.toList).toArray⟩ W (by omega) (by omega)
        simp only [sameL_low] at c
        exact c
      · have c := compare_any s ⟨(lowL s.data.toList).toArray⟩ W (by omega) (by omega)
        simp only [cmpL_low] at c
        exact c
      · have c := common_any s ⟨(lowL s.data.toList).toArray⟩ W (by omega) (by omega)
        simp only [commonL_low, str_len] at c
        exact c
      · have c := label_is ⟨(lowL s.data.toList).toArray⟩ W (by omega)
        simp only [labelE_low] at c
        exact c
    have C1 := Lib.hid c1
    have C2 := Lib.hid c2
    have C3 := Lib.hid c3
    have C4 := Lib.hid c4
    have C5 := Lib.hid c5
    have C7 := Lib.hid c7
    clear c1 c2 c3 c4 c5 c7
    go_enter Try.func6, Try.ntmps6
    go_wp2_with fail
    refine (C1.out _).mono ?_
    rintro e w1 ⟨rfl, hb1⟩
    go_wp2_with fail
    refine (C2.out _).mono ?_
    rintro e w2 ⟨rfl, hb2⟩
    go_wp2_with fail
    refine (C3.out _).mono ?_
    rintro e w3 ⟨rfl, hb3⟩
    go_wp2_with fail
    refine (C4.out _).mono ?_
    rintro e w4 ⟨rfl, hb4⟩
    go_wp2_with fail
    refine (C5.out _).mono ?_
    rintro e w5 ⟨rfl, hb5⟩
    go_wp2_with fail
    refine (label_is _ _ (by omega)).mono ?_
    rintro e w6 ⟨rfl, hb6⟩
    go_wp2_with fail
    refine (C7.out _).mono ?_
    rintro e w7 ⟨rfl, hb7⟩
    go_wp2_with fail
    refine (folds_any _).mono ?_
    rintro e w8 ⟨rfl, hb8⟩
    go_wp2_with fail
    go_ret
    exact ⟨rfl, below_chain (below_chain (below_chain (below_chain (below_chain (below_chain (below_chain hb1 hb2) hb3) hb4) hb5) hb6) hb7) hb8⟩

set_option maxHeartbeats 1600000 in
theorem foldPairs_walk (a : ByteArray) (ha : a.size ≤ maxLen) (b : ByteArray) (hb : b.size ≤ maxLen) (w : World) :
    Calls Try.prog 5 #[.string a, .string b] w fun e w' => e = .returned (.bool true) ∧ Below w.heap.size w w' := by
  unfold maxLen at ha hb
  by_cases h3 : 3000 < a.size
  · go_enter Try.func5, Try.ntmps5
    go_wp2_with fail
    refine (folds_any _).mono ?_
    rintro e w1 ⟨rfl, hb⟩
    go_wp2_with fail
    go_ret
    exact ⟨rfl, hb⟩
  · by_cases h4 : 3000 < b.size
    · go_enter Try.func5, Try.ntmps5
      go_wp2_with fail
      refine (folds_any _).mono ?_
      rintro e w1 ⟨rfl, hb⟩
      go_wp2_with fail
      go_ret
      exact ⟨rfl, hb⟩
    · obtain ⟨Sa, Sb, q, hq, c1, c2, c3⟩ : ∃ (Sa Sb : ByteArray) (q : Bool), (Sa.toList == Sb.toList) = q ∧
          (∀ W, Calls Try.prog 13 #[.string a, .string b] W fun e w' => e = .returned (.bool q) ∧ Below W.heap.size W w') ∧
          (∀ W, Calls Try.prog 10 #[.string a] W fun e w' => e = .returned (.string Sa) ∧ Below W.heap.size W w') ∧
          (∀ W, Calls Try.prog 10 #[.string b] W fun e w' => e = .returned (.string Sb) ∧ Below W.heap.size W w') := by
        refine ⟨_, _, sameL a.data.toList b.data.toList, ?_, fun W => same_any a b W (by omega) (by omega), fun W => rlower_any a W (by omega), fun W => rlower_any b W (by omega)⟩
        unfold sameL
        rw [ByteArray.toList_mk, ByteArray.toList_mk]
        by_cases e : lowL a.data.toList = lowL b.data.toList
        · simp [e]
        · simp [e]
      have C1 := Lib.hid c1
      have C2 := Lib.hid c2
      have C3 := Lib.hid c3
      clear c1 c2 c3
      cases q
      all_goals
        go_enter Try.func5, Try.ntmps5
        go_wp2_with fail
        refine (C1.out _).mono ?_
        rintro e w1 ⟨rfl, hb1⟩
        go_wp2_with fail
        refine (C2.out _).mono ?_
        rintro e w2 ⟨rfl, hb2⟩
        go_wp2_with fail
        refine (C3.out _).mono ?_
        rintro e w3 ⟨rfl, hb3⟩
        go_wp2_with fail
        refine (compare_any _ _ _ (by omega) (by omega)).mono ?_
        rintro e w4 ⟨rfl, hb4⟩
        go_wp2_with fail
        refine (rcompare_any _ _ _ (by omega) (by omega)).mono ?_
        rintro e w5 ⟨rfl, hb5⟩
        go_wp2_with fail
        refine (common_any _ _ _ (by omega) (by omega)).mono ?_
        rintro e w6 ⟨rfl, hb6⟩
        go_wp2_with fail
        refine (rcommon_any _ _ _ (by omega) (by omega)).mono ?_
        rintro e w7 ⟨rfl, hb7⟩
        go_wp2_with fail
        refine (folds_any _).mono ?_
        rintro e w8 ⟨rfl, hb8⟩
        go_wp2_with fail
        go_ret
        exact ⟨rfl, below_chain (below_chain (below_chain (below_chain (below_chain (below_chain (below_chain hb1 hb2) hb3) hb4) hb5) hb6) hb7) hb8⟩

end Go.Proofs.Ytpoioafchilmhac
