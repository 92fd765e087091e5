/-
  The walk of the law FoldOrders of layer fold: it answers true. No condition.
-/
import Derived.Test.YtpoioafchilmhacFoldG1
import Derived.Test.YtpoioafchilmhacFoldG2
import Derived.Test.YtpoioafchilmhacFoldG3
namespace Go.Proofs.Ytpoioafchilmhac
open Go.RowKit Go.Foldp Go.Colm
set_option linter.unusedVariables false

set_option maxHeartbeats 1600000 in
theorem foldOrders_walk (a : ByteArray) (ha : a.size ≤ maxLen) (b : ByteArray) (hb : b.size ≤ maxLen) (c : ByteArray) (hc : c.size ≤ maxLen) (w : World) :
    Calls Try.prog 7 #[.string a, .string b, .string c] w fun e w' => e = .returned (.bool true) ∧ Below w.heap.size w w' := by
  unfold maxLen at ha hb hc
  by_cases h1 : 3000 < a.size
  · go_enter Try.func7, Try.ntmps7
    go_wp2_with fail
    refine (folds_any _).mono ?_
    rintro e w1 ⟨rfl, hb⟩
    go_wp2_with fail
    go_ret
    exact ⟨rfl, hb⟩
  · by_cases h2 : 3000 < b.size
    · go_enter Try.func7, Try.ntmps7
      go_wp2_with fail
      refine (folds_any _).mono ?_
      rintro e w1 ⟨rfl, hb⟩
      go_wp2_with fail
      go_ret
      exact ⟨rfl, hb⟩
    · by_cases h3 : 3000 < c.size
      · go_enter Try.func7, Try.ntmps7
        go_wp2_with fail
        refine (folds_any _).mono ?_
        rintro e w1 ⟨rfl, hb⟩
        go_wp2_with fail
        go_ret
        exact ⟨rfl, hb⟩
      · have oc := ordCalls a b c (by omega) (by omega) (by omega)
        have rx := cmpL_range a.data.toList b.data.toList
        have ry := cmpL_range b.data.toList c.data.toList
        have rz := cmpL_range a.data.toList c.data.toList
        have tr := cmpL_trans a.data.toList b.data.toList c.data.toList
        have hn := commonL_le a.data.toList b.data.toList
        rw [str_len, str_len] at hn
        generalize cmpL a.data.toList b.data.toList = x at *
        generalize cmpL b.data.toList c.data.toList = y at *
        generalize cmpL a.data.toList c.data.toList = z at *
        generalize commonL a.data.toList b.data.toList = n at *
        obtain ⟨hna, hnb⟩ := hn
        have hy : -1 ≤ y ∧ y ≤ 1 := by rcases ry with h | h | h <;> rw [h] <;> omega
        have hz : -1 ≤ z ∧ z ≤ 1 := by rcases rz with h | h | h <;> rw [h] <;> omega
        have i1 : (n : Int) ≤ (a.size : Int) := by omega
        have i2 : (n : Int) ≤ (b.size : Int) := by omega
        rcases rx with rfl | rfl | rfl
        · rcases ry with rfl | rfl | rfl
          · have : z = -1 := by
              have t := tr (by omega) (by omega)
              rcases rz with h | h | h
              · exact h
              · have := (t.2 h).1
                omega
              · omega
            subst this
            exact foldOrders_4 a b c n (-1) w h1 h2 h3 i1 i2 (by omega) (by omega) oc
          · have : z = -1 := by
              have t := tr (by omega) (by omega)
              rcases rz with h | h | h
              · exact h
              · have := (t.2 h).1
                omega
              · omega
            subst this
            exact foldOrders_4 a b c n 0 w h1 h2 h3 i1 i2 (by omega) (by omega) oc
          · exact foldOrders_2 a b c n z w h1 h2 h3 i1 i2 hz.1 hz.2 oc
        · rcases ry with rfl | rfl | rfl
          · have : z = -1 := by
              have t := tr (by omega) (by omega)
              rcases rz with h | h | h
              · exact h
              · have := (t.2 h).2
                omega
              · omega
            subst this
            exact foldOrders_5 a b c n w h1 h2 h3 i1 i2 oc
          · rcases rz with rfl | rfl | rfl
            · exact foldOrders_7 a b c n w h1 h2 h3 i1 i2 oc
            · exact foldOrders_6 a b c n w h1 h2 h3 i1 i2 oc
            · have t := (tr (by omega) (by omega)).1
              omega
          · exact foldOrders_3 a b c n z w h1 h2 h3 i1 i2 hz.1 hz.2 oc
        · exact foldOrders_1 a b c n y z w h1 h2 h3 i1 i2 hy.1 hy.2 hz.1 hz.2 oc

end Go.Proofs.Ytpoioafchilmhac
