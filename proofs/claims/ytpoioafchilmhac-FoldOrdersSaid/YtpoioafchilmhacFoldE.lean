/-
  The walk of the examples that every law of layer fold ends with: they hold. No condition.
-/
import Derived.Test.YtpoioafchilmhacFoldD
import Derived.Test.YtpoioafchilmhacFoldR
namespace Go.Proofs.Ytpoioafchilmhac
open Go.RowKit Go.Foldp Go.Colm
set_option linter.unusedVariables false

theorem fx1 (w : World) : Calls Try.prog 9 #[.string ⟨#[65, 98, 45, 90]⟩] w fun e w' => e = .returned (.string ⟨#[97, 98, 45, 122]⟩) ∧ Below w.heap.size w w' := by
  have c := lower_any ⟨#[65, 98, 45, 90]⟩ w (by decide)
  rw [show lowL (⟨#[65, 98, 45, 90]⟩ : ByteArray).data.toList = [97, 98, 45, 122] by decide +kernel] at c
  exact c
theorem fx2 (w : World) : Calls Try.prog 11 #[.string ⟨#[97, 32, 98]⟩] w fun e w' => e = .returned (.int .i64 20) ∧ Below w.heap.size w w' := by
  have c := label_is ⟨#[97, 32, 98]⟩ w (by decide)
  rw [show labelE (⟨#[97, 32, 98]⟩ : ByteArray).data.toList = 20 by decide +kernel] at c
  exact c
theorem fx3 (w : World) : Calls Try.prog 11 #[.string ⟨#[97]⟩] w fun e w' => e = .returned (.int .i64 0) ∧ Below w.heap.size w w' := by
  have c := label_is ⟨#[97]⟩ w (by decide)
  rw [show labelE (⟨#[97]⟩ : ByteArray).data.toList = 0 by decide +kernel] at c
  exact c
theorem fx4 (w : World) : Calls Try.prog 14 #[.string ⟨#[66]⟩, .string ⟨#[97]⟩] w fun e w' => e = .returned (.int .i64 1) ∧ Below w.heap.size w w' := by
  have c := compare_any ⟨#[66]⟩ ⟨#[97]⟩ w (by decide) (by decide)
  rw [show cmpL (⟨#[66]⟩ : ByteArray).data.toList (⟨#[97]⟩ : ByteArray).data.toList = 1 by decide +kernel] at c
  exact c
theorem fx5 (w : World) : Calls Try.prog 13 #[.string ⟨#[97, 66]⟩, .string ⟨#[65, 98]⟩] w fun e w' => e = .returned (.bool true) ∧ Below w.heap.size w w' := by
  have c := same_any ⟨#[97, 66]⟩ ⟨#[65, 98]⟩ w (by decide) (by decide)
  rw [show sameL (⟨#[97, 66]⟩ : ByteArray).data.toList (⟨#[65, 98]⟩ : ByteArray).data.toList = true by decide +kernel] at c
  exact c
theorem fx6 (w : World) : Calls Try.prog 16 #[.string ⟨#[97, 66, 99]⟩, .string ⟨#[65, 98, 100]⟩] w fun e w' => e = .returned (.int .i64 2) ∧ Below w.heap.size w w' := by
  have c := common_any ⟨#[97, 66, 99]⟩ ⟨#[65, 98, 100]⟩ w (by decide) (by decide)
  rw [show commonL (⟨#[97, 66, 99]⟩ : ByteArray).data.toList (⟨#[65, 98, 100]⟩ : ByteArray).data.toList = 2 by decide +kernel] at c
  exact c

set_option maxHeartbeats 800000 in
theorem folds_any (w : World) : Calls Try.prog 8 #[] w fun e w' => e = .returned (.bool true) ∧ Below w.heap.size w w' := by
  go_enter Try.func8, Try.ntmps8
  go_wp2_with fail
  refine (fx1 _).mono ?_
  rintro e w1 ⟨rfl, hb1⟩
  go_wp2_with fail
  refine (fx2 _).mono ?_
  rintro e w2 ⟨rfl, hb2⟩
  go_wp2_with fail
  refine (fx3 _).mono ?_
  rintro e w3 ⟨rfl, hb3⟩
  go_wp2_with fail
  refine (fx4 _).mono ?_
  rintro e w4 ⟨rfl, hb4⟩
  go_wp2_with fail
  refine (fx5 _).mono ?_
  rintro e w5 ⟨rfl, hb5⟩
  go_wp2_with fail
  refine (fx6 _).mono ?_
  rintro e w6 ⟨rfl, hb6⟩
  go_wp2_with fail
  go_ret
  exact ⟨rfl, below_chain (below_chain (below_chain (below_chain (below_chain hb1 hb2) hb3) hb4) hb5) hb6⟩

end Go.Proofs.Ytpoioafchilmhac
