/-
  What the calls of the law FoldOrders of layer fold answer. No condition.
-/
import Derived.Test.YtpoioafchilmhacFoldE
import Derived.Deep.RegionHeld3
namespace Go.Proofs.Ytpoioafchilmhac
open Go.RowKit Go.Foldp Go.Colm
set_option linter.unusedVariables false

/-- What the calls of the law answer: x, y, z the places of the pairs, n how many bytes a and b both begin with. -/
structure OrdCalls (a b c : ByteArray) (x y z : Int) (n : Nat) : Prop where
  ab : ∀ W, Calls Try.prog 14 #[.string a, .string b] W fun e w' => e = .returned (.int .i64 x) ∧ Below W.heap.size W w'
  bc : ∀ W, Calls Try.prog 14 #[.string b, .string c] W fun e w' => e = .returned (.int .i64 y) ∧ Below W.heap.size W w'
  ac : ∀ W, Calls Try.prog 14 #[.string a, .string c] W fun e w' => e = .returned (.int .i64 z) ∧ Below W.heap.size W w'
  ba : ∀ W, Calls Try.prog 14 #[.string b, .string a] W fun e w' => e = .returned (.int .i64 (-x)) ∧ Below W.heap.size W w'
  aa : ∀ W, Calls Try.prog 14 #[.string a, .string a] W fun e w' => e = .returned (.int .i64 0) ∧ Below W.heap.size W w'
  same : ∀ W, Calls Try.prog 13 #[.string a, .string b] W fun e w' => e = .returned (.bool (decide (x = 0))) ∧ Below W.heap.size W w'
  cab : ∀ W, Calls Try.prog 16 #[.string a, .string b] W fun e w' => e = .returned (.int .i64 n) ∧ Below W.heap.size W w'
  cba : ∀ W, Calls Try.prog 16 #[.string b, .string a] W fun e w' => e = .returned (.int .i64 n) ∧ Below W.heap.size W w'
  sameN : ∀ W, Calls Try.prog 13 #[.string (a.extract 0 n), .string (b.extract 0 n)] W fun e w' => e = .returned (.bool true) ∧ Below W.heap.size W w'

theorem extract_list (a : ByteArray) (n : Nat) : (a.extract 0 n).data.toList = a.data.toList.take n := by
  simp [ByteArray.data_extract]

theorem ordCalls (a b c : ByteArray) (ha : a.size ≤ 3000) (hb : b.size ≤ 3000) (hc : c.size ≤ 3000) :
    OrdCalls a b c (cmpL a.data.toList b.data.toList) (cmpL b.data.toList c.data.toList) (cmpL a.data.toList c.data.toList) (commonL a.data.toList b.data.toList) where
  ab W := compare_any a b W (by omega) (by omega)
  bc W := compare_any b c W (by omega) (by omega)
  ac W := compare_any a c W (by omega) (by omega)
  ba W := by
    rw [← cmpL_swap]
    exact compare_any b a W (by omega) (by omega)
  aa W := by
    have c := compare_any a a W (by omega) (by omega)
    rwa [cmpL_self] at c
  same W := by
    rw [← sameL_cmp]
    exact same_any a b W (by omega) (by omega)
  cab W := common_any a b W (by omega) (by omega)
  cba W := by
    rw [commonL_comm]
    exact common_any b a W (by omega) (by omega)
  sameN W := by
    have h1 : (a.extract 0 (commonL a.data.toList b.data.toList)).size ≤ 3000 := by simp; omega
    have h2 : (b.extract 0 (commonL a.data.toList b.data.toList)).size ≤ 3000 := by simp; omega
    have c := same_any (a.extract 0 (commonL a.data.toList b.data.toList)) (b.extract 0 (commonL a.data.toList b.data.toList)) W (by omega) (by omega)
    rw [extract_list, extract_list, sameL_take] at c
    exact c

end Go.Proofs.Ytpoioafchilmhac
