/-
  The walk of the law FoldOrders of layer fold, part 3: some of the ways in which three texts can lie. No condition.
-/
import Derived.Test.YtpoioafchilmhacFoldGH
namespace Go.Proofs.Ytpoioafchilmhac
open Go.RowKit Go.Foldp Go.Colm
set_option linter.unusedVariables false

set_option maxHeartbeats 1600000 in
theorem foldOrders_6 (a b c : ByteArray) (n : Nat) (w : World) (h1 : ¬ 3000 < a.size) (h2 : ¬ 3000 < b.size) (h3 : ¬ 3000 < c.size) (i1 : (n : Int) ≤ (a.size : Int)) (i2 : (n : Int) ≤ (b.size : Int))  (oc : OrdCalls a b c 0 0 0 n) :
    Calls Try.prog 7 #[.string a, .string b, .string c] w fun e w' => e = .returned (.bool true) ∧ Below w.heap.size w w' := by
  have OC := Lib.hid oc
  clear oc
  go_enter Try.func7, Try.ntmps7
  go_wp2_with fail
  refine (OC.out.ab _).mono ?_
  rintro e w1 ⟨rfl, hb1⟩
  go_wp2_with fail
  refine (OC.out.bc _).mono ?_
  rintro e w2 ⟨rfl, hb2⟩
  go_wp2_with fail
  refine (OC.out.ac _).mono ?_
  rintro e w3 ⟨rfl, hb3⟩
  go_wp2_with fail
  refine (OC.out.ba _).mono ?_
  rintro e w4 ⟨rfl, hb4⟩
  go_wp2_with fail
  refine (OC.out.same _).mono ?_
  rintro e w5 ⟨rfl, hb5⟩
  go_wp2_with fail
  refine (OC.out.aa _).mono ?_
  rintro e w6 ⟨rfl, hb6⟩
  go_wp2_with fail
  refine (OC.out.cab _).mono ?_
  rintro e w7 ⟨rfl, hb7⟩
  have hbw := below_chain (below_chain (below_chain (below_chain (below_chain (below_chain hb1 hb2) hb3) hb4) hb5) hb6) hb7
  clear hb1 hb2 hb3 hb4 hb5 hb6 hb7
  go_wp2_with fail
  have hd : Below w7.heap.size w7 w7.drew := (Below.refl _ _).drew
  go_region_held3 (fun w' => Below w7.heap.size w7 w') (first | exact hd | assumption | exact below_chain (by assumption) (by assumption))
    (first
      | ((go_at_call 16; with_reducible refine (OC.out.cba _).mono ?_); rintro e w8 ⟨rfl, hb8⟩)
      | ((go_at_call 13; with_reducible refine (OC.out.sameN _).mono ?_); rintro e w8 ⟨rfl, hb8⟩)
      | ((go_at_call 8; with_reducible refine (folds_any _).mono ?_); rintro e w8 ⟨rfl, hb8⟩))
  go_wp2_with fail
  go_ret
  exact ⟨rfl, below_chain hbw (by assumption)⟩

set_option maxHeartbeats 1600000 in
theorem foldOrders_7 (a b c : ByteArray) (n : Nat) (w : World) (h1 : ¬ 3000 < a.size) (h2 : ¬ 3000 < b.size) (h3 : ¬ 3000 < c.size) (i1 : (n : Int) ≤ (a.size : Int)) (i2 : (n : Int) ≤ (b.size : Int))  (oc : OrdCalls a b c 0 0 (-1) n) :
    Calls Try.prog 7 #[.string a, .string b, .string c] w fun e w' => e = .returned (.bool true) ∧ Below w.heap.size w w' := by
  have OC := Lib.hid oc
  clear oc
  go_enter Try.func7, Try.ntmps7
  go_wp2_with fail
  refine (OC.out.ab _).mono ?_
  rintro e w1 ⟨rfl, hb1⟩
  go_wp2_with fail
  refine (OC.out.bc _).mono ?_
  rintro e w2 ⟨rfl, hb2⟩
  go_wp2_with fail
  refine (OC.out.ac _).mono ?_
  rintro e w3 ⟨rfl, hb3⟩
  go_wp2_with fail
  refine (OC.out.ba _).mono ?_
  rintro e w4 ⟨rfl, hb4⟩
  go_wp2_with fail
  refine (OC.out.same _).mono ?_
  rintro e w5 ⟨rfl, hb5⟩
  go_wp2_with fail
  refine (OC.out.aa _).mono ?_
  rintro e w6 ⟨rfl, hb6⟩
  go_wp2_with fail
  refine (OC.out.cab _).mono ?_
  rintro e w7 ⟨rfl, hb7⟩
  have hbw := below_chain (below_chain (below_chain (below_chain (below_chain (below_chain hb1 hb2) hb3) hb4) hb5) hb6) hb7
  clear hb1 hb2 hb3 hb4 hb5 hb6 hb7
  go_wp2_with fail
  have hd : Below w7.heap.size w7 w7.drew := (Below.refl _ _).drew
  go_region_held3 (fun w' => Below w7.heap.size w7 w') (first | exact hd | assumption | exact below_chain (by assumption) (by assumption))
    (first
      | ((go_at_call 16; with_reducible refine (OC.out.cba _).mono ?_); rintro e w8 ⟨rfl, hb8⟩)
      | ((go_at_call 13; with_reducible refine (OC.out.sameN _).mono ?_); rintro e w8 ⟨rfl, hb8⟩)
      | ((go_at_call 8; with_reducible refine (folds_any _).mono ?_); rintro e w8 ⟨rfl, hb8⟩))
  go_wp2_with fail
  go_ret
  exact ⟨rfl, below_chain hbw (by assumption)⟩

end Go.Proofs.Ytpoioafchilmhac
