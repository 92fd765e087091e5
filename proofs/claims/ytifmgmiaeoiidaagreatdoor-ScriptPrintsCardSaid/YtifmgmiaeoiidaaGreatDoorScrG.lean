/-
  The walks of layer script's small functions on kinds: spelled, ended, keyed, counted. No condition.
-/
import Derived.Test.YtifmgmiaeoiidaaGreatDoorScrF
namespace Go.Scrp
/-- A step's first word, and how many words its line has. -/
def spellT (k : Int) : List UInt8 × Nat :=
  if k = 1 then ([112, 117, 116], 5) else if k = 2 then ([103, 101, 116], 3) else if k = 3 then ([118, 105, 101, 119], 6) else if k = 4 then ([100, 101, 108, 101, 116, 101], 3) else if k = 5 then ([116, 105, 99, 107], 2) else if k = 6 then ([115, 119, 101, 101, 112], 2) else if k = 7 then ([99, 111, 109, 112, 97, 99, 116], 1) else if k = 8 then ([115, 116, 97, 116, 115], 1) else ([], 0)
/-- How a view ends. -/
def endT (h : Int) : List UInt8 := if h = 0 then [114, 101, 116, 117, 114, 110] else if h = 1 then [112, 97, 110, 105, 99] else []
def keyT (k : Int) : Bool := decide (1 ≤ k) && decide (k ≤ 4)
def cntT (k : Int) : Bool := decide (k = 5) || decide (k = 6)
end Go.Scrp
namespace Go.Proofs.YtifmgmiaeoiidaaGreatDoor
open Go.RowKit Go.Colm Go.Scrp
set_option linter.unusedVariables false

set_option maxRecDepth 100000 in
set_option maxHeartbeats 4000000 in
theorem spelled_any (k : Int) (w : World) : Calls Tryz.prog 41 #[.int .i64 k] w fun e w' => e = .returned (.tuple #[.string ⟨(spellT k).1.toArray⟩, .int .i64 (spellT k).2]) ∧ w' = w := by
  by_cases h1 : k = 1
  · subst h1
    go_enter Tryz.func41, Tryz.ntmps41
    go_wp2_with fail
    go_ret2
    exact ⟨rfl, rfl⟩
  by_cases h2 : k = 2
  · subst h2
    go_enter Tryz.func41, Tryz.ntmps41
    go_wp2_with fail
    go_ret2
    exact ⟨rfl, rfl⟩
  by_cases h3 : k = 3
  · subst h3
    go_enter Tryz.func41, Tryz.ntmps41
    go_wp2_with fail
    go_ret2
    exact ⟨rfl, rfl⟩
  by_cases h4 : k = 4
  · subst h4
    go_enter Tryz.func41, Tryz.ntmps41
    go_wp2_with fail
    go_ret2
    exact ⟨rfl, rfl⟩
  by_cases h5 : k = 5
  · subst h5
    go_enter Tryz.func41, Tryz.ntmps41
    go_wp2_with fail
    go_ret2
    exact ⟨rfl, rfl⟩
  by_cases h6 : k = 6
  · subst h6
    go_enter Tryz.func41, Tryz.ntmps41
    go_wp2_with fail
    go_ret2
    exact ⟨rfl, rfl⟩
  by_cases h7 : k = 7
  · subst h7
    go_enter Tryz.func41, Tryz.ntmps41
    go_wp2_with fail
    go_ret2
    exact ⟨rfl, rfl⟩
  by_cases h8 : k = 8
  · subst h8
    go_enter Tryz.func41, Tryz.ntmps41
    go_wp2_with fail
    go_ret2
    exact ⟨rfl, rfl⟩
  have t1 : (k == 1) = false := by rwa [beq_eq_false_iff_ne]
  have t2 : (k == 2) = false := by rwa [beq_eq_false_iff_ne]
  have t3 : (k == 3) = false := by rwa [beq_eq_false_iff_ne]
  have t4 : (k == 4) = false := by rwa [beq_eq_false_iff_ne]
  have t5 : (k == 5) = false := by rwa [beq_eq_false_iff_ne]
  have t6 : (k == 6) = false := by rwa [beq_eq_false_iff_ne]
  have t7 : (k == 7) = false := by rwa [beq_eq_false_iff_ne]
  have t8 : (k == 8) = false := by rwa [beq_eq_false_iff_ne]
  have HE : Hid (spellT k = ([], 0)) := Lib.hid (by unfold spellT; simp only [h1, h2, h3, h4, h5, h6, h7, h8, if_false])
  go_enter Tryz.func41, Tryz.ntmps41
  go_wp2_with fail
  go_ret2
  exact ⟨by rw [HE.out]; rfl, rfl⟩

set_option maxRecDepth 100000 in
theorem ended_any (h : Int) (w : World) : Calls Tryz.prog 42 #[.int .i64 h] w fun e w' => e = .returned (.string ⟨(endT h).toArray⟩) ∧ w' = w := by
  by_cases h0 : h = 0
  · subst h0
    go_enter Tryz.func42, Tryz.ntmps42
    go_wp2_with fail
    go_ret
    exact ⟨rfl, rfl⟩
  by_cases h1 : h = 1
  · subst h1
    go_enter Tryz.func42, Tryz.ntmps42
    go_wp2_with fail
    go_ret
    exact ⟨rfl, rfl⟩
  have t0 : (h == 0) = false := by rwa [beq_eq_false_iff_ne]
  have t1 : (h == 1) = false := by rwa [beq_eq_false_iff_ne]
  have HE : Hid (endT h = []) := Lib.hid (by unfold endT; simp only [h0, h1, if_false])
  go_enter Tryz.func42, Tryz.ntmps42
  go_wp2_with fail
  go_ret
  exact ⟨by rw [HE.out]; rfl, rfl⟩

set_option maxRecDepth 100000 in
theorem keyed_any (k : Int) (w : World) : Calls Tryz.prog 44 #[.int .i64 k] w fun e w' => e = .returned (.bool (keyT k)) ∧ w' = w := by
  by_cases h1 : 1 ≤ k
  · by_cases h2 : k ≤ 4
    · have HE : Hid (keyT k = true) := Lib.hid (by unfold keyT; simp [h1, h2])
      go_enter Tryz.func44, Tryz.ntmps44
      go_wp2_with fail
      go_ret
      exact ⟨ret_bool HE.out.symm, rfl⟩
    · have HE : Hid (keyT k = false) := Lib.hid (by unfold keyT; simp [h2])
      go_enter Tryz.func44, Tryz.ntmps44
      go_wp2_with fail
      go_ret
      exact ⟨ret_bool HE.out.symm, rfl⟩
  · have HE : Hid (keyT k = false) := Lib.hid (by unfold keyT; simp [h1])
    go_enter Tryz.func44, Tryz.ntmps44
    go_wp2_with fail
    go_ret
    exact ⟨ret_bool HE.out.symm, rfl⟩

set_option maxRecDepth 100000 in
theorem counted_any (k : Int) (w : World) : Calls Tryz.prog 60 #[.int .i64 k] w fun e w' => e = .returned (.bool (cntT k)) ∧ w' = w := by
  by_cases h1 : k = 5
  · subst h1
    go_enter Tryz.func60, Tryz.ntmps60
    go_wp2_with fail
    go_ret
    exact ⟨rfl, rfl⟩
  have t1 : (k == 5) = false := by rwa [beq_eq_false_iff_ne]
  by_cases h2 : k = 6
  · subst h2
    go_enter Tryz.func60, Tryz.ntmps60
    go_wp2_with fail
    go_ret
    exact ⟨rfl, rfl⟩
  have t2 : (k == 6) = false := by rwa [beq_eq_false_iff_ne]
  have HE : Hid (cntT k = false) := Lib.hid (by unfold cntT; simp [h1, h2])
  go_enter Tryz.func60, Tryz.ntmps60
  go_wp2_with fail
  go_ret
  exact ⟨ret_bool HE.out.symm, rfl⟩
end Go.Proofs.YtifmgmiaeoiidaaGreatDoor
