/-
  The walks of layers class and clock, as a model calls them: Blocks, Of, Entry, Node; End, Over. No condition but the table of sizes.
-/
import Derived.Test.YtimdedkejadnfaaGreatDoorProg
import Derived.Test.YtimdedkejadnfaaGreatDoorMo0
import Derived.WalkKit
import Derived.WalkSpells
import Derived.BigQuiet
import Derived.Deep.QuietTactic
import Derived.RegionTactic
import Derived.Lib.LaidTab
namespace Go.Proofs.YtimdedkejadnfaaGreatDoor
open Go.RowKit Go.Colm
set_option linter.unusedVariables false
set_option linter.unusedSimpArgs false
set_option linter.unusedSectionVars false

def szL : List Nat := [0, 32, 48, 64, 96, 128, 192, 256, 384, 512]
def szAt (i : Nat) : Nat := szL.getD i 0
/-- The table of sizes lies there. -/
def Sz (w : World) : Prop := ∀ i, i < 10 → w.cell? ⟨0, i, none⟩ = some (.int .i64 (szAt i : Nat))
theorem Sz.lt {w : World} (h : Sz w) : 0 < w.heap.size := lt_of_cell (h 0 (by decide))
theorem Sz.keep {w w' : World} (h : Sz w) (hk : w'.heap[0]? = w.heap[0]?) : Sz w' := fun i hi => (World.cell?_of_block (a := ⟨0, i, none⟩) hk).trans (h i hi)
theorem Sz.below {w w' : World} (h : Sz w) (hb : Below w.heap.size w w') : Sz w' := h.keep (hb.block _ h.lt)

def blocksC (c : Nat) : Nat := if 1 ≤ c ∧ c ≤ 9 then 1024 / szAt c else 0
def classOf (n : Nat) : Nat := szL.findIdx fun z => decide (n ≤ z)
def ofC (n : Nat) : Nat × Int := if n < 1 then (0, 2) else if classOf n < 10 then (classOf n, 0) else (0, 22)
def entryC (n : Nat) : Nat × Int := if 480 < n then (0, 22) else ofC (32 + n)
def nodeC (n : Nat) : Nat × Int := if n < 1 ∨ 63 < n then (0, 20) else ofC (16 + n)

set_option maxHeartbeats 400000 in
theorem is_any (c : Int) (w : World) : Calls Tryz.prog 103 #[.int .i64 c] w fun e w' => e = .returned (.bool (decide (1 ≤ c ∧ c ≤ 9))) ∧ w' = w := by
  go_enter Tryz.func103, Tryz.ntmps103
  by_cases h1 : 1 ≤ c
  · by_cases h2 : c ≤ 9
    · go_wp2
      go_ret
      exact ⟨ret_bool (by simp [h1, h2]), rfl⟩
    · go_wp2
      go_ret
      exact ⟨ret_bool (by simp [h1, h2]), rfl⟩
  · go_wp2
    go_ret
    exact ⟨ret_bool (by simp; omega), rfl⟩

set_option maxHeartbeats 800000 in
theorem blocks_any (c : Nat) (w : World) (hs : Sz w) : Calls Tryz.prog 54 #[.int .i64 (c : Int)] w fun e w' => e = .returned (.int .i64 (blocksC c : Nat)) ∧ w' = w := by
  have HS := Lib.hid hs
  clear hs
  go_enter Tryz.func54, Tryz.ntmps54
  go_wp2_with fail
  refine (is_any _ _).mono ?_
  rintro e w1 ⟨rfl, rfl⟩
  by_cases h : 1 ≤ c ∧ c ≤ 9
  · have hc := HS.out c (by omega)
    have hd : decide ((1 : Int) ≤ (c : Int) ∧ (c : Int) ≤ 9) = true := by simp; omega
    obtain ⟨h1, h2⟩ := h
    have hz : ((szAt c : Nat) : Int) ≠ 0 := by
      have : c = 1 ∨ c = 2 ∨ c = 3 ∨ c = 4 ∨ c = 5 ∨ c = 6 ∨ c = 7 ∨ c = 8 ∨ c = 9 := by omega
      rcases this with rfl | rfl | rfl | rfl | rfl | rfl | rfl | rfl | rfl <;> decide
    rw [hd]
    obtain ⟨z, hzz⟩ : ∃ z, z = szAt c := ⟨_, rfl⟩
    rw [← hzz] at hc hz
    have HZ := Lib.hid hzz
    clear hzz
    go_wp2
    go_ret
    refine ⟨ret_int ?_, rfl⟩
    rw [blocksC, if_pos ⟨h1, h2⟩, ← HZ.out]
    first | rfl | simp | omega
  · have hd : decide ((1 : Int) ≤ (c : Int) ∧ (c : Int) ≤ 9) = false := by simp; omega
    rw [hd]
    go_wp2
    go_ret
    refine ⟨ret_int ?_, rfl⟩
    rw [blocksC, if_neg h]
    rfl

theorem findIdx_le (n k : Nat) (hk : k < 10) (h : ∀ j, j < k → ¬ n ≤ szAt j) (h2 : n ≤ szAt k) : classOf n = k := by
  have hlen : szL.length = 10 := rfl
  have e : ∀ j (hj : j < szL.length), szL[j] = szAt j := fun j hj => by simp [szAt, List.getD_eq_getElem?_getD, hj]
  rw [classOf, List.findIdx_eq (by rw [hlen]; exact hk)]
  refine ⟨by rw [e]; simpa using h2, fun j hj => ?_⟩
  have := h j hj
  rw [e]
  simpa using this
theorem findIdx_none (n : Nat) (h : ∀ j, j < 10 → ¬ n ≤ szAt j) : classOf n = 10 := by
  have hlen : szL.length = 10 := rfl
  have e : ∀ j (hj : j < szL.length), szL[j] = szAt j := fun j hj => by simp [szAt, List.getD_eq_getElem?_getD, hj]
  rw [classOf, List.findIdx_eq_length.2]
  · rfl
  · intro x hx
    obtain ⟨j, hj, rfl⟩ := List.getElem_of_mem hx
    rw [e]
    simpa using h j (by rw [← hlen]; exact hj)

theorem run_index_sz (i : Nat) (h : i < 10) (W : World) : (Instr.index 216 (.agg #[.int .i64 0, .int .i64 32, .int .i64 48, .int .i64 64, .int .i64 96, .int .i64 128, .int .i64 192, .int .i64 256, .int .i64 384, .int .i64 512]) (.int .i64 (i : Int))).run Tryz.prog W = .ok (.int .i64 (szAt i : Nat)) W := by
  have hc : i = 0 ∨ i = 1 ∨ i = 2 ∨ i = 3 ∨ i = 4 ∨ i = 5 ∨ i = 6 ∨ i = 7 ∨ i = 8 ∨ i = 9 := by omega
  rcases hc with rfl | rfl | rfl | rfl | rfl | rfl | rfl | rfl | rfl | rfl <;> simp [Instr.index, run_underlying Tryz.underlying216, asIntOf, go_sem, part, szAt, szL]

set_option maxRecDepth 20000 in
set_option maxHeartbeats 4000000 in
theorem of_any (n : Nat) (w : World) (hs : Sz w) (hn : n < 1099511627776) : Calls Tryz.prog 68 #[.int .i64 (n : Int)] w fun e w' => e = .returned (.tuple #[.int .i64 ((ofC n).1 : Nat), .int .i64 (ofC n).2]) ∧ w' = w := by
  have e0 := hs 0 (by omega)
  have e1 := hs 1 (by omega)
  have e2 := hs 2 (by omega)
  have e3 := hs 3 (by omega)
  have e4 := hs 4 (by omega)
  have e5 := hs 5 (by omega)
  have e6 := hs 6 (by omega)
  have e7 := hs 7 (by omega)
  have e8 := hs 8 (by omega)
  have e9 := hs 9 (by omega)
  clear hs
  simp only [szAt, szL, List.getD_cons_zero, List.getD_cons_succ] at e0 e1 e2 e3 e4 e5 e6 e7 e8 e9
  go_enter Tryz.func68, Tryz.ntmps68
  by_cases h1 : n < 1
  · go_wp2
    go_ret2
    rw [ofC, if_pos h1]
    exact ⟨rfl, rfl⟩
  · go_wp2_with fail
    go_loop [4, 5, 9] (fun s4 s5 s9 => ∃ k : Nat, k ≤ 10 ∧ s9 = .int .i64 (k : Int) ∧ Hid (∀ j : Nat, j < k → ¬ n ≤ szAt j)) (fun _ _ s9 => match s9 with | .int _ m => 10 - m.toNat | _ => 0)
    case atStart => exact ⟨0, Nat.zero_le _, rfl, Lib.hid (fun j h => absurd h (by omega))⟩
    case round =>
      obtain ⟨k, hk, rfl, H⟩ := hrel
      by_cases hk10 : k < 10
      · have hix := run_index_sz k hk10
        obtain ⟨z, hz⟩ : ∃ z, z = szAt k := ⟨_, rfl⟩
        rw [← hz] at hix
        have HZ := Lib.hid hz
        clear hz
        by_cases h2 : n ≤ z
        · go_wp2
          go_ret2
          have hx := findIdx_le n k hk10 H.out (by rw [← HZ.out]; exact h2)
          rw [ofC, if_neg h1, if_pos (by rw [hx]; exact hk10), hx]
          exact ⟨rfl, rfl⟩
        · have H2 : Hid (∀ j : Nat, j < k + 1 → ¬ n ≤ szAt j) := Lib.hid fun j hj => by
            rcases Nat.lt_succ_iff_lt_or_eq.1 hj with h3 | rfl
            · exact H.out j h3
            · rw [← HZ.out]; exact h2
          go_wp2_with fail
          go_round
          case rel => exact ⟨k + 1, by omega, by go_num, H2⟩
          case measure => simp; omega
      · have hk2 : k = 10 := by omega
        subst hk2
        have hx := findIdx_none n H.out
        have HX := Lib.hid hx
        clear hx
        go_wp2
        all_goals first | omega | skip
        go_ret2
        rw [ofC, if_neg h1, if_neg (by rw [HX.out]; decide)]
        exact ⟨rfl, rfl⟩

set_option maxHeartbeats 800000 in
theorem entry_any (n : Nat) (w : World) (hs : Sz w) (hn : n < 1099511627776) : Calls Tryz.prog 26 #[.int .i64 (n : Int)] w fun e w' => e = .returned (.tuple #[.int .i64 ((entryC n).1 : Nat), .int .i64 (entryC n).2]) ∧ w' = w := by
  have HS := Lib.hid hs
  clear hs
  go_enter Tryz.func26, Tryz.ntmps26
  by_cases h1 : 480 < n
  · go_wp2
    go_ret2
    rw [entryC, if_pos h1]
    exact ⟨rfl, rfl⟩
  · go_wp2_with fail
    rw [show (32 : Int) + (n : Int) = ((32 + n : Nat) : Int) by omega]
    refine (of_any _ _ HS.out (by omega)).mono ?_
    rintro e w1 ⟨rfl, rfl⟩
    go_wp2
    go_ret2
    rw [entryC, if_neg h1]
    exact ⟨rfl, rfl⟩

set_option maxHeartbeats 800000 in
theorem node_any (n : Nat) (w : World) (hs : Sz w) (hn : n < 1099511627776) : Calls Tryz.prog 65 #[.int .i64 (n : Int)] w fun e w' => e = .returned (.tuple #[.int .i64 ((nodeC n).1 : Nat), .int .i64 (nodeC n).2]) ∧ w' = w := by
  have HS := Lib.hid hs
  clear hs
  go_enter Tryz.func65, Tryz.ntmps65
  by_cases h0 : n < 1
  · go_wp2
    go_ret2
    rw [nodeC, if_pos (.inl h0)]
    exact ⟨rfl, rfl⟩
  · by_cases h1 : 63 < n
    · go_wp2
      go_ret2
      rw [nodeC, if_pos (.inr h1)]
      exact ⟨rfl, rfl⟩
    · go_wp2_with fail
      rw [show (16 : Int) + (n : Int) = ((16 + n : Nat) : Int) by omega]
      refine (of_any _ _ HS.out (by omega)).mono ?_
      rintro e w1 ⟨rfl, rfl⟩
      go_wp2
      go_ret2
      rw [nodeC, if_neg (by omega)]
      exact ⟨rfl, rfl⟩

set_option maxHeartbeats 800000 in
theorem over_any (now fin : Nat) (w : World) : Calls Tryz.prog 116 #[.int .u64 (now : Int), .int .u64 (fin : Int)] w fun e w' => e = .returned (.bool (decide (fin ≠ 0 ∧ fin ≤ now))) ∧ w' = w := by
  go_enter Tryz.func116, Tryz.ntmps116
  by_cases h0 : fin = 0
  · subst h0
    go_wp2
    go_ret
    exact ⟨ret_bool (by simp), rfl⟩
  · have t0 : (((fin : Nat) : Int) == 0) = false := by rw [beq_eq_false_iff_ne]; omega
    by_cases h1 : fin ≤ now
    · go_wp2
      go_ret
      exact ⟨ret_bool (by simp [h0, h1]), rfl⟩
    · go_wp2
      go_ret
      exact ⟨ret_bool (by simp [h0, h1]), rfl⟩

set_option maxHeartbeats 1600000 in
theorem least_any (a b : Nat) (g c : Nat) (w : World) (ha : a < 18446744073709551616) (hb : b < 18446744073709551616) (hc : w.cell? ⟨g, 0, none⟩ = some (.int .u64 (b : Int))) :
    Calls Tryz.prog 130 #[.int .u64 (a : Int), .slice (some ⟨g, 0, none⟩) 1 c] w fun e w' => e = .returned (.int .u64 ((min a b : Nat) : Int)) ∧ w' = w := by
  go_enter Tryz.func130, Tryz.ntmps130
  go_wp2_with fail
  go_loop [0, 6, 9] (fun s0 _ s9 => (s0 = .int .u64 (a : Int) ∧ s9 = .int .i64 0) ∨ (s0 = .int .u64 ((min a b : Nat) : Int) ∧ s9 = .int .i64 1)) (fun _ _ s9 => match s9 with | .int _ m => 1 - m.toNat | _ => 0)
  case atStart => exact .inl ⟨rfl, rfl⟩
  case round =>
    rcases hrel with ⟨rfl, rfl⟩ | ⟨rfl, rfl⟩
    · go_wp2_with fail
      go_round
      case rel => exact .inr ⟨by congr 1; split <;> omega, by go_num⟩
      case measure => simp
    · go_wp2
      go_ret
      exact ⟨rfl, rfl⟩

def sumC (a b most : Nat) : Nat := min a most + min b (most - min a most)
def endC (now life : Nat) : Nat := if life = 0 then 0 else sumC now life 9223372036854775808
set_option maxHeartbeats 1600000 in
theorem sum_any (a b most : Nat) (w : World) (ha : a < 18446744073709551616) (hb : b < 18446744073709551616) (hm : most < 18446744073709551616) :
    Calls Tryz.prog 73 #[.int .u64 (a : Int), .int .u64 (b : Int), .int .u64 (most : Int)] w fun e w' => e = .returned (.int .u64 ((sumC a b most : Nat) : Int)) ∧ Below w.heap.size w w' := by
  go_enter Tryz.func73, Tryz.ntmps73
  go_wp2_with fail
  refine (least_any a most _ _ _ ha hm (by simp)).mono ?_
  rintro e w1 ⟨rfl, rfl⟩
  go_wp2_with fail
  have e2 : ((most : Int) - ((min a most : Nat) : Int)) = ((most - min a most : Nat) : Int) := by omega
  rw [e2]
  refine (least_any b (most - min a most) _ _ _ hb (by omega) (by simp)).mono ?_
  rintro e w2 ⟨rfl, rfl⟩
  go_wp2_with fail
  go_ret
  refine ⟨ret_int ?_, ((Below.refl _ w).alloc (Nat.le_refl _) _).alloc (by simp) _⟩
  rw [sumC]
  rfl

set_option maxHeartbeats 800000 in
theorem end_any (now life : Nat) (w : World) (ha : now < 18446744073709551616) (hb : life < 18446744073709551616) :
    Calls Tryz.prog 30 #[.int .u64 (now : Int), .int .u64 (life : Int)] w fun e w' => e = .returned (.int .u64 ((endC now life : Nat) : Int)) ∧ Below w.heap.size w w' := by
  go_enter Tryz.func30, Tryz.ntmps30
  by_cases h0 : life = 0
  · subst h0
    go_wp2
    go_ret
    exact ⟨rfl, Below.refl _ _⟩
  · have t0 : (((life : Nat) : Int) == 0) = false := by rw [beq_eq_false_iff_ne]; omega
    go_wp2_with fail
    refine (sum_any now life 9223372036854775808 _ ha hb (by decide)).mono ?_
    rintro e w1 ⟨rfl, hw⟩
    go_wp2_with fail
    go_ret
    refine ⟨ret_int ?_, hw⟩
    rw [endC, if_neg h0]
end Go.Proofs.YtimdedkejadnfaaGreatDoor
