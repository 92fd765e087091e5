/-
  The walk of layer script's own. No condition.
-/
import Derived.Test.YtifmgmiaeoiidaaGreatDoorScrO0
namespace Go.Proofs.YtifmgmiaeoiidaaGreatDoor
open Go.RowKit Go.Colm Go.Scrp
set_option linter.unusedVariables false

/-- A step as a value: the rows of its records and of its steps. -/
abbrev opV (h : Hd) (R S : Value) : Value := .agg #[.int .i64 h.kind, .string ⟨h.name.toArray⟩, .int .u16 (h.typ : Int), R, .int .u64 (h.life : Int), .int .u64 (h.n : Int), S, .int .i64 h.how, .int .i64 h.code]

set_option maxRecDepth 100000 in
set_option maxHeartbeats 4000000 in
theorem own_any (h : Hd) (m : Nat) (RA SA : Option Addr) (rc sc : Nat) (w : World) :
    Calls Tryz.prog 43 #[opV h (.slice RA h.recs.length rc) (.slice SA m sc)] w fun e w' => e = .returned (.bool (ownT h m)) ∧ Below w.heap.size w w' := by
  obtain ⟨k, nm, t, rs, lf, n, hw, cd⟩ := h
  dsimp only
  obtain ⟨kt, hkt⟩ : ∃ b, b = keyT k := ⟨_, rfl⟩
  obtain ⟨ct, hct⟩ : ∃ b, b = cntT k := ⟨_, rfl⟩
  have HK := Lib.hid fun W => keyed_any k W
  have HC := Lib.hid fun W => counted_any k W
  obtain ⟨z, hz⟩ : ∃ b, b = ownT ⟨k, nm, t, rs, lf, n, hw, cd⟩ m := ⟨_, rfl⟩
  rw [← hz]
  rw [← hkt] at HK
  rw [← hct] at HC
  have HKT := Lib.hid hkt
  have HCT := Lib.hid hct
  have HZ := Lib.hid hz
  clear hkt hct hz
  have n1 : ∀ x : Nat, x = 0 ∨ (((x : Int) != 0) = true ∧ x ≠ 0) := fun x => by
    rcases Nat.eq_zero_or_pos x with h | h
    · exact .inl h
    · refine .inr ⟨?_, by omega⟩
      rw [bne_iff_ne]
      omega
  have n2 : ∀ x : Int, x = 0 ∨ ((x == 0) = false ∧ x ≠ 0) := fun x => by
    by_cases h : x = 0
    · exact .inl h
    · exact .inr ⟨by rwa [beq_eq_false_iff_ne], h⟩
  have n3 : ∀ x : Nat, x = 0 ∨ (((x : Int) == 0) = false ∧ x ≠ 0) := fun x => by
    rcases Nat.eq_zero_or_pos x with h | h
    · exact .inl h
    · refine .inr ⟨?_, by omega⟩
      rw [beq_eq_false_iff_ne]
      omega
  have c1 : kt = true ∨ (kt = false ∧ nm = [] ∧ t = 0) ∨ (kt = false ∧ ¬ (nm = [] ∧ t = 0)) := by
    cases kt
    · by_cases h : nm = [] ∧ t = 0
      · exact .inr (.inl ⟨rfl, h⟩)
      · exact .inr (.inr ⟨rfl, h⟩)
    · exact .inl rfl
  have c2 : k = 1 ∨ ((k != 1) = true ∧ (k == 1) = false ∧ k ≠ 1 ∧ rs = [] ∧ (lf = 0 ∨ (((lf : Int) != 0) = true ∧ lf ≠ 0))) ∨ ((k != 1) = true ∧ (k == 1) = false ∧ k ≠ 1 ∧ 0 < rs.length ∧ rs ≠ []) := by
    by_cases h : k = 1
    · exact .inl h
    · have h1 : (k != 1) = true := by rwa [bne_iff_ne]
      have h2 : (k == 1) = false := by rwa [beq_eq_false_iff_ne]
      rcases rs with _ | ⟨r0, rs⟩
      · exact .inr (.inl ⟨h1, h2, h, rfl, n1 lf⟩)
      · exact .inr (.inr ⟨h1, h2, h, by simp, by simp⟩)
  have c3 : ct = true ∨ (ct = false ∧ (n = 0 ∨ (((n : Int) != 0) = true ∧ n ≠ 0))) := by
    cases ct
    · exact .inr ⟨rfl, n1 n⟩
    · exact .inl rfl
  have c4 : k = 3 ∨ ((k == 3) = false ∧ k ≠ 3 ∧ ((((m : Int) == 0) = false ∧ m ≠ 0) ∨ (m = 0 ∧ (((hw == 0) = false ∧ hw ≠ 0) ∨ (hw = 0 ∧ (((cd == 0) = false ∧ cd ≠ 0) ∨ cd = 0)))))) := by
    by_cases h : k = 3
    · exact .inl h
    · have h2 : (k == 3) = false := by rwa [beq_eq_false_iff_ne]
      refine .inr ⟨h2, h, ?_⟩
      rcases n3 m with e | e
      · rcases n2 hw with e2 | e2
        · rcases n2 cd with e3 | e3
          · exact .inr ⟨e, .inr ⟨e2, .inr e3⟩⟩
          · exact .inr ⟨e, .inr ⟨e2, .inl e3⟩⟩
        · exact .inr ⟨e, .inl e2⟩
      · exact .inl e
  clear n1 n2 n3
  rcases c1 with rfl | ⟨rfl, rfl, rfl⟩ | ⟨rfl, hnt⟩
  rotate_left 2
  · go_enter Tryz.func43, Tryz.ntmps43
    go_wp2_with fail
    refine (HK.out _).mono ?_
    rintro e w1 ⟨rfl, rfl⟩
    clear c2 c3 c4
    have hnt' := Lib.hid hnt
    clear hnt
    go_wp2_with fail
    all_goals first
      | exact absurd ⟨by assumption, by assumption⟩ hnt'.out
      | (go_ret
         refine ⟨ret_bool ?_, (Below.refl _ w).alloc (Nat.le_refl _) _⟩
         rw [HZ.out]
         unfold ownT
         simp only [← HKT.out, Bool.false_or]
         have hh : (decide (nm = []) && decide (t = 0)) = false := by
           rw [Bool.and_eq_false_iff]
           by_cases e : nm = []
           · exact .inr (decide_eq_false fun e2 => hnt'.out ⟨e, e2⟩)
           · exact .inl (decide_eq_false e)
         rw [hh]
         rfl)
  all_goals
    rcases c2 with rfl | ⟨k1, k2, k3, rfl, rfl | ⟨l1, l2⟩⟩ | ⟨k1, k2, k3, r1, r2⟩
    all_goals
      rcases c3 with rfl | ⟨rfl, rfl | ⟨l3, l4⟩⟩
      all_goals
        rcases c4 with e3 | ⟨k4, k5, ⟨l5, l6⟩ | ⟨rfl, ⟨l5, l6⟩ | ⟨rfl, ⟨l5, l6⟩ | rfl⟩⟩⟩
        all_goals
          first
          | (exact absurd e3 (by decide))
          | (subst e3
             go_enter Tryz.func43, Tryz.ntmps43
             go_wp2_with fail
             refine (HK.out _).mono ?_
             rintro e w1 ⟨rfl, rfl⟩
             go_wp2_with fail
             try (refine (HC.out _).mono ?_)
             try (rintro e w2 ⟨rfl, rfl⟩)
             try go_wp2_with fail
             go_ret
             refine ⟨ret_bool ?_, (Below.refl _ w).alloc (Nat.le_refl _) _⟩
             rw [HZ.out]
             unfold ownT
             simp [← HKT.out, ← HCT.out, *])
          | (go_enter Tryz.func43, Tryz.ntmps43
             go_wp2_with fail
             refine (HK.out _).mono ?_
             rintro e w1 ⟨rfl, rfl⟩
             go_wp2_with fail
             try (refine (HC.out _).mono ?_)
             try (rintro e w2 ⟨rfl, rfl⟩)
             try go_wp2_with fail
             go_ret
             refine ⟨ret_bool ?_, (Below.refl _ w).alloc (Nat.le_refl _) _⟩
             rw [HZ.out]
             unfold ownT
             simp [← HKT.out, ← HCT.out, *])
end Go.Proofs.YtifmgmiaeoiidaaGreatDoor
