/-
  The walk of the law LendCounts: it answers true. No condition.
-/
import Derived.Test.YtopmcjpnfnfjiaaLendW
namespace Go.Proofs.Ytopmcjpnfnfjiaa
open Go.RowKit Go.Colm Go.Lendp
set_option linter.unusedVariables false

theorem boolsV_at {w : World} {A : Option Addr} {l : List Bool} (h : RowV w A (boolsV l)) {k : Nat} (hk : k < l.length) : ∃ b off, A = some ⟨b, off, none⟩ ∧ w.cell? ⟨b, off + k, none⟩ = some (.bool l[k]) :=
  h k _ (by simp [boolsV, hk])
/-- What the loop of LendCounts holds. -/
def CountsAt (w : World) (b D M : Nat) (wr : World) : Prop := Book (some b) wr D M ∧ Below w.heap.size w wr
theorem CountsAt.kept {w wr w2 : World} {b D M D' M' : Nat} (h : CountsAt w b D M wr) (hb : w.heap.size ≤ b) (k : Kept (lendS (some b)) wr w2) (hw : Whole w2 b 48 #[.int .i64 (D' : Int), .int .i64 (M' : Int)]) : CountsAt w b D' M' w2 :=
  ⟨Book.of hw, h.2.trans (k.to_below h.2.size fun j hj e => by
    have h' : b = j := by simpa [lendS] using e
    omega)⟩
theorem looks_depth {w wr : World} {b D M : Nat} (h : CountsAt w b D M wr) {x : Int} (hx : x = D) : Calls Try.prog 16 #[bptr (some b)] wr fun e w' => e = .returned (.int .i64 x) ∧ w' = wr := hx ▸ depth_some b D M wr (h.1 b rfl)
theorem looks_most {w wr : World} {b D M : Nat} (h : CountsAt w b D M wr) {x : Int} (hx : x = M) : Calls Try.prog 15 #[bptr (some b)] wr fun e w' => e = .returned (.int .i64 x) ∧ w' = wr := hx ▸ most_some b D M wr (h.1 b rfl)
theorem looks_busy {w wr : World} {b D M : Nat} (h : CountsAt w b D M wr) {q : Bool} (hq : decide (0 < D) = q) : Calls Try.prog 18 #[bptr (some b)] wr fun e w' => e = .returned (.bool q) ∧ w' = wr := hq ▸ busy_some b D M wr (h.1 b rfl)

set_option maxRecDepth 100000 in
set_option maxHeartbeats 4000000 in
theorem lendCounts_walk (A : Option Addr) (l : List Bool) (cp : Nat) (hlc : l.length ≤ cp) (hcm : cp ≤ maxLen) (w : World) (hs : RowV w A (boolsV l)) :
    Calls Try.prog 7 #[.slice A l.length cp] w fun e w' => e = .returned (.bool true) ∧ Below w.heap.size w w' := by
  have HS := Lib.hid hs
  clear hs hlc hcm
  by_cases h3 : (300 : Int) < l.length
  · go_enter Try.func7, Try.ntmps7
    go_wp2_with fail
    refine (lends_any _).mono ?_
    rintro e w2 ⟨rfl, hb2⟩
    go_wp2_with fail
    go_ret
    exact ⟨rfl, hb2⟩
  · go_enter Try.func7, Try.ntmps7
    go_wp2_with fail
    refine (new_any _).mono ?_
    rintro e w2 ⟨b, rfl, hb, hb2, hbk2⟩
    have hbb : w.heap.size ≤ b := by omega
    have HC := Lib.hid (show CountsAt w b 0 0 w2 from ⟨hbk2, hb2⟩)
    clear hb hb2 hbk2
    go_wp2_with fail
    go_loopw [4, 5, 6] (fun d m i wr => ∃ k D M : Nat, k ≤ l.length ∧ i = .int .i64 k ∧ d = .int .i64 D ∧ m = .int .i64 M ∧ D ≤ k ∧ M ≤ k ∧ Hid (CountsAt w b D M wr)) (fun _ _ i _ => l.length - (intOf i).toNat)
    case atStart => exact ⟨0, 0, 0, Nat.zero_le _, rfl, rfl, rfl, Nat.le_refl _, Nat.le_refl _, HC⟩
    case round =>
      obtain ⟨k, D, M, hk, rfl, rfl, rfl, hD, hM, hct⟩ := hrel
      by_cases hlt : k < l.length
      · obtain ⟨bl, off, rfl, hcell⟩ := boolsV_at (HS.out.below hct.out.2) hlt
        rcases hlk : l[k] with _ | _
        · rw [hlk] at hcell
          rcases D with _ | D
          · go_wp2_with fail
            refine (close_zero b M _ (hct.out.1 b rfl)).mono ?_
            rintro e w3 ⟨rfl, rfl⟩
            have HC3 := hct
            clear hct
            go_wp2_with fail
            refine (looks_depth HC3.out (x := 0) (by omega)).mono ?_
            rintro e w4 ⟨rfl, rfl⟩
            go_wp2_with fail
            refine (looks_busy HC3.out (q := false) (by simp)).mono ?_
            rintro e w5 ⟨rfl, rfl⟩
            go_wp2_with fail
            refine (looks_most HC3.out (x := (M : Int)) rfl).mono ?_
            rintro e w6 ⟨rfl, rfl⟩
            go_wp2_with fail
            go_roundw
            case rel => exact ⟨k + 1, 0, M, by omega, by go_num, int_eq (by omega), int_eq (by omega), by omega, by omega, HC3⟩
            case measure => simp [intOf]; omega
          · go_wp2_with fail
            refine (close_some b D M _ (hct.out.1 b rfl) (by omega)).mono ?_
            rintro e w3 ⟨rfl, hk3, hb3⟩
            have HC3 := Lib.hid (hct.out.kept hbb hk3 hb3)
            clear hk3 hb3 hct
            by_cases hz : D = 0
            · subst hz
              go_wp2_with fail
              refine (looks_depth HC3.out (x := 0) (by omega)).mono ?_
              rintro e w4 ⟨rfl, rfl⟩
              go_wp2_with fail
              refine (looks_busy HC3.out (q := false) (by simp)).mono ?_
              rintro e w5 ⟨rfl, rfl⟩
              go_wp2_with fail
              refine (looks_most HC3.out (x := (M : Int)) rfl).mono ?_
              rintro e w6 ⟨rfl, rfl⟩
              go_wp2_with fail
              go_roundw
              case rel => exact ⟨k + 1, 0, M, by omega, by go_num, int_eq (by omega), int_eq (by omega), by omega, by omega, HC3⟩
              case measure => simp [intOf]; omega
            · go_wp2_with fail
              refine (looks_depth HC3.out (x := (D : Int)) (by omega)).mono ?_
              rintro e w4 ⟨rfl, rfl⟩
              go_wp2_with fail
              refine (looks_busy HC3.out (q := true) (by rw [decide_eq_true_eq]; omega)).mono ?_
              rintro e w5 ⟨rfl, rfl⟩
              go_wp2_with fail
              refine (looks_most HC3.out (x := (M : Int)) rfl).mono ?_
              rintro e w6 ⟨rfl, rfl⟩
              go_wp2_with fail
              go_roundw
              case rel => exact ⟨k + 1, D, M, by omega, by go_num, rfl, rfl, by omega, by omega, HC3⟩
              case measure => simp [intOf]; omega
        · rw [hlk] at hcell
          go_wp2_with fail
          refine (open_some b D M _ (hct.out.1 b rfl) (by omega)).mono ?_
          rintro e w3 ⟨rfl, hk3, hb3⟩
          have HC3 := Lib.hid (hct.out.kept hbb hk3 hb3)
          clear hk3 hb3 hct
          go_wp2_with fail
          all_goals
            refine (looks_depth HC3.out (x := (D : Int) + 1) (by omega)).mono ?_
            rintro e w4 ⟨rfl, rfl⟩
            go_wp2_with fail
            refine (looks_busy HC3.out (q := true) (by simp)).mono ?_
            rintro e w5 ⟨rfl, rfl⟩
            go_wp2_with fail
            first | refine (looks_most HC3.out (x := (M : Int)) (by omega)).mono ?_ | refine (looks_most HC3.out (x := (D : Int) + 1) (by omega)).mono ?_
            rintro e w6 ⟨rfl, rfl⟩
            go_wp2_with fail
            go_roundw
            case rel => exact ⟨k + 1, D + 1, max M (D + 1), by omega, by go_num, int_eq (by omega), int_eq (by omega), by omega, by omega, HC3⟩
            case measure => simp [intOf]; omega
      · go_wp2_with fail
        refine (open_nil _).mono ?_
        rintro e w3 ⟨rfl, rfl⟩
        go_wp2_with fail
        refine (close_nil _).mono ?_
        rintro e w4 ⟨rfl, rfl⟩
        go_wp2_with fail
        refine (depth_nil _).mono ?_
        rintro e w5 ⟨rfl, rfl⟩
        go_wp2_with fail
        refine (lends_any _).mono ?_
        rintro e w6 ⟨rfl, hb6⟩
        go_wp2_with fail
        go_ret
        exact ⟨rfl, below_chain hct.out.2 hb6⟩

end Go.Proofs.Ytopmcjpnfnfjiaa
