/-
  The walks of layer lend's book: New, Open, Close, Depth, Busy, Most, of a book and of none. No condition but that the counts are below 2^62.
-/
import Derived.Test.YtopmcjpnfnfjiaaProg
import Derived.Test.YtopmcjpnfnfjiaaKept
import Derived.WalkKit
import Derived.WalkSpells
import Derived.WalkLawsBesides
import Derived.BigQuiet
import Derived.Deep.QuietTactic
import Derived.RegionTactic
import Derived.ChangeAlike
namespace Go.Proofs.Ytopmcjpnfnfjiaa
open Go.RowKit Go.Colm
set_option linter.unusedVariables false

/-- The book's pointer: none, or to block b. -/
def bptr (bp : Option Nat) : Value := .pointer (bp.map fun b => ⟨b, 0, none⟩)
/-- The book: d is lent, m was at most. -/
def Book (bp : Option Nat) (w : World) (d m : Nat) : Prop := ∀ b, bp = some b → Whole w b 48 #[.int .i64 (d : Int), .int .i64 (m : Int)]
def lendS (bp : Option Nat) : Nat → Prop := fun k => bp = some k
theorem Book.none_ (w : World) (d m : Nat) : Book none w d m := fun b h => by cases h
theorem Book.of {w : World} {b d m : Nat} (h : Whole w b 48 #[.int .i64 (d : Int), .int .i64 (m : Int)]) : Book (some b) w d m := fun b' e => by cases e; exact h

set_option maxHeartbeats 400000 in
theorem new_any (w : World) : Calls Try.prog 10 #[] w fun e w' => ∃ b, e = .returned (bptr (some b)) ∧ b = w.heap.size ∧ Below w.heap.size w w' ∧ Book (some b) w' 0 0 := by
  go_enter Try.func10, Try.ntmps10
  go_wp2
  go_ret
  refine ⟨w.heap.size, rfl, rfl, (Below.refl _ _).alloc (Nat.le_refl _) _, ?_⟩
  exact Book.of (Whole.new w _ _)

set_option maxHeartbeats 400000 in
theorem depth_nil (w : World) : Calls Try.prog 16 #[.pointer none] w fun e w' => e = .returned (.int .i64 0) ∧ w' = w := by
  go_enter Try.func16, Try.ntmps16
  go_wp2
  go_ret
  exact ⟨rfl, rfl⟩

set_option maxHeartbeats 400000 in
theorem depth_some (b d m : Nat) (w : World) (h : Whole w b 48 #[.int .i64 (d : Int), .int .i64 (m : Int)]) : Calls Try.prog 16 #[.pointer (some ⟨b, 0, none⟩)] w fun e w' => e = .returned (.int .i64 (d : Int)) ∧ w' = w := by
  have c0 : w.cell? ⟨b, 0, none⟩ = some (.int .i64 (d : Int)) := h.cell 0
  have H := Lib.hid h
  clear h
  go_enter Try.func16, Try.ntmps16
  go_wp2
  go_ret
  exact ⟨rfl, rfl⟩

set_option maxHeartbeats 400000 in
theorem open_nil (w : World) : Calls Try.prog 19 #[.pointer none] w fun e w' => e = .returned (.tuple #[]) ∧ w' = w := by
  go_enter Try.func19, Try.ntmps19
  go_wp2
  refine bodyPost_ret (results_none rfl _ _ _) rfl ?_
  exact ⟨rfl, rfl⟩

theorem whole2 {w : World} {b : Nat} {T : TypeId} {x0 x1 : Value} (h : Whole w b T #[x0, x1]) (y0 y1 : Value) : Whole ((w.setCell ⟨b, 0, none⟩ y0).setCell ⟨b, 1, none⟩ y1).drew b T #[y0, y1] := (h.put 0 y0).put 1 y1
theorem whole1 {w : World} {b : Nat} {T : TypeId} {x0 x1 : Value} (h : Whole w b T #[x0, x1]) (y0 : Value) : Whole (w.setCell ⟨b, 0, none⟩ y0) b T #[y0, x1] := h.put 0 y0
theorem kept1 (w : World) (b : Nat) (i : Nat) (y0 : Value) : Kept (lendS (some b)) w (w.setCell ⟨b, i, none⟩ y0) := (Kept.refl (lendS (some b)) w).setCell (p := ⟨b, i, none⟩) (Or.inl rfl) y0
theorem kept2 (w : World) (b : Nat) (i j : Nat) (y0 y1 : Value) : Kept (lendS (some b)) w ((w.setCell ⟨b, i, none⟩ y0).setCell ⟨b, j, none⟩ y1).drew := ((kept1 w b i y0).setCell (p := ⟨b, j, none⟩) (Or.inl rfl) y1).drew
theorem int_eq {k : IntKind} {a b : Int} (h : a = b) : Value.int k a = Value.int k b := by rw [h]

set_option maxHeartbeats 800000 in
theorem open_some (b d m : Nat) (w : World) (h : Whole w b 48 #[.int .i64 (d : Int), .int .i64 (m : Int)]) (hd : d < 4611686018427387904) :
    Calls Try.prog 19 #[.pointer (some ⟨b, 0, none⟩)] w fun e w' => e = .returned (.tuple #[]) ∧ Kept (lendS (some b)) w w' ∧ Whole w' b 48 #[.int .i64 ((d + 1 : Nat) : Int), .int .i64 ((max m (d + 1) : Nat) : Int)] := by
  have c0 : w.cell? ⟨b, 0, none⟩ = some (.int .i64 (d : Int)) := h.cell 0
  have c1 : w.cell? ⟨b, 1, none⟩ = some (.int .i64 (m : Int)) := h.cell 1
  have f0 := h.frozen 0
  have f1 := h.frozen 1
  have H := Lib.hid h
  clear h
  go_enter Try.func19, Try.ntmps19
  go_wp2
  go_region
  go_wp2
  · go_end0
    refine ⟨rfl, kept2 _ _ _ _ _ _, ?_⟩
    rw [show ((max m (d + 1) : Nat) : Int) = (d : Int) + 1 by omega]
    exact whole2 H.out _ _
  · go_end0
    refine ⟨rfl, kept2 _ _ _ _ _ _, ?_⟩
    rw [show ((max m (d + 1) : Nat) : Int) = (m : Int) by omega]
    exact whole2 H.out _ _

set_option maxHeartbeats 400000 in
theorem close_nil (w : World) : Calls Try.prog 20 #[.pointer none] w fun e w' => e = .returned (.int .i64 1) ∧ w' = w := by
  go_enter Try.func20, Try.ntmps20
  go_wp2
  go_ret
  exact ⟨rfl, rfl⟩

set_option maxHeartbeats 800000 in
theorem close_zero (b m : Nat) (w : World) (h : Whole w b 48 #[.int .i64 0, .int .i64 (m : Int)]) :
    Calls Try.prog 20 #[.pointer (some ⟨b, 0, none⟩)] w fun e w' => e = .returned (.int .i64 8) ∧ w' = w := by
  have c0 : w.cell? ⟨b, 0, none⟩ = some (.int .i64 0) := h.cell 0
  have H := Lib.hid h
  clear h
  go_enter Try.func20, Try.ntmps20
  go_wp2
  go_ret
  exact ⟨rfl, rfl⟩

set_option maxHeartbeats 800000 in
theorem close_some (b d m : Nat) (w : World) (h : Whole w b 48 #[.int .i64 ((d + 1 : Nat) : Int), .int .i64 (m : Int)]) (hd : d < 4611686018427387904) :
    Calls Try.prog 20 #[.pointer (some ⟨b, 0, none⟩)] w fun e w' => e = .returned (.int .i64 0) ∧ Kept (lendS (some b)) w w' ∧ Whole w' b 48 #[.int .i64 (d : Int), .int .i64 (m : Int)] := by
  have c0 : w.cell? ⟨b, 0, none⟩ = some (.int .i64 ((d + 1 : Nat) : Int)) := h.cell 0
  have f0 := h.frozen 0
  have t0 : (((d + 1 : Nat) : Int) == 0) = false := by rw [beq_eq_false_iff_ne]; omega
  have H := Lib.hid h
  clear h
  go_enter Try.func20, Try.ntmps20
  go_wp2
  go_ret
  refine ⟨rfl, kept1 _ _ _ _, ?_⟩
  exact whole1 H.out (.int .i64 (d : Int))

end Go.Proofs.Ytopmcjpnfnfjiaa
