/-
  The walk of layer lend's caught, given what Play's closure does: it ends well, or with a failure.
-/
import Derived.Test.YtopmcjpnfnfjiaaLendD
import Derived.RegionTactic
namespace Go.Proofs.Ytopmcjpnfnfjiaa
open Go.RowKit Go.Colm
set_option linter.unusedVariables false

set_option maxHeartbeats 1000000 in
theorem caught_ret2 (x0 x1 : Value) (w : World) (R : World → Prop)
    (h : Calls Try.prog 23 #[x0, x1] (caughtW w) fun e w' => e = .returned (.tuple #[]) ∧ R w' ∧ Whole w' w.heap.size 53 #[.int .i64 0] ∧ Whole w' (w.heap.size + 1) 4 #[.bool false]) :
    Calls Try.prog 22 #[.func (.func 23) #[] #[x0, x1]] w fun e w' => e = .returned (.tuple #[.agg #[.int .i64 0], .bool false]) ∧ ∃ w2, R w2 ∧ Kept (fun k => k = w.heap.size ∨ k = w.heap.size + 1) w2 w' := by
  have H := Lib.hid h
  clear h
  have hmf : ∀ (fn : Fn) (first cap : Array Value) (w : World), (Instr.makeFunc fn first cap).run Try.prog w = .ok (.func fn first cap) w := fun _ _ _ _ => rfl
  go_enter_defers Try.func22, Try.ntmps22
  go_wp2_with fail
  refine H.out.mono ?_
  rintro e w2 ⟨rfl, hR, hf, hg⟩
  have cf : w2.cell? ⟨w.heap.size, 0, none⟩ = some (.int .i64 0) := hf.cell 0
  have cg : w2.cell? ⟨w.heap.size + 1, 0, none⟩ = some (.bool false) := hg.cell 0
  have ff := hf.frozen 0
  have fg := hg.frozen 0
  have HF := Lib.hid hf
  have HG := Lib.hid hg
  have HR := Lib.hid hR
  clear hf hg hR H
  go_wp2_with fail
  go_region
  go_wp2_with fail
  refine leaves_cons (f := 25) (args := #[.pointer (some ⟨w.heap.size, 0, none⟩), .pointer (some ⟨w.heap.size + 1, 0, none⟩)]) (by simp) (by simp [go_sem]) ?_
  refine (caught_idle _ _ _).mono ?_
  rintro e u' w'' ⟨rfl, rfl, rfl⟩
  have hk : Kept (fun k => k = w.heap.size ∨ k = w.heap.size + 1) w2 ((w2.setCell ⟨w.heap.size, 0, none⟩ (.int .i64 0)).setCell ⟨w.heap.size + 1, 0, none⟩ (.bool false)).drew :=
    (((Kept.refl (fun k => k = w.heap.size ∨ k = w.heap.size + 1) w2).setCell (p := ⟨w.heap.size, 0, none⟩) (.inl (.inl rfl)) _).setCell (p := ⟨w.heap.size + 1, 0, none⟩) (.inl (.inr rfl)) _).drew
  have hx : ((w2.setCell ⟨w.heap.size, 0, none⟩ (.int .i64 0)).setCell ⟨w.heap.size + 1, 0, none⟩ (.bool false)).drew.cell? ⟨w.heap.size, 0, none⟩ = some (.int .i64 0) := by
    have h1 := (HF.out.put 0 (.int .i64 0))
    have h2 := (Below.heap_setCell (w2.setCell ⟨w.heap.size, 0, none⟩ (.int .i64 0)) ⟨w.heap.size + 1, 0, none⟩ (.bool false) w.heap.size (by simp)).trans h1
    exact Whole.cell (w := (w2.setCell ⟨w.heap.size, 0, none⟩ (.int .i64 0)).setCell ⟨w.heap.size + 1, 0, none⟩ (.bool false)) h2 0
  have hy : ((w2.setCell ⟨w.heap.size, 0, none⟩ (.int .i64 0)).setCell ⟨w.heap.size + 1, 0, none⟩ (.bool false)).drew.cell? ⟨w.heap.size + 1, 0, none⟩ = some (.bool false) := by
    have h1 : Whole (w2.setCell ⟨w.heap.size, 0, none⟩ (.int .i64 0)) (w.heap.size + 1) 4 #[.bool false] := (Below.heap_setCell w2 ⟨w.heap.size, 0, none⟩ (.int .i64 0) (w.heap.size + 1) (by simp)).trans HG.out
    exact Whole.cell (h1.put 0 (.bool false)) 0
  generalize ((w2.setCell ⟨w.heap.size, 0, none⟩ (.int .i64 0)).setCell ⟨w.heap.size + 1, 0, none⟩ (.bool false)).drew = w3 at *
  simp [Leaves, settle, results, Try.results22, go_sem, hx, hy]
  exact ⟨w2, HR.out, hk⟩

set_option maxHeartbeats 1000000 in
theorem caught_pan2 (x0 x1 : Value) (c : Int) (w : World) (R : World → Prop)
    (h : Calls Try.prog 23 #[x0, x1] (caughtW w) fun e w' => e = .panicked [{ v := failV c, recovered := false }] ∧ R w' ∧ Whole w' w.heap.size 53 #[.int .i64 0] ∧ Whole w' (w.heap.size + 1) 4 #[.bool false]) :
    Calls Try.prog 22 #[.func (.func 23) #[] #[x0, x1]] w fun e w' => e = .returned (.tuple #[.agg #[.int .i64 c], .bool true]) ∧ ∃ w2, R w2 ∧ Kept (fun k => k = w.heap.size ∨ k = w.heap.size + 1) w2 w' := by
  have H := Lib.hid h
  clear h
  have hmf : ∀ (fn : Fn) (first cap : Array Value) (w : World), (Instr.makeFunc fn first cap).run Try.prog w = .ok (.func fn first cap) w := fun _ _ _ _ => rfl
  go_enter_defers Try.func22, Try.ntmps22
  go_wp2_with fail
  refine H.out.mono ?_
  rintro e w2 ⟨rfl, hR, hf, hg⟩
  have HF := Lib.hid hf
  have HG := Lib.hid hg
  have HR := Lib.hid hR
  clear hf hg hR H
  go_wp2_with fail
  refine leaves_cons (f := 25) (args := #[.pointer (some ⟨w.heap.size, 0, none⟩), .pointer (some ⟨w.heap.size + 1, 0, none⟩)]) (by simp) (by simp [go_sem]) ?_
  refine (caught_takes w.heap.size (w.heap.size + 1) .nilIface false c [] _ HF.out HG.out).mono ?_
  rintro e u' w'' ⟨rfl, rfl, rfl⟩
  have hk : Kept (fun k => k = w.heap.size ∨ k = w.heap.size + 1) w2 ((w2.setCell ⟨w.heap.size, 0, none⟩ (.int .i64 c)).setCell ⟨w.heap.size + 1, 0, none⟩ (.bool true)) :=
    ((Kept.refl (fun k => k = w.heap.size ∨ k = w.heap.size + 1) w2).setCell (p := ⟨w.heap.size, 0, none⟩) (.inl (.inl rfl)) _).setCell (p := ⟨w.heap.size + 1, 0, none⟩) (.inl (.inr rfl)) _
  have hx : ((w2.setCell ⟨w.heap.size, 0, none⟩ (.int .i64 c)).setCell ⟨w.heap.size + 1, 0, none⟩ (.bool true)).cell? ⟨w.heap.size, 0, none⟩ = some (.int .i64 c) := by
    have h1 := (HF.out.put 0 (.int .i64 c))
    have h2 := (Below.heap_setCell (w2.setCell ⟨w.heap.size, 0, none⟩ (.int .i64 c)) ⟨w.heap.size + 1, 0, none⟩ (.bool true) w.heap.size (by simp)).trans h1
    exact Whole.cell h2 0
  have hy : ((w2.setCell ⟨w.heap.size, 0, none⟩ (.int .i64 c)).setCell ⟨w.heap.size + 1, 0, none⟩ (.bool true)).cell? ⟨w.heap.size + 1, 0, none⟩ = some (.bool true) := by
    have h1 : Whole (w2.setCell ⟨w.heap.size, 0, none⟩ (.int .i64 c)) (w.heap.size + 1) 4 #[.bool false] := (Below.heap_setCell w2 ⟨w.heap.size, 0, none⟩ (.int .i64 c) (w.heap.size + 1) (by simp)).trans HG.out
    exact Whole.cell (h1.put 0 (.bool true)) 0
  generalize (w2.setCell ⟨w.heap.size, 0, none⟩ (.int .i64 c)).setCell ⟨w.heap.size + 1, 0, none⟩ (.bool true) = w3 at *
  simp [Leaves, settle, results, Try.results22, go_sem, hx, hy]
  exact ⟨w2, HR.out, hk⟩

end Go.Proofs.Ytopmcjpnfnfjiaa
