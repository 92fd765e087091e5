/-
  The deferred closure of layer lend's caught: at a panic with a failure it takes it up; else it does nothing.
-/
import Derived.Test.YtopmcjpnfnfjiaaLendB
import Derived.Defers
import Derived.Recover
import Derived.Laws.Pointers
namespace Go.Proofs.Ytopmcjpnfnfjiaa
open Go.RowKit Go.Colm
set_option linter.unusedVariables false

def failV (c : Int) : Value := .iface 53 (.agg #[.int .i64 c])

theorem caught_idle (p q : Addr) (w : World) :
    CallsD Try.prog 25 #[.pointer (some p), .pointer (some q)] .returning w fun e u' w' => e = .returned (.tuple #[]) ∧ u' = .returning ∧ w' = w := by
  refine callsD_of_wpS Try.func25 rfl fun c₀ cs hu => ?_
  apply wpS_seq
  apply wpS_region
  simp [wpOpsS, go_sem, recoverD, hu, Try.ntmps25, Exit.thenS]
  refine wpS_of_wp ?_
  go_wp2
  cases c₀
  simp_all [bodyPostS, results, Try.results25]

theorem assert_fail (v : Value) (W : World) : (Instr.typeAssert (.iface 53 v) 20 53 true).run Try.prog W = .ok (.tuple #[v, .bool true]) W := by
  simp only [Instr.typeAssert, Sem.run_bind, run_underlying Try.underlying53, Result.andThen, if_true, Sem.run_pure]

set_option maxHeartbeats 1000000 in
theorem caught_takes (p q : Nat) (x : Value) (y : Bool) (c : Int) (older : List PanicEntry) (w : World) (hp : Whole w p 53 #[.int .i64 0]) (hq : Whole w q 4 #[.bool false]) :
    CallsD Try.prog 25 #[.pointer (some ⟨p, 0, none⟩), .pointer (some ⟨q, 0, none⟩)] (.panicking ({ v := failV c, recovered := false } :: older)) w fun e u' w' =>
      e = .returned (.tuple #[]) ∧ u' = .panicking ({ v := failV c, recovered := true } :: older) ∧ w' = (w.setCell ⟨p, 0, none⟩ (.int .i64 c)).setCell ⟨q, 0, none⟩ (.bool true) := by
  have cp : w.cell? ⟨p, 0, none⟩ = some (.int .i64 0) := hp.cell 0
  have cq : w.cell? ⟨q, 0, none⟩ = some (.bool false) := hq.cell 0
  have fp := hp.frozen 0
  have fq := hq.frozen 0
  have hta := assert_fail
  have hpq : q ≠ p := by
    rintro rfl
    unfold Whole at hp hq
    rw [hp] at hq
    simp at hq
  have hq2 : Whole (w.setCell ⟨p, 0, none⟩ (.int .i64 c)) q 4 #[.bool false] := (Below.heap_setCell w ⟨p, 0, none⟩ _ q hpq).trans hq
  have cq2 := hq2.cell 0
  have fq2 := hq2.frozen 0
  simp only [List.getElem?_toArray, List.getElem?_cons_zero] at cq2
  clear hp hq hq2 hpq cq fq
  refine callsD_of_wpS Try.func25 rfl fun c₀ cs hu => ?_
  unfold failV at hu ⊢
  apply wpS_seq
  apply wpS_region
  simp [wpOpsS, go_sem, recoverD, hu, Try.ntmps25, Exit.thenS]
  refine wpS_of_wp ?_
  have hfr : ∀ A B X : Value, (#[A, B] ++ ((Array.replicate 13 undef).setIfInBounds 2 X).setIfInBounds 0 X) = #[A, B, X, undef, X, undef, undef, undef, undef, undef, undef, undef, undef, undef, undef] := fun _ _ _ => rfl
  rw [hfr]
  clear hfr
  go_wp2_with fail
  cases c₀
  simp_all [bodyPostS, results, Try.results25]

end Go.Proofs.Ytopmcjpnfnfjiaa
