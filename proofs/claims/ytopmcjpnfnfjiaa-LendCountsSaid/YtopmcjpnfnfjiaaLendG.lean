/-
  The walk of the closure that do hands to caught: it calls within one deeper. No condition but a size.
-/
import Derived.Test.YtopmcjpnfnfjiaaLendF
namespace Go.Proofs.Ytopmcjpnfnfjiaa
open Go.RowKit Go.Colm Go.Lendp
set_option linter.unusedVariables false

set_option maxHeartbeats 800000 in
theorem do1_any (p3 p7 p5 tb : Nat) (A : Option Addr) (n cp deep : Nat) (o : Option Int) (w : World) (R : World → Prop)
    (h3 : w.cell? ⟨p3, 0, none⟩ = some (.pointer (some ⟨tb, 0, none⟩))) (h7 : w.cell? ⟨p7, 2, none⟩ = some (.slice A n cp)) (h5 : w.cell? ⟨p5, 0, none⟩ = some (.int .i64 (deep : Int))) (hd : deep < 1000)
    (h : Calls Try.prog 27 #[.pointer (some ⟨tb, 0, none⟩), .slice A n cp, .int .i64 ((deep + 1 : Nat) : Int)] w fun e w' => e = endOf o ∧ R w') :
    Calls Try.prog 28 #[.pointer (some ⟨p3, 0, none⟩), .pointer (some ⟨p7, 0, none⟩), .pointer (some ⟨p5, 0, none⟩)] w fun e w' => e = endOf o ∧ R w' := by
  have H := Lib.hid h
  clear h
  go_enter Try.func28, Try.ntmps28
  go_wp2_with fail
  rcases o with _ | c
  · refine H.out.mono ?_
    rintro e w' ⟨rfl, hR⟩
    have HR := Lib.hid hR
    clear hR
    unfold endOf
    go_wp2_with fail
    go_end0
    exact ⟨rfl, HR.out⟩
  · refine H.out.mono ?_
    rintro e w' ⟨rfl, hR⟩
    have HR := Lib.hid hR
    clear hR
    unfold endOf
    go_wp2_with fail
    exact ⟨rfl, rfl, HR.out⟩

end Go.Proofs.Ytopmcjpnfnfjiaa
