/-
  Steps of a script, in plain Lean (Hd, Opd). No condition.
-/
import Derived.Test.YtifmgmiaeoiidaaGreatDoorScrG
namespace Go.Scrp
/-- What a step is but for its steps. -/
structure Hd where
  kind : Int
  name : List UInt8
  typ : Nat
  recs : List (List UInt8)
  life : Nat
  n : Nat
  how : Int
  code : Int
/-- A step of a script. -/
inductive Opd where
  | mk (h : Hd) (steps : List Opd) : Opd
def Hd.Ok (h : Hd) : Prop := (-9223372036854775808 ≤ h.kind ∧ h.kind ≤ 9223372036854775807) ∧ h.typ < 65536 ∧ h.life < 18446744073709551616 ∧ h.n < 18446744073709551616 ∧ (-9223372036854775808 ≤ h.how ∧ h.how ≤ 9223372036854775807) ∧ (-9223372036854775808 ≤ h.code ∧ h.code ≤ 9223372036854775807)
/-- Has a step no fields but those of its kind? m: how many steps it has. -/
def ownT (h : Hd) (m : Nat) : Bool :=
  (keyT h.kind || (decide (h.name = []) && decide (h.typ = 0))) && (decide (h.kind = 1) || (decide (h.recs.length = 0) && decide (h.life = 0))) && (cntT h.kind || decide (h.n = 0)) && (decide (h.kind = 3) || (decide (m = 0) && decide (h.how = 0) && decide (h.code = 0)))
end Go.Scrp
