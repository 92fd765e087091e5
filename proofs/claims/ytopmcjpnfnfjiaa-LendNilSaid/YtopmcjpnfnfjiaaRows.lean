/-
  NARROWER THAN 'FOR EVERY INPUT', by the rows' own cells (each row's printed sentence says how): LendPlays: loops · LendBack: loops · LendKept: loops · LendNil: loops.
  DERIVED. THE GIVEN ROWS OF THIS SEAT. 5 by the template 'for every input the law returns true; each argument reads behind the call as it read before'; 0 by the template 'total and deterministic' (their statements: YtopmcjpnfnfjiaaTotals.lean).
  GIVEN WITH THE SEED: the statements are not yours to turn. If you find one false, say at which input.
  Laid BY PROGRAM, IN A SANDBOX (cutbox-rows.mjs): the forced cells as the released guide's own fill.sh prints them over the translation 660d641dfcb413f3… (all of the seat's roots in one cut). By AI agents, Wed Nov 11 2026. No macro, syntax, notation, axiom, sorry.
-/
import Derived.Test.YtopmcjpnfnfjiaaChecked
import GoSem.Claim
import GoSem.ClaimJoined
import GoSem.ClaimMapViews
import Derived.JoinedTies
import Derived.KernelRfl
namespace Go.Proofs.Ytopmcjpnfnfjiaa
/- THE CELL 'sum', in the pinned program and in every row, IS THE sha256 OF THE DUMP (.gsa) THAT YtopmcjpnfnfjiaaProg.lean LOADS. Nothing in Lean hashes anything: it is a label: what it is worth is what the hold of that sum in a sandbox is worth. -/
noncomputable def Try.pinned : Pinned := { name := "ytopmcjpnfnfjiaa", sum := "660d641dfcb413f30360ae4e7613ba6ef4fbfc0b15e45f49e74d4122b7899309", checked := Try.checked }
namespace Rows
def none {H : Type} : Left H := { results := [], args := [] }

/-- 'columbariumlaw28.LendPlays': WHATEVER THE INPUT: true; the input reads as it did. -/
def lendPlaysSpec : ChangeSpec := { name := "lendPlays", fn := fun _ => fun
  | [d] => { results := [.lit (.bool true)], args := [d] }
  | _ => none }
def lendPlaysRow : OpenClaim := { program := "ytopmcjpnfnfjiaa", sum := "660d641dfcb413f30360ae4e7613ba6ef4fbfc0b15e45f49e74d4122b7899309", func := "columbarium/columbariumlaw28.LendPlays", spec := "lendPlays", unfollowed := true, recurses := true, loops := true, apart := false }
def LendPlaysSaid : Prop := lendPlaysRow.holds Try.pinned (OpenSpec.ofChange lendPlaysSpec)

/-- ITS FALSE NEIGHBOUR: 'it returns false'. Refute it at one input. -/
def lendPlaysWrong : ChangeSpec := { name := "lendPlays", fn := fun _ => fun
  | [d] => { results := [.lit (.bool false)], args := [d] }
  | _ => none }
def LendPlaysWrongFalsely : Prop := lendPlaysRow.holds Try.pinned (OpenSpec.ofChange lendPlaysWrong)

/-- 'columbariumlaw28.LendBack': WHATEVER THE INPUT: true; the input reads as it did. -/
def lendBackSpec : ChangeSpec := { name := "lendBack", fn := fun _ => fun
  | [d] => { results := [.lit (.bool true)], args := [d] }
  | _ => none }
def lendBackRow : OpenClaim := { program := "ytopmcjpnfnfjiaa", sum := "660d641dfcb413f30360ae4e7613ba6ef4fbfc0b15e45f49e74d4122b7899309", func := "columbarium/columbariumlaw28.LendBack", spec := "lendBack", unfollowed := true, recurses := true, loops := true, apart := false }
def LendBackSaid : Prop := lendBackRow.holds Try.pinned (OpenSpec.ofChange lendBackSpec)

/-- ITS FALSE NEIGHBOUR: 'it returns false'. Refute it at one input. -/
def lendBackWrong : ChangeSpec := { name := "lendBack", fn := fun _ => fun
  | [d] => { results := [.lit (.bool false)], args := [d] }
  | _ => none }
def LendBackWrongFalsely : Prop := lendBackRow.holds Try.pinned (OpenSpec.ofChange lendBackWrong)

/-- 'columbariumlaw28.LendKept': WHATEVER THE INPUT: true; the input reads as it did. -/
def lendKeptSpec : ChangeSpec := { name := "lendKept", fn := fun _ => fun
  | [d] => { results := [.lit (.bool true)], args := [d] }
  | _ => none }
def lendKeptRow : OpenClaim := { program := "ytopmcjpnfnfjiaa", sum := "660d641dfcb413f30360ae4e7613ba6ef4fbfc0b15e45f49e74d4122b7899309", func := "columbarium/columbariumlaw28.LendKept", spec := "lendKept", unfollowed := true, recurses := true, loops := true, apart := false }
def LendKeptSaid : Prop := lendKeptRow.holds Try.pinned (OpenSpec.ofChange lendKeptSpec)

/-- ITS FALSE NEIGHBOUR: 'it returns false'. Refute it at one input. -/
def lendKeptWrong : ChangeSpec := { name := "lendKept", fn := fun _ => fun
  | [d] => { results := [.lit (.bool false)], args := [d] }
  | _ => none }
def LendKeptWrongFalsely : Prop := lendKeptRow.holds Try.pinned (OpenSpec.ofChange lendKeptWrong)

/-- 'columbariumlaw28.LendNil': WHATEVER THE INPUT: true; the input reads as it did. -/
def lendNilSpec : ChangeSpec := { name := "lendNil", fn := fun _ => fun
  | [d] => { results := [.lit (.bool true)], args := [d] }
  | _ => none }
def lendNilRow : OpenClaim := { program := "ytopmcjpnfnfjiaa", sum := "660d641dfcb413f30360ae4e7613ba6ef4fbfc0b15e45f49e74d4122b7899309", func := "columbarium/columbariumlaw28.LendNil", spec := "lendNil", unfollowed := true, recurses := true, loops := true, apart := false }
def LendNilSaid : Prop := lendNilRow.holds Try.pinned (OpenSpec.ofChange lendNilSpec)

/-- ITS FALSE NEIGHBOUR: 'it returns false'. Refute it at one input. -/
def lendNilWrong : ChangeSpec := { name := "lendNil", fn := fun _ => fun
  | [d] => { results := [.lit (.bool false)], args := [d] }
  | _ => none }
def LendNilWrongFalsely : Prop := lendNilRow.holds Try.pinned (OpenSpec.ofChange lendNilWrong)

/-- 'columbariumlaw28.LendCounts': WHATEVER THE INPUT: true; the input reads as it did. -/
def lendCountsSpec : ChangeSpec := { name := "lendCounts", fn := fun _ => fun
  | [d] => { results := [.lit (.bool true)], args := [d] }
  | _ => none }
def lendCountsRow : OpenClaim := { program := "ytopmcjpnfnfjiaa", sum := "660d641dfcb413f30360ae4e7613ba6ef4fbfc0b15e45f49e74d4122b7899309", func := "columbarium/columbariumlaw28.LendCounts", spec := "lendCounts", unfollowed := true, recurses := true, apart := false }
def LendCountsSaid : Prop := lendCountsRow.holds Try.pinned (OpenSpec.ofChange lendCountsSpec)

/-- ITS FALSE NEIGHBOUR: 'it returns false'. Refute it at one input. -/
def lendCountsWrong : ChangeSpec := { name := "lendCounts", fn := fun _ => fun
  | [d] => { results := [.lit (.bool false)], args := [d] }
  | _ => none }
def LendCountsWrongFalsely : Prop := lendCountsRow.holds Try.pinned (OpenSpec.ofChange lendCountsWrong)

/- THE SECOND FORM. 'bulk': how many values and letters a reading holds, each counted each time it is reached (what is shared counts as often as it is met; a slice's spare places count too). A statement '..UptoSaid' is the law's where the arguments, and the package variables that the reading takes, are together of bulk at most 1048576: NARROWER than '..Said'. Prove '..Said' where nothing that the law and all that it calls make is longer than what came in: it says more and counts as full. Else prove '..UptoSaid'. A law counts once. -/
mutual
def uptoBulk {H : Type} : DataW H → Nat
  | .lit (.string bytes) => bytes.length + 1
  | .lit _ => 1
  | .nil => 1
  | .ptr d => uptoBulk d + 1
  | .slice elems spare => uptoBulkAll elems + uptoBulkAll spare + 1
  | .agg parts => uptoBulkAll parts + 1
  | .iface _ d => uptoBulk d + 1
  | .map entries => uptoBulkEntries entries + 1
  | .held _ => 1
def uptoBulkAll {H : Type} : List (DataW H) → Nat
  | [] => 0
  | d :: r => uptoBulk d + uptoBulkAll r
def uptoBulkEntries {H : Type} : List (Lit × DataW H) → Nat
  | [] => 0
  | x :: r => uptoBulkEntry x + uptoBulkEntries r
def uptoBulkEntry {H : Type} : Lit × DataW H → Nat
  | (.string bytes, d) => bytes.length + uptoBulk d + 1
  | (_, d) => uptoBulk d + 1
 end
def uptoSmall : (H : Type) → List (DataW H) → Bool := fun _ ds => decide (uptoBulkAll ds ≤ 1048576)
def OpenSpec.upto (s : _root_.Go.ChangeSpec) : _root_.Go.OpenSpec := { _root_.Go.OpenSpec.ofChange s with cond := some uptoSmall }

/-- 'columbariumlaw28.LendPlays', WHERE WHAT IT READS IS OF BULK AT MOST 1048576: true; the input reads as it did. -/
def lendPlaysUptoRow : OpenClaim := { program := "ytopmcjpnfnfjiaa", sum := "660d641dfcb413f30360ae4e7613ba6ef4fbfc0b15e45f49e74d4122b7899309", func := "columbarium/columbariumlaw28.LendPlays", spec := "lendPlays", unfollowed := true, recurses := true, loops := true, apart := false, narrowed := true }
def LendPlaysUptoSaid : Prop := lendPlaysUptoRow.holds Try.pinned (OpenSpec.upto lendPlaysSpec)

/-- 'columbariumlaw28.LendBack', WHERE WHAT IT READS IS OF BULK AT MOST 1048576: true; the input reads as it did. -/
def lendBackUptoRow : OpenClaim := { program := "ytopmcjpnfnfjiaa", sum := "660d641dfcb413f30360ae4e7613ba6ef4fbfc0b15e45f49e74d4122b7899309", func := "columbarium/columbariumlaw28.LendBack", spec := "lendBack", unfollowed := true, recurses := true, loops := true, apart := false, narrowed := true }
def LendBackUptoSaid : Prop := lendBackUptoRow.holds Try.pinned (OpenSpec.upto lendBackSpec)

/-- 'columbariumlaw28.LendKept', WHERE WHAT IT READS IS OF BULK AT MOST 1048576: true; the input reads as it did. -/
def lendKeptUptoRow : OpenClaim := { program := "ytopmcjpnfnfjiaa", sum := "660d641dfcb413f30360ae4e7613ba6ef4fbfc0b15e45f49e74d4122b7899309", func := "columbarium/columbariumlaw28.LendKept", spec := "lendKept", unfollowed := true, recurses := true, loops := true, apart := false, narrowed := true }
def LendKeptUptoSaid : Prop := lendKeptUptoRow.holds Try.pinned (OpenSpec.upto lendKeptSpec)

/-- 'columbariumlaw28.LendNil', WHERE WHAT IT READS IS OF BULK AT MOST 1048576: true; the input reads as it did. -/
def lendNilUptoRow : OpenClaim := { program := "ytopmcjpnfnfjiaa", sum := "660d641dfcb413f30360ae4e7613ba6ef4fbfc0b15e45f49e74d4122b7899309", func := "columbarium/columbariumlaw28.LendNil", spec := "lendNil", unfollowed := true, recurses := true, loops := true, apart := false, narrowed := true }
def LendNilUptoSaid : Prop := lendNilUptoRow.holds Try.pinned (OpenSpec.upto lendNilSpec)

/-- 'columbariumlaw28.LendCounts', WHERE WHAT IT READS IS OF BULK AT MOST 1048576: true; the input reads as it did. -/
def lendCountsUptoRow : OpenClaim := { program := "ytopmcjpnfnfjiaa", sum := "660d641dfcb413f30360ae4e7613ba6ef4fbfc0b15e45f49e74d4122b7899309", func := "columbarium/columbariumlaw28.LendCounts", spec := "lendCounts", unfollowed := true, recurses := true, apart := false, narrowed := true }
def LendCountsUptoSaid : Prop := lendCountsUptoRow.holds Try.pinned (OpenSpec.upto lendCountsSpec)

end Rows
end Go.Proofs.Ytopmcjpnfnfjiaa
