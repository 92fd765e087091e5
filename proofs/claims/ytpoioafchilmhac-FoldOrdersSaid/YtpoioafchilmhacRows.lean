/-
  No cell of these rows narrows 'for every input' (looked for: loops, veiled, ifaces, maps, wideKeys, modest, calm, conditions, laid).
  DERIVED. THE GIVEN ROWS OF THIS SEAT. 5 by the template 'for every input the law returns true; each argument reads behind the call as it read before'; 0 by the template 'total and deterministic' (their statements: YtpoioafchilmhacTotals.lean).
  GIVEN WITH THE SEED: the statements are not yours to turn. If you find one false, say at which input.
  Laid BY PROGRAM, IN A SANDBOX (cutbox-rows.mjs): the forced cells as the released guide's own fill.sh prints them over the translation ec5146ecb936e7c4… (all of the seat's roots in one cut). By AI agents, Wed Nov 11 2026. No macro, syntax, notation, axiom, sorry.
-/
import Derived.Test.YtpoioafchilmhacChecked
import GoSem.Claim
import GoSem.ClaimJoined
import GoSem.ClaimMapViews
import Derived.JoinedTies
import Derived.KernelRfl
namespace Go.Proofs.Ytpoioafchilmhac
/- THE CELL 'sum', in the pinned program and in every row, IS THE sha256 OF THE DUMP (.gsa) THAT YtpoioafchilmhacProg.lean LOADS. Nothing in Lean hashes anything: it is a label: what it is worth is what the hold of that sum in a sandbox is worth. -/
noncomputable def Try.pinned : Pinned := { name := "ytpoioafchilmhac", sum := "ec5146ecb936e7c4fac7af8573fecfa9d39a154d25b90467694c83662dc5a78f", checked := Try.checked }
namespace Rows
def none {H : Type} : Left H := { results := [], args := [] }

/-- 'columbariumlaw02.FoldLowers': WHATEVER THE INPUT: true; the input reads as it did. -/
def foldLowersSpec : ChangeSpec := { name := "foldLowers", fn := fun _ => fun
  | [d] => { results := [.lit (.bool true)], args := [d] }
  | _ => none }
def foldLowersRow : OpenClaim := { program := "ytpoioafchilmhac", sum := "ec5146ecb936e7c4fac7af8573fecfa9d39a154d25b90467694c83662dc5a78f", func := "columbarium/columbariumlaw02.FoldLowers", spec := "foldLowers", inPlace := ["internal/abi.NoEscape", "internal/bytealg.MakeNoZero"], unfollowed := true, recurses := true, apart := false }
def FoldLowersSaid : Prop := foldLowersRow.holds Try.pinned (OpenSpec.ofChange foldLowersSpec)

/-- ITS FALSE NEIGHBOUR: 'it returns false'. Refute it at one input. -/
def foldLowersWrong : ChangeSpec := { name := "foldLowers", fn := fun _ => fun
  | [d] => { results := [.lit (.bool false)], args := [d] }
  | _ => none }
def FoldLowersWrongFalsely : Prop := foldLowersRow.holds Try.pinned (OpenSpec.ofChange foldLowersWrong)

/-- 'columbariumlaw02.FoldLabels': WHATEVER THE INPUT: true; the input reads as it did. -/
def foldLabelsSpec : ChangeSpec := { name := "foldLabels", fn := fun _ => fun
  | [d] => { results := [.lit (.bool true)], args := [d] }
  | _ => none }
def foldLabelsRow : OpenClaim := { program := "ytpoioafchilmhac", sum := "ec5146ecb936e7c4fac7af8573fecfa9d39a154d25b90467694c83662dc5a78f", func := "columbarium/columbariumlaw02.FoldLabels", spec := "foldLabels", inPlace := ["internal/abi.NoEscape", "internal/bytealg.MakeNoZero"], unfollowed := true, recurses := true, apart := false }
def FoldLabelsSaid : Prop := foldLabelsRow.holds Try.pinned (OpenSpec.ofChange foldLabelsSpec)

/-- ITS FALSE NEIGHBOUR: 'it returns false'. Refute it at one input. -/
def foldLabelsWrong : ChangeSpec := { name := "foldLabels", fn := fun _ => fun
  | [d] => { results := [.lit (.bool false)], args := [d] }
  | _ => none }
def FoldLabelsWrongFalsely : Prop := foldLabelsRow.holds Try.pinned (OpenSpec.ofChange foldLabelsWrong)

/-- 'columbariumlaw02.FoldPairs': WHATEVER THE INPUT: true; the input reads as it did. -/
def foldPairsSpec : ChangeSpec := { name := "foldPairs", fn := fun _ => fun
  | [d1, d2] => { results := [.lit (.bool true)], args := [d1, d2] }
  | _ => none }
def foldPairsRow : OpenClaim := { program := "ytpoioafchilmhac", sum := "ec5146ecb936e7c4fac7af8573fecfa9d39a154d25b90467694c83662dc5a78f", func := "columbarium/columbariumlaw02.FoldPairs", spec := "foldPairs", inPlace := ["internal/abi.NoEscape", "internal/bytealg.MakeNoZero"], unfollowed := true, recurses := true, apart := false }
def FoldPairsSaid : Prop := foldPairsRow.holds Try.pinned (OpenSpec.ofChange foldPairsSpec)

/-- ITS FALSE NEIGHBOUR: 'it returns false'. Refute it at one input. -/
def foldPairsWrong : ChangeSpec := { name := "foldPairs", fn := fun _ => fun
  | [d1, d2] => { results := [.lit (.bool false)], args := [d1, d2] }
  | _ => none }
def FoldPairsWrongFalsely : Prop := foldPairsRow.holds Try.pinned (OpenSpec.ofChange foldPairsWrong)

/-- 'columbariumlaw02.FoldTwice': WHATEVER THE INPUT: true; the input reads as it did. -/
def foldTwiceSpec : ChangeSpec := { name := "foldTwice", fn := fun _ => fun
  | [d] => { results := [.lit (.bool true)], args := [d] }
  | _ => none }
def foldTwiceRow : OpenClaim := { program := "ytpoioafchilmhac", sum := "ec5146ecb936e7c4fac7af8573fecfa9d39a154d25b90467694c83662dc5a78f", func := "columbarium/columbariumlaw02.FoldTwice", spec := "foldTwice", inPlace := ["internal/abi.NoEscape", "internal/bytealg.MakeNoZero"], unfollowed := true, recurses := true, apart := false }
def FoldTwiceSaid : Prop := foldTwiceRow.holds Try.pinned (OpenSpec.ofChange foldTwiceSpec)

/-- ITS FALSE NEIGHBOUR: 'it returns false'. Refute it at one input. -/
def foldTwiceWrong : ChangeSpec := { name := "foldTwice", fn := fun _ => fun
  | [d] => { results := [.lit (.bool false)], args := [d] }
  | _ => none }
def FoldTwiceWrongFalsely : Prop := foldTwiceRow.holds Try.pinned (OpenSpec.ofChange foldTwiceWrong)

/-- 'columbariumlaw02.FoldOrders': WHATEVER THE INPUT: true; the input reads as it did. -/
def foldOrdersSpec : ChangeSpec := { name := "foldOrders", fn := fun _ => fun
  | [d1, d2, d3] => { results := [.lit (.bool true)], args := [d1, d2, d3] }
  | _ => none }
def foldOrdersRow : OpenClaim := { program := "ytpoioafchilmhac", sum := "ec5146ecb936e7c4fac7af8573fecfa9d39a154d25b90467694c83662dc5a78f", func := "columbarium/columbariumlaw02.FoldOrders", spec := "foldOrders", inPlace := ["internal/abi.NoEscape", "internal/bytealg.MakeNoZero"], unfollowed := true, recurses := true, apart := false }
def FoldOrdersSaid : Prop := foldOrdersRow.holds Try.pinned (OpenSpec.ofChange foldOrdersSpec)

/-- ITS FALSE NEIGHBOUR: 'it returns false'. Refute it at one input. -/
def foldOrdersWrong : ChangeSpec := { name := "foldOrders", fn := fun _ => fun
  | [d1, d2, d3] => { results := [.lit (.bool false)], args := [d1, d2, d3] }
  | _ => none }
def FoldOrdersWrongFalsely : Prop := foldOrdersRow.holds Try.pinned (OpenSpec.ofChange foldOrdersWrong)

/- THE SECOND FORM. 'bulk': how many values and letters a reading holds, each counted each time it is reached (what is shared counts as often as it is met; a slice's spare places count too). A statement '..UptoSaid' is the law's where the arguments, and the package variables that the reading takes, are together of bulk at most 1048576: NARROWER than '..Said'. Prove '..Said' where nothing that the law and all that it calls make is longer than what came in: it says more and counts as full. Else prove '..UptoSaid'. A law counts once. -/
mutual
def uptoBulk {H : Type} : DataW H → Nat
  | .lit (.string bytes) => bytes.length + 1
  | .lit _ => 1
  | .nil => 1
  | .ptr d => uptoBulk d + 1
  | .slice elems spare => uptoBulkAll elems + uptoBulkAll spare + 1
  | .agg parts => uptoBulkAll parts + 1
  | .iface _ d => uptoBulk d + 1
  | .map entries => uptoBulkEntries entries + 1
  | .held _ => 1
def uptoBulkAll {H : Type} : List (DataW H) → Nat
  | [] => 0
  | d :: r => uptoBulk d + uptoBulkAll r
def uptoBulkEntries {H : Type} : List (Lit × DataW H) → Nat
  | [] => 0
  | x :: r => uptoBulkEntry x + uptoBulkEntries r
def uptoBulkEntry {H : Type} : Lit × DataW H → Nat
  | (.string bytes, d) => bytes.length + uptoBulk d + 1
  | (_, d) => uptoBulk d + 1
 end
def uptoSmall : (H : Type) → List (DataW H) → Bool := fun _ ds => decide (uptoBulkAll ds ≤ 1048576)
def OpenSpec.upto (s : _root_.Go.ChangeSpec) : _root_.Go.OpenSpec := { _root_.Go.OpenSpec.ofChange s with cond := some uptoSmall }

/-- 'columbariumlaw02.FoldLowers', WHERE WHAT IT READS IS OF BULK AT MOST 1048576: true; the input reads as it did. -/
def foldLowersUptoRow : OpenClaim := { program := "ytpoioafchilmhac", sum := "ec5146ecb936e7c4fac7af8573fecfa9d39a154d25b90467694c83662dc5a78f", func := "columbarium/columbariumlaw02.FoldLowers", spec := "foldLowers", inPlace := ["internal/abi.NoEscape", "internal/bytealg.MakeNoZero"], unfollowed := true, recurses := true, apart := false, narrowed := true }
def FoldLowersUptoSaid : Prop := foldLowersUptoRow.holds Try.pinned (OpenSpec.upto foldLowersSpec)

/-- 'columbariumlaw02.FoldLabels', WHERE WHAT IT READS IS OF BULK AT MOST 1048576: true; the input reads as it did. -/
def foldLabelsUptoRow : OpenClaim := { program := "ytpoioafchilmhac", sum := "ec5146ecb936e7c4fac7af8573fecfa9d39a154d25b90467694c83662dc5a78f", func := "columbarium/columbariumlaw02.FoldLabels", spec := "foldLabels", inPlace := ["internal/abi.NoEscape", "internal/bytealg.MakeNoZero"], unfollowed := true, recurses := true, apart := false, narrowed := true }
def FoldLabelsUptoSaid : Prop := foldLabelsUptoRow.holds Try.pinned (OpenSpec.upto foldLabelsSpec)

/-- 'columbariumlaw02.FoldPairs', WHERE WHAT IT READS IS OF BULK AT MOST 1048576: true; the input reads as it did. -/
def foldPairsUptoRow : OpenClaim := { program := "ytpoioafchilmhac", sum := "ec5146ecb936e7c4fac7af8573fecfa9d39a154d25b90467694c83662dc5a78f", func := "columbarium/columbariumlaw02.FoldPairs", spec := "foldPairs", inPlace := ["internal/abi.NoEscape", "internal/bytealg.MakeNoZero"], unfollowed := true, recurses := true, apart := false, narrowed := true }
def FoldPairsUptoSaid : Prop := foldPairsUptoRow.holds Try.pinned (OpenSpec.upto foldPairsSpec)

/-- 'columbariumlaw02.FoldTwice', WHERE WHAT IT READS IS OF BULK AT MOST 1048576: true; the input reads as it did. -/
def foldTwiceUptoRow : OpenClaim := { program := "ytpoioafchilmhac", sum := "ec5146ecb936e7c4fac7af8573fecfa9d39a154d25b90467694c83662dc5a78f", func := "columbarium/columbariumlaw02.FoldTwice", spec := "foldTwice", inPlace := ["internal/abi.NoEscape", "internal/bytealg.MakeNoZero"], unfollowed := true, recurses := true, apart := false, narrowed := true }
def FoldTwiceUptoSaid : Prop := foldTwiceUptoRow.holds Try.pinned (OpenSpec.upto foldTwiceSpec)

/-- 'columbariumlaw02.FoldOrders', WHERE WHAT IT READS IS OF BULK AT MOST 1048576: true; the input reads as it did. -/
def foldOrdersUptoRow : OpenClaim := { program := "ytpoioafchilmhac", sum := "ec5146ecb936e7c4fac7af8573fecfa9d39a154d25b90467694c83662dc5a78f", func := "columbarium/columbariumlaw02.FoldOrders", spec := "foldOrders", inPlace := ["internal/abi.NoEscape", "internal/bytealg.MakeNoZero"], unfollowed := true, recurses := true, apart := false, narrowed := true }
def FoldOrdersUptoSaid : Prop := foldOrdersUptoRow.holds Try.pinned (OpenSpec.upto foldOrdersSpec)

end Rows
end Go.Proofs.Ytpoioafchilmhac
