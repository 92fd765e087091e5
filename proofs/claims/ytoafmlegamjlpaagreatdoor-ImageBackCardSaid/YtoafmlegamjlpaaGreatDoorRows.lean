/-
  NARROWER THAN 'FOR EVERY INPUT', by the rows' own cells (each row's printed sentence says how): ImageSqueezes: laid · ImageSpreads: laid · ImageBack: laid · ImageOpens: laid.
  DERIVED. THE GIVEN ROWS OF THIS SEAT. 4 by the template 'for every input the law returns true; each argument reads behind the call as it read before'; 0 by the template 'total and deterministic' (their statements: YtoafmlegamjlpaaGreatDoorTotals.lean).
  GIVEN WITH THE SEED: the statements are not yours to turn. If you find one false, say at which input.
  Laid BY PROGRAM, IN A SANDBOX (cutbox-rows.mjs): the forced cells as the released guide's own fill.sh prints them over the translation 21cf8f0066afe715… (all of the seat's roots in one cut). By AI agents, Wed Nov 11 2026. No macro, syntax, notation, axiom, sorry.
-/
import Derived.Test.YtoafmlegamjlpaaGreatDoorChecked
import GoSem.Claim
import GoSem.ClaimJoined
import GoSem.ClaimMapViews
import Derived.JoinedTies
import Derived.KernelRfl
namespace Go.Proofs.YtoafmlegamjlpaaGreatDoor
/- THE CELL 'sum', in the pinned program and in every row, IS THE sha256 OF THE DUMP (.gsa) THAT YtoafmlegamjlpaaGreatDoorProg.lean LOADS. Nothing in Lean hashes anything: it is a label: what it is worth is what the hold of that sum in a sandbox is worth. -/
noncomputable def Tryz.pinned : Pinned := { name := "ytoafmlegamjlpaagreatdoor", sum := "21cf8f0066afe715c97dfa22b8e2c42c34b7679a318f66d2287a75c29ab1dca1", checked := Tryz.checked }
namespace Rows
def none {H : Type} : Left H := { results := [], args := [] }

/- WHAT THE LISTED PACKAGE-LEVEL VARIABLES READ AS WHEN THE CALL BEGINS. Each datum BY PROGRAM (the guide's laid-datum.mjs) off the statement by which the dump's own 'gosem.cut.vars' lays the variable. In a bare row this is a premise. The card (YtoafmlegamjlpaaGreatDoorCards.lean) ties it to the program's text. -/
def laid_columbarium_class_sizes {H : Type} : DataW H := .agg [.lit (.int .i64 0), .lit (.int .i64 32), .lit (.int .i64 48), .lit (.int .i64 64), .lit (.int .i64 96), .lit (.int .i64 128), .lit (.int .i64 192), .lit (.int .i64 256), .lit (.int .i64 384), .lit (.int .i64 512)]
def laid_errors_errorType {H : Type} : DataW H := .iface "internal/reflectlite.rtype" (.agg [.ptr (.lit (.string [101, 114, 114, 111, 114]))])
def laid_columbarium_memory_fields {H : Type} : DataW H := .agg [.lit (.int .i64 8), .lit (.int .i64 12), .lit (.int .i64 16), .lit (.int .i64 20), .lit (.int .i64 24), .lit (.int .i64 28), .lit (.int .i64 32), .lit (.int .i64 36), .lit (.int .i64 40), .lit (.int .i64 44), .lit (.int .i64 48), .lit (.int .i64 52), .lit (.int .i64 56), .lit (.int .i64 60), .lit (.int .i64 64), .lit (.int .i64 68), .lit (.int .i64 72), .lit (.int .i64 80), .lit (.int .i64 84), .lit (.int .i64 88), .lit (.int .i64 92)]
def laid_columbarium_head_nowhere {H : Type} : DataW H := .agg [.lit (.int .i64 0), .lit (.int .i64 0)]
def laid_columbarium_head_common {H : Type} : DataW H := .agg [.agg [.lit (.int .i64 0), .lit (.int .i64 1)], .agg [.lit (.int .i64 1), .lit (.int .i64 1)], .agg [.lit (.int .i64 2), .lit (.int .i64 1)], .agg [.lit (.int .i64 3), .lit (.int .i64 1)], .agg [.lit (.int .i64 4), .lit (.int .i64 4)]]
def laid_columbarium_head_own {H : Type} : DataW H := .agg [.agg [.lit (.int .i64 8), .lit (.int .i64 4)], .agg [.lit (.int .i64 12), .lit (.int .i64 4)], .agg [.lit (.int .i64 16), .lit (.int .i64 8)], .agg [.lit (.int .i64 24), .lit (.int .i64 2)], .agg [.lit (.int .i64 26), .lit (.int .i64 2)], .agg [.lit (.int .i64 28), .lit (.int .i64 4)]]

/-- 'columbariumlaw31.ImageSqueezes': WHATEVER THE INPUT: true; the input reads as it did. -/
def imageSqueezesSpec : ChangeSpec := { name := "imageSqueezes", fn := fun _ => fun
  | [d] => { results := [.lit (.bool true)], args := [d] }
  | _ => none }
def imageSqueezesRow : OpenClaim := { program := "ytoafmlegamjlpaagreatdoor", sum := "21cf8f0066afe715c97dfa22b8e2c42c34b7679a318f66d2287a75c29ab1dca1", func := "columbarium/columbariumlaw31.ImageSqueezes", spec := "imageSqueezes", inPlace := ["internal/reflectlite.TypeOf", "internal/reflectlite.ValueOf", "(internal/reflectlite.Value).Type", "(internal/reflectlite.Value).IsNil", "(internal/reflectlite.Value).Elem", "(internal/reflectlite.Value).Set", "internal/abi.NoEscape", "internal/bytealg.MakeNoZero"], unfollowed := true, recurses := true, named := ["columbarium/memory.fields", "columbarium/class.sizes", "errors.errorType", "columbarium/head.nowhere", "columbarium/head.common", "columbarium/head.own"], plainKeys := false, apart := false, laid := [("columbarium/class.sizes", laid_columbarium_class_sizes), ("errors.errorType", laid_errors_errorType), ("columbarium/memory.fields", laid_columbarium_memory_fields), ("columbarium/head.nowhere", laid_columbarium_head_nowhere), ("columbarium/head.common", laid_columbarium_head_common), ("columbarium/head.own", laid_columbarium_head_own)] }
def ImageSqueezesSaid : Prop := imageSqueezesRow.holds Tryz.pinned (OpenSpec.ofChange imageSqueezesSpec)

/-- ITS FALSE NEIGHBOUR: 'it returns false'. Refute it at one input. -/
def imageSqueezesWrong : ChangeSpec := { name := "imageSqueezes", fn := fun _ => fun
  | [d] => { results := [.lit (.bool false)], args := [d] }
  | _ => none }
def ImageSqueezesWrongFalsely : Prop := imageSqueezesRow.holds Tryz.pinned (OpenSpec.ofChange imageSqueezesWrong)

/-- 'columbariumlaw31.ImageSpreads': WHATEVER THE INPUT: true; the input reads as it did. -/
def imageSpreadsSpec : ChangeSpec := { name := "imageSpreads", fn := fun _ => fun
  | [d] => { results := [.lit (.bool true)], args := [d] }
  | _ => none }
def imageSpreadsRow : OpenClaim := { program := "ytoafmlegamjlpaagreatdoor", sum := "21cf8f0066afe715c97dfa22b8e2c42c34b7679a318f66d2287a75c29ab1dca1", func := "columbarium/columbariumlaw31.ImageSpreads", spec := "imageSpreads", inPlace := ["internal/reflectlite.TypeOf", "internal/reflectlite.ValueOf", "(internal/reflectlite.Value).Type", "(internal/reflectlite.Value).IsNil", "(internal/reflectlite.Value).Elem", "(internal/reflectlite.Value).Set", "internal/abi.NoEscape", "internal/bytealg.MakeNoZero"], unfollowed := true, recurses := true, named := ["columbarium/memory.fields", "columbarium/class.sizes", "errors.errorType", "columbarium/head.nowhere", "columbarium/head.common", "columbarium/head.own"], plainKeys := false, apart := false, laid := [("columbarium/class.sizes", laid_columbarium_class_sizes), ("errors.errorType", laid_errors_errorType), ("columbarium/memory.fields", laid_columbarium_memory_fields), ("columbarium/head.nowhere", laid_columbarium_head_nowhere), ("columbarium/head.common", laid_columbarium_head_common), ("columbarium/head.own", laid_columbarium_head_own)] }
def ImageSpreadsSaid : Prop := imageSpreadsRow.holds Tryz.pinned (OpenSpec.ofChange imageSpreadsSpec)

/-- ITS FALSE NEIGHBOUR: 'it returns false'. Refute it at one input. -/
def imageSpreadsWrong : ChangeSpec := { name := "imageSpreads", fn := fun _ => fun
  | [d] => { results := [.lit (.bool false)], args := [d] }
  | _ => none }
def ImageSpreadsWrongFalsely : Prop := imageSpreadsRow.holds Tryz.pinned (OpenSpec.ofChange imageSpreadsWrong)

/-- 'columbariumlaw31.ImageBack': WHATEVER THE INPUT: true; the input reads as it did. -/
def imageBackSpec : ChangeSpec := { name := "imageBack", fn := fun _ => fun
  | [d1, d2] => { results := [.lit (.bool true)], args := [d1, d2] }
  | _ => none }
def imageBackRow : OpenClaim := { program := "ytoafmlegamjlpaagreatdoor", sum := "21cf8f0066afe715c97dfa22b8e2c42c34b7679a318f66d2287a75c29ab1dca1", func := "columbarium/columbariumlaw31.ImageBack", spec := "imageBack", inPlace := ["internal/reflectlite.TypeOf", "internal/reflectlite.ValueOf", "(internal/reflectlite.Value).Type", "(internal/reflectlite.Value).IsNil", "(internal/reflectlite.Value).Elem", "(internal/reflectlite.Value).Set", "internal/abi.NoEscape", "internal/bytealg.MakeNoZero"], unfollowed := true, recurses := true, named := ["columbarium/memory.fields", "columbarium/class.sizes", "errors.errorType", "columbarium/head.nowhere", "columbarium/head.common", "columbarium/head.own"], plainKeys := false, apart := false, laid := [("columbarium/class.sizes", laid_columbarium_class_sizes), ("errors.errorType", laid_errors_errorType), ("columbarium/memory.fields", laid_columbarium_memory_fields), ("columbarium/head.nowhere", laid_columbarium_head_nowhere), ("columbarium/head.common", laid_columbarium_head_common), ("columbarium/head.own", laid_columbarium_head_own)] }
def ImageBackSaid : Prop := imageBackRow.holds Tryz.pinned (OpenSpec.ofChange imageBackSpec)

/-- ITS FALSE NEIGHBOUR: 'it returns false'. Refute it at one input. -/
def imageBackWrong : ChangeSpec := { name := "imageBack", fn := fun _ => fun
  | [d1, d2] => { results := [.lit (.bool false)], args := [d1, d2] }
  | _ => none }
def ImageBackWrongFalsely : Prop := imageBackRow.holds Tryz.pinned (OpenSpec.ofChange imageBackWrong)

/-- 'columbariumlaw31.ImageOpens': WHATEVER THE INPUT: true; the input reads as it did. -/
def imageOpensSpec : ChangeSpec := { name := "imageOpens", fn := fun _ => fun
  | [d] => { results := [.lit (.bool true)], args := [d] }
  | _ => none }
def imageOpensRow : OpenClaim := { program := "ytoafmlegamjlpaagreatdoor", sum := "21cf8f0066afe715c97dfa22b8e2c42c34b7679a318f66d2287a75c29ab1dca1", func := "columbarium/columbariumlaw31.ImageOpens", spec := "imageOpens", inPlace := ["internal/reflectlite.TypeOf", "internal/reflectlite.ValueOf", "(internal/reflectlite.Value).Type", "(internal/reflectlite.Value).IsNil", "(internal/reflectlite.Value).Elem", "(internal/reflectlite.Value).Set", "internal/abi.NoEscape", "internal/bytealg.MakeNoZero"], unfollowed := true, recurses := true, named := ["columbarium/memory.fields", "columbarium/class.sizes", "errors.errorType", "columbarium/head.nowhere", "columbarium/head.common", "columbarium/head.own"], plainKeys := false, apart := false, laid := [("columbarium/class.sizes", laid_columbarium_class_sizes), ("errors.errorType", laid_errors_errorType), ("columbarium/memory.fields", laid_columbarium_memory_fields), ("columbarium/head.nowhere", laid_columbarium_head_nowhere), ("columbarium/head.common", laid_columbarium_head_common), ("columbarium/head.own", laid_columbarium_head_own)] }
def ImageOpensSaid : Prop := imageOpensRow.holds Tryz.pinned (OpenSpec.ofChange imageOpensSpec)

/-- ITS FALSE NEIGHBOUR: 'it returns false'. Refute it at one input. -/
def imageOpensWrong : ChangeSpec := { name := "imageOpens", fn := fun _ => fun
  | [d] => { results := [.lit (.bool false)], args := [d] }
  | _ => none }
def ImageOpensWrongFalsely : Prop := imageOpensRow.holds Tryz.pinned (OpenSpec.ofChange imageOpensWrong)

/- THE SECOND FORM. 'bulk': how many values and letters a reading holds, each counted each time it is reached (what is shared counts as often as it is met; a slice's spare places count too). A statement '..UptoSaid' is the law's where the arguments, and the package variables that the reading takes, are together of bulk at most 1048576: NARROWER than '..Said'. Prove '..Said' where nothing that the law and all that it calls make is longer than what came in: it says more and counts as full. Else prove '..UptoSaid'. A law counts once. -/
mutual
def uptoBulk {H : Type} : DataW H → Nat
  | .lit (.string bytes) => bytes.length + 1
  | .lit _ => 1
  | .nil => 1
  | .ptr d => uptoBulk d + 1
  | .slice elems spare => uptoBulkAll elems + uptoBulkAll spare + 1
  | .agg parts => uptoBulkAll parts + 1
  | .iface _ d => uptoBulk d + 1
  | .map entries => uptoBulkEntries entries + 1
  | .held _ => 1
def uptoBulkAll {H : Type} : List (DataW H) → Nat
  | [] => 0
  | d :: r => uptoBulk d + uptoBulkAll r
def uptoBulkEntries {H : Type} : List (Lit × DataW H) → Nat
  | [] => 0
  | x :: r => uptoBulkEntry x + uptoBulkEntries r
def uptoBulkEntry {H : Type} : Lit × DataW H → Nat
  | (.string bytes, d) => bytes.length + uptoBulk d + 1
  | (_, d) => uptoBulk d + 1
 end
def uptoSmall : (H : Type) → List (DataW H) → Bool := fun _ ds => decide (uptoBulkAll ds ≤ 1048576)
def OpenSpec.upto (s : _root_.Go.ChangeSpec) : _root_.Go.OpenSpec := { _root_.Go.OpenSpec.ofChange s with cond := some uptoSmall }

/-- 'columbariumlaw31.ImageSqueezes', WHERE WHAT IT READS IS OF BULK AT MOST 1048576: true; the input reads as it did. -/
def imageSqueezesUptoRow : OpenClaim := { program := "ytoafmlegamjlpaagreatdoor", sum := "21cf8f0066afe715c97dfa22b8e2c42c34b7679a318f66d2287a75c29ab1dca1", func := "columbarium/columbariumlaw31.ImageSqueezes", spec := "imageSqueezes", inPlace := ["internal/reflectlite.TypeOf", "internal/reflectlite.ValueOf", "(internal/reflectlite.Value).Type", "(internal/reflectlite.Value).IsNil", "(internal/reflectlite.Value).Elem", "(internal/reflectlite.Value).Set", "internal/abi.NoEscape", "internal/bytealg.MakeNoZero"], unfollowed := true, recurses := true, named := ["columbarium/memory.fields", "columbarium/class.sizes", "errors.errorType", "columbarium/head.nowhere", "columbarium/head.common", "columbarium/head.own"], plainKeys := false, apart := false, laid := [("columbarium/class.sizes", laid_columbarium_class_sizes), ("errors.errorType", laid_errors_errorType), ("columbarium/memory.fields", laid_columbarium_memory_fields), ("columbarium/head.nowhere", laid_columbarium_head_nowhere), ("columbarium/head.common", laid_columbarium_head_common), ("columbarium/head.own", laid_columbarium_head_own)], narrowed := true }
def ImageSqueezesUptoSaid : Prop := imageSqueezesUptoRow.holds Tryz.pinned (OpenSpec.upto imageSqueezesSpec)

/-- 'columbariumlaw31.ImageSpreads', WHERE WHAT IT READS IS OF BULK AT MOST 1048576: true; the input reads as it did. -/
def imageSpreadsUptoRow : OpenClaim := { program := "ytoafmlegamjlpaagreatdoor", sum := "21cf8f0066afe715c97dfa22b8e2c42c34b7679a318f66d2287a75c29ab1dca1", func := "columbarium/columbariumlaw31.ImageSpreads", spec := "imageSpreads", inPlace := ["internal/reflectlite.TypeOf", "internal/reflectlite.ValueOf", "(internal/reflectlite.Value).Type", "(internal/reflectlite.Value).IsNil", "(internal/reflectlite.Value).Elem", "(internal/reflectlite.Value).Set", "internal/abi.NoEscape", "internal/bytealg.MakeNoZero"], unfollowed := true, recurses := true, named := ["columbarium/memory.fields", "columbarium/class.sizes", "errors.errorType", "columbarium/head.nowhere", "columbarium/head.common", "columbarium/head.own"], plainKeys := false, apart := false, laid := [("columbarium/class.sizes", laid_columbarium_class_sizes), ("errors.errorType", laid_errors_errorType), ("columbarium/memory.fields", laid_columbarium_memory_fields), ("columbarium/head.nowhere", laid_columbarium_head_nowhere), ("columbarium/head.common", laid_columbarium_head_common), ("columbarium/head.own", laid_columbarium_head_own)], narrowed := true }
def ImageSpreadsUptoSaid : Prop := imageSpreadsUptoRow.holds Tryz.pinned (OpenSpec.upto imageSpreadsSpec)

/-- 'columbariumlaw31.ImageBack', WHERE WHAT IT READS IS OF BULK AT MOST 1048576: true; the input reads as it did. -/
def imageBackUptoRow : OpenClaim := { program := "ytoafmlegamjlpaagreatdoor", sum := "21cf8f0066afe715c97dfa22b8e2c42c34b7679a318f66d2287a75c29ab1dca1", func := "columbarium/columbariumlaw31.ImageBack", spec := "imageBack", inPlace := ["internal/reflectlite.TypeOf", "internal/reflectlite.ValueOf", "(internal/reflectlite.Value).Type", "(internal/reflectlite.Value).IsNil", "(internal/reflectlite.Value).Elem", "(internal/reflectlite.Value).Set", "internal/abi.NoEscape", "internal/bytealg.MakeNoZero"], unfollowed := true, recurses := true, named := ["columbarium/memory.fields", "columbarium/class.sizes", "errors.errorType", "columbarium/head.nowhere", "columbarium/head.common", "columbarium/head.own"], plainKeys := false, apart := false, laid := [("columbarium/class.sizes", laid_columbarium_class_sizes), ("errors.errorType", laid_errors_errorType), ("columbarium/memory.fields", laid_columbarium_memory_fields), ("columbarium/head.nowhere", laid_columbarium_head_nowhere), ("columbarium/head.common", laid_columbarium_head_common), ("columbarium/head.own", laid_columbarium_head_own)], narrowed := true }
def ImageBackUptoSaid : Prop := imageBackUptoRow.holds Tryz.pinned (OpenSpec.upto imageBackSpec)

/-- 'columbariumlaw31.ImageOpens', WHERE WHAT IT READS IS OF BULK AT MOST 1048576: true; the input reads as it did. -/
def imageOpensUptoRow : OpenClaim := { program := "ytoafmlegamjlpaagreatdoor", sum := "21cf8f0066afe715c97dfa22b8e2c42c34b7679a318f66d2287a75c29ab1dca1", func := "columbarium/columbariumlaw31.ImageOpens", spec := "imageOpens", inPlace := ["internal/reflectlite.TypeOf", "internal/reflectlite.ValueOf", "(internal/reflectlite.Value).Type", "(internal/reflectlite.Value).IsNil", "(internal/reflectlite.Value).Elem", "(internal/reflectlite.Value).Set", "internal/abi.NoEscape", "internal/bytealg.MakeNoZero"], unfollowed := true, recurses := true, named := ["columbarium/memory.fields", "columbarium/class.sizes", "errors.errorType", "columbarium/head.nowhere", "columbarium/head.common", "columbarium/head.own"], plainKeys := false, apart := false, laid := [("columbarium/class.sizes", laid_columbarium_class_sizes), ("errors.errorType", laid_errors_errorType), ("columbarium/memory.fields", laid_columbarium_memory_fields), ("columbarium/head.nowhere", laid_columbarium_head_nowhere), ("columbarium/head.common", laid_columbarium_head_common), ("columbarium/head.own", laid_columbarium_head_own)], narrowed := true }
def ImageOpensUptoSaid : Prop := imageOpensUptoRow.holds Tryz.pinned (OpenSpec.upto imageOpensSpec)

end Rows
end Go.Proofs.YtoafmlegamjlpaaGreatDoor
