/-
  NARROWER THAN 'FOR EVERY INPUT', by the rows' own cells (each row's printed sentence says how): CacheMap: loops, laid · CacheBetween: loops, laid · CacheClean: loops, laid.
  DERIVED. THE GIVEN ROWS OF THIS SEAT. 3 by the template 'for every input the law returns true; each argument reads behind the call as it read before'; 0 by the template 'total and deterministic' (their statements: YtifkphcaelafjaaGreatDoorTotals.lean).
  GIVEN WITH THE SEED: the statements are not yours to turn. If you find one false, say at which input.
  Laid BY PROGRAM, IN A SANDBOX (cutbox-rows.mjs): the forced cells as the released guide's own fill.sh prints them over the translation 20880e02ea566d59… (all of the seat's roots in one cut). By AI agents, Wed Nov 11 2026. No macro, syntax, notation, axiom, sorry.
-/
import Derived.Test.YtifkphcaelafjaaGreatDoorChecked
import GoSem.PinnedTables
import GoSem.Claim
import GoSem.ClaimJoined
import GoSem.ClaimMapViews
import Derived.JoinedTies
import Derived.KernelRfl
namespace Go.Proofs.YtifkphcaelafjaaGreatDoor
/- THE CELL 'sum', in the pinned program and in every row, IS THE sha256 OF THE DUMP (.gsa) THAT YtifkphcaelafjaaGreatDoorProg.lean LOADS. Nothing in Lean hashes anything: it is a label: what it is worth is what the hold of that sum in a sandbox is worth. -/
noncomputable def Tryz.pinned : Pinned := { name := "ytifkphcaelafjaagreatdoor", sum := "20880e02ea566d59408da822ab01448e824b543ce09ae7c4dde087199e3ad393", checked := Tryz.checked }
namespace Rows
def none {H : Type} : Left H := { results := [], args := [] }

/- WHAT THE LISTED PACKAGE-LEVEL VARIABLES READ AS WHEN THE CALL BEGINS. Each datum BY PROGRAM (the guide's laid-datum.mjs) off the statement by which the dump's own 'gosem.cut.vars' lays the variable. In a bare row this is a premise. The card (YtifkphcaelafjaaGreatDoorCards.lean) ties it to the program's text. -/
def laid_columbarium_class_sizes {H : Type} : DataW H := .agg [.lit (.int .i64 0), .lit (.int .i64 32), .lit (.int .i64 48), .lit (.int .i64 64), .lit (.int .i64 96), .lit (.int .i64 128), .lit (.int .i64 192), .lit (.int .i64 256), .lit (.int .i64 384), .lit (.int .i64 512)]
def laid_unicode_utf8_acceptRanges {H : Type} : DataW H := .agg [.agg [.lit (.int .u8 128), .lit (.int .u8 191)], .agg [.lit (.int .u8 160), .lit (.int .u8 191)], .agg [.lit (.int .u8 128), .lit (.int .u8 159)], .agg [.lit (.int .u8 144), .lit (.int .u8 191)], .agg [.lit (.int .u8 128), .lit (.int .u8 143)], .agg [.lit (.int .u8 0), .lit (.int .u8 0)], .agg [.lit (.int .u8 0), .lit (.int .u8 0)], .agg [.lit (.int .u8 0), .lit (.int .u8 0)], .agg [.lit (.int .u8 0), .lit (.int .u8 0)], .agg [.lit (.int .u8 0), .lit (.int .u8 0)], .agg [.lit (.int .u8 0), .lit (.int .u8 0)], .agg [.lit (.int .u8 0), .lit (.int .u8 0)], .agg [.lit (.int .u8 0), .lit (.int .u8 0)], .agg [.lit (.int .u8 0), .lit (.int .u8 0)], .agg [.lit (.int .u8 0), .lit (.int .u8 0)], .agg [.lit (.int .u8 0), .lit (.int .u8 0)]]
def laid_columbarium_memory_fields {H : Type} : DataW H := .agg [.lit (.int .i64 8), .lit (.int .i64 12), .lit (.int .i64 16), .lit (.int .i64 20), .lit (.int .i64 24), .lit (.int .i64 28), .lit (.int .i64 32), .lit (.int .i64 36), .lit (.int .i64 40), .lit (.int .i64 44), .lit (.int .i64 48), .lit (.int .i64 52), .lit (.int .i64 56), .lit (.int .i64 60), .lit (.int .i64 64), .lit (.int .i64 68), .lit (.int .i64 72), .lit (.int .i64 80), .lit (.int .i64 84), .lit (.int .i64 88), .lit (.int .i64 92)]
def laid_columbarium_head_nowhere {H : Type} : DataW H := .agg [.lit (.int .i64 0), .lit (.int .i64 0)]
def laid_columbarium_head_common {H : Type} : DataW H := .agg [.agg [.lit (.int .i64 0), .lit (.int .i64 1)], .agg [.lit (.int .i64 1), .lit (.int .i64 1)], .agg [.lit (.int .i64 2), .lit (.int .i64 1)], .agg [.lit (.int .i64 3), .lit (.int .i64 1)], .agg [.lit (.int .i64 4), .lit (.int .i64 4)]]
def laid_columbarium_head_own {H : Type} : DataW H := .agg [.agg [.lit (.int .i64 8), .lit (.int .i64 4)], .agg [.lit (.int .i64 12), .lit (.int .i64 4)], .agg [.lit (.int .i64 16), .lit (.int .i64 8)], .agg [.lit (.int .i64 24), .lit (.int .i64 2)], .agg [.lit (.int .i64 26), .lit (.int .i64 2)], .agg [.lit (.int .i64 28), .lit (.int .i64 4)]]
/-- One of Go's own tables, pinned by name: the form's constant. -/
def laid_unicode_utf8_first : DataW Unit := Go.Pinned.utf8First

/-- 'columbariumlaw29.CacheMap': WHATEVER THE INPUT: true; the input reads as it did. -/
def cacheMapSpec : ChangeSpec := { name := "cacheMap", fn := fun _ => fun
  | [d] => { results := [.lit (.bool true)], args := [d] }
  | _ => none }
def cacheMapRow : OpenClaim := { program := "ytifkphcaelafjaagreatdoor", sum := "20880e02ea566d59408da822ab01448e824b543ce09ae7c4dde087199e3ad393", func := "columbarium/columbariumlaw29.CacheMap", spec := "cacheMap", inPlace := ["internal/abi.NoEscape", "internal/bytealg.MakeNoZero", "internal/bytealg.CountString", "internal/bytealg.IndexByteString", "internal/bytealg.IndexString"], unfollowed := true, recurses := true, named := ["columbarium/memory.fields", "columbarium/class.sizes", "unicode/utf8.first", "unicode/utf8.acceptRanges", "internal/bytealg.MaxLen", "columbarium/head.nowhere", "columbarium/head.common", "columbarium/head.own"], loops := true, apart := false, laid := [("columbarium/class.sizes", laid_columbarium_class_sizes), ("unicode/utf8.acceptRanges", laid_unicode_utf8_acceptRanges), ("columbarium/memory.fields", laid_columbarium_memory_fields), ("columbarium/head.nowhere", laid_columbarium_head_nowhere), ("columbarium/head.common", laid_columbarium_head_common), ("columbarium/head.own", laid_columbarium_head_own), ("unicode/utf8.first", laid_unicode_utf8_first)] }
def CacheMapSaid : Prop := cacheMapRow.holds Tryz.pinned (OpenSpec.ofChange cacheMapSpec)

/-- ITS FALSE NEIGHBOUR: 'it returns false'. Refute it at one input. -/
def cacheMapWrong : ChangeSpec := { name := "cacheMap", fn := fun _ => fun
  | [d] => { results := [.lit (.bool false)], args := [d] }
  | _ => none }
def CacheMapWrongFalsely : Prop := cacheMapRow.holds Tryz.pinned (OpenSpec.ofChange cacheMapWrong)

/-- 'columbariumlaw29.CacheBetween': WHATEVER THE INPUT: true; the input reads as it did. -/
def cacheBetweenSpec : ChangeSpec := { name := "cacheBetween", fn := fun _ => fun
  | [d1, d2, d3] => { results := [.lit (.bool true)], args := [d1, d2, d3] }
  | _ => none }
def cacheBetweenRow : OpenClaim := { program := "ytifkphcaelafjaagreatdoor", sum := "20880e02ea566d59408da822ab01448e824b543ce09ae7c4dde087199e3ad393", func := "columbarium/columbariumlaw29.CacheBetween", spec := "cacheBetween", inPlace := ["internal/abi.NoEscape", "internal/bytealg.MakeNoZero", "internal/bytealg.CountString", "internal/bytealg.IndexByteString", "internal/bytealg.IndexString"], unfollowed := true, recurses := true, named := ["columbarium/memory.fields", "columbarium/class.sizes", "unicode/utf8.first", "unicode/utf8.acceptRanges", "internal/bytealg.MaxLen", "columbarium/head.nowhere", "columbarium/head.common", "columbarium/head.own"], loops := true, apart := false, laid := [("columbarium/class.sizes", laid_columbarium_class_sizes), ("unicode/utf8.acceptRanges", laid_unicode_utf8_acceptRanges), ("columbarium/memory.fields", laid_columbarium_memory_fields), ("columbarium/head.nowhere", laid_columbarium_head_nowhere), ("columbarium/head.common", laid_columbarium_head_common), ("columbarium/head.own", laid_columbarium_head_own), ("unicode/utf8.first", laid_unicode_utf8_first)] }
def CacheBetweenSaid : Prop := cacheBetweenRow.holds Tryz.pinned (OpenSpec.ofChange cacheBetweenSpec)

/-- ITS FALSE NEIGHBOUR: 'it returns false'. Refute it at one input. -/
def cacheBetweenWrong : ChangeSpec := { name := "cacheBetween", fn := fun _ => fun
  | [d1, d2, d3] => { results := [.lit (.bool false)], args := [d1, d2, d3] }
  | _ => none }
def CacheBetweenWrongFalsely : Prop := cacheBetweenRow.holds Tryz.pinned (OpenSpec.ofChange cacheBetweenWrong)

/-- 'columbariumlaw29.CacheClean': WHATEVER THE INPUT: true; the input reads as it did. -/
def cacheCleanSpec : ChangeSpec := { name := "cacheClean", fn := fun _ => fun
  | [d1, d2, d3, d4] => { results := [.lit (.bool true)], args := [d1, d2, d3, d4] }
  | _ => none }
def cacheCleanRow : OpenClaim := { program := "ytifkphcaelafjaagreatdoor", sum := "20880e02ea566d59408da822ab01448e824b543ce09ae7c4dde087199e3ad393", func := "columbarium/columbariumlaw29.CacheClean", spec := "cacheClean", inPlace := ["internal/abi.NoEscape", "internal/bytealg.MakeNoZero", "internal/bytealg.CountString", "internal/bytealg.IndexByteString", "internal/bytealg.IndexString", "internal/bytealg.IndexByte", "internal/bytealg.Index"], unfollowed := true, recurses := true, named := ["columbarium/memory.fields", "columbarium/class.sizes", "unicode/utf8.first", "unicode/utf8.acceptRanges", "internal/bytealg.MaxLen", "columbarium/head.nowhere", "columbarium/head.common", "columbarium/head.own"], loops := true, apart := false, laid := [("columbarium/class.sizes", laid_columbarium_class_sizes), ("unicode/utf8.acceptRanges", laid_unicode_utf8_acceptRanges), ("columbarium/memory.fields", laid_columbarium_memory_fields), ("columbarium/head.nowhere", laid_columbarium_head_nowhere), ("columbarium/head.common", laid_columbarium_head_common), ("columbarium/head.own", laid_columbarium_head_own), ("unicode/utf8.first", laid_unicode_utf8_first)] }
def CacheCleanSaid : Prop := cacheCleanRow.holds Tryz.pinned (OpenSpec.ofChange cacheCleanSpec)

/-- ITS FALSE NEIGHBOUR: 'it returns false'. Refute it at one input. -/
def cacheCleanWrong : ChangeSpec := { name := "cacheClean", fn := fun _ => fun
  | [d1, d2, d3, d4] => { results := [.lit (.bool false)], args := [d1, d2, d3, d4] }
  | _ => none }
def CacheCleanWrongFalsely : Prop := cacheCleanRow.holds Tryz.pinned (OpenSpec.ofChange cacheCleanWrong)

/- THE SECOND FORM. 'bulk': how many values and letters a reading holds, each counted each time it is reached (what is shared counts as often as it is met; a slice's spare places count too). A statement '..UptoSaid' is the law's where the arguments, and the package variables that the reading takes, are together of bulk at most 1048576: NARROWER than '..Said'. Prove '..Said' where nothing that the law and all that it calls make is longer than what came in: it says more and counts as full. Else prove '..UptoSaid'. A law counts once. -/
mutual
def uptoBulk {H : Type} : DataW H → Nat
  | .lit (.string bytes) => bytes.length + 1
  | .lit _ => 1
  | .nil => 1
  | .ptr d => uptoBulk d + 1
  | .slice elems spare => uptoBulkAll elems + uptoBulkAll spare + 1
  | .agg parts => uptoBulkAll parts + 1
  | .iface _ d => uptoBulk d + 1
  | .map entries => uptoBulkEntries entries + 1
  | .held _ => 1
def uptoBulkAll {H : Type} : List (DataW H) → Nat
  | [] => 0
  | d :: r => uptoBulk d + uptoBulkAll r
def uptoBulkEntries {H : Type} : List (Lit × DataW H) → Nat
  | [] => 0
  | x :: r => uptoBulkEntry x + uptoBulkEntries r
def uptoBulkEntry {H : Type} : Lit × DataW H → Nat
  | (.string bytes, d) => bytes.length + uptoBulk d + 1
  | (_, d) => uptoBulk d + 1
 end
def uptoSmall : (H : Type) → List (DataW H) → Bool := fun _ ds => decide (uptoBulkAll ds ≤ 1048576)
def OpenSpec.upto (s : _root_.Go.ChangeSpec) : _root_.Go.OpenSpec := { _root_.Go.OpenSpec.ofChange s with cond := some uptoSmall }

/-- 'columbariumlaw29.CacheMap', WHERE WHAT IT READS IS OF BULK AT MOST 1048576: true; the input reads as it did. -/
def cacheMapUptoRow : OpenClaim := { program := "ytifkphcaelafjaagreatdoor", sum := "20880e02ea566d59408da822ab01448e824b543ce09ae7c4dde087199e3ad393", func := "columbarium/columbariumlaw29.CacheMap", spec := "cacheMap", inPlace := ["internal/abi.NoEscape", "internal/bytealg.MakeNoZero", "internal/bytealg.CountString", "internal/bytealg.IndexByteString", "internal/bytealg.IndexString"], unfollowed := true, recurses := true, named := ["columbarium/memory.fields", "columbarium/class.sizes", "unicode/utf8.first", "unicode/utf8.acceptRanges", "internal/bytealg.MaxLen", "columbarium/head.nowhere", "columbarium/head.common", "columbarium/head.own"], loops := true, apart := false, laid := [("columbarium/class.sizes", laid_columbarium_class_sizes), ("unicode/utf8.acceptRanges", laid_unicode_utf8_acceptRanges), ("columbarium/memory.fields", laid_columbarium_memory_fields), ("columbarium/head.nowhere", laid_columbarium_head_nowhere), ("columbarium/head.common", laid_columbarium_head_common), ("columbarium/head.own", laid_columbarium_head_own), ("unicode/utf8.first", laid_unicode_utf8_first)], narrowed := true }
def CacheMapUptoSaid : Prop := cacheMapUptoRow.holds Tryz.pinned (OpenSpec.upto cacheMapSpec)

/-- 'columbariumlaw29.CacheBetween', WHERE WHAT IT READS IS OF BULK AT MOST 1048576: true; the input reads as it did. -/
def cacheBetweenUptoRow : OpenClaim := { program := "ytifkphcaelafjaagreatdoor", sum := "20880e02ea566d59408da822ab01448e824b543ce09ae7c4dde087199e3ad393", func := "columbarium/columbariumlaw29.CacheBetween", spec := "cacheBetween", inPlace := ["internal/abi.NoEscape", "internal/bytealg.MakeNoZero", "internal/bytealg.CountString", "internal/bytealg.IndexByteString", "internal/bytealg.IndexString"], unfollowed := true, recurses := true, named := ["columbarium/memory.fields", "columbarium/class.sizes", "unicode/utf8.first", "unicode/utf8.acceptRanges", "internal/bytealg.MaxLen", "columbarium/head.nowhere", "columbarium/head.common", "columbarium/head.own"], loops := true, apart := false, laid := [("columbarium/class.sizes", laid_columbarium_class_sizes), ("unicode/utf8.acceptRanges", laid_unicode_utf8_acceptRanges), ("columbarium/memory.fields", laid_columbarium_memory_fields), ("columbarium/head.nowhere", laid_columbarium_head_nowhere), ("columbarium/head.common", laid_columbarium_head_common), ("columbarium/head.own", laid_columbarium_head_own), ("unicode/utf8.first", laid_unicode_utf8_first)], narrowed := true }
def CacheBetweenUptoSaid : Prop := cacheBetweenUptoRow.holds Tryz.pinned (OpenSpec.upto cacheBetweenSpec)

/-- 'columbariumlaw29.CacheClean', WHERE WHAT IT READS IS OF BULK AT MOST 1048576: true; the input reads as it did. -/
def cacheCleanUptoRow : OpenClaim := { program := "ytifkphcaelafjaagreatdoor", sum := "20880e02ea566d59408da822ab01448e824b543ce09ae7c4dde087199e3ad393", func := "columbarium/columbariumlaw29.CacheClean", spec := "cacheClean", inPlace := ["internal/abi.NoEscape", "internal/bytealg.MakeNoZero", "internal/bytealg.CountString", "internal/bytealg.IndexByteString", "internal/bytealg.IndexString", "internal/bytealg.IndexByte", "internal/bytealg.Index"], unfollowed := true, recurses := true, named := ["columbarium/memory.fields", "columbarium/class.sizes", "unicode/utf8.first", "unicode/utf8.acceptRanges", "internal/bytealg.MaxLen", "columbarium/head.nowhere", "columbarium/head.common", "columbarium/head.own"], loops := true, apart := false, laid := [("columbarium/class.sizes", laid_columbarium_class_sizes), ("unicode/utf8.acceptRanges", laid_unicode_utf8_acceptRanges), ("columbarium/memory.fields", laid_columbarium_memory_fields), ("columbarium/head.nowhere", laid_columbarium_head_nowhere), ("columbarium/head.common", laid_columbarium_head_common), ("columbarium/head.own", laid_columbarium_head_own), ("unicode/utf8.first", laid_unicode_utf8_first)], narrowed := true }
def CacheCleanUptoSaid : Prop := cacheCleanUptoRow.holds Tryz.pinned (OpenSpec.upto cacheCleanSpec)

end Rows
end Go.Proofs.YtifkphcaelafjaaGreatDoor
