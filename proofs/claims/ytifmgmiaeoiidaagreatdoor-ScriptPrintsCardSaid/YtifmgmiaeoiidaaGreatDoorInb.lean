/-
  strings.IndexByte's contract of the library's shelf, laid at this program's own numbers. Nothing is walked here. No condition.
-/
import Derived.Shelf.Small.Strs
import Derived.Test.YtifmgmiaeoiidaaGreatDoorProg
namespace Go.Proofs.YtifmgmiaeoiidaaGreatDoor
open Go.Shelf
def inbRen : Go.Shelf.Ren := ⟨fun | 137 => 37 | 217 => 58 | 266 => 84 | n => n, fun | 3 => 3 | 5 => 5 | 9 => 9 | n => n, fun  | n => n⟩
theorem inbLays : Go.Proofs.Lays.n137 Tryz.prog inbRen := {
  mixed := by kernel_rfl
  f137 := Tryz.func37.trans (congrArg some (by kernel_rfl))
  f217 := Tryz.func58.trans (congrArg some (by kernel_rfl))
  f266 := Tryz.func84.trans (congrArg some (by kernel_rfl))
  t3 := Tryz.underlying3
  a3 := Tryz.isAgg3
  z3 := Tryz.sizeOf3
  v3 := Tryz.zeroValue3
  t5 := Tryz.underlying5
  a5 := Tryz.isAgg5
  z5 := Tryz.sizeOf5
  v5 := Tryz.zeroValue5
  t9 := Tryz.underlying9
  a9 := Tryz.isAgg9
  z9 := Tryz.sizeOf9
  v9 := Tryz.zeroValue9 }
open Go.RowKit in
theorem indexByte_any (s : ByteArray) (c : UInt8) (w : World) : Calls Tryz.prog 37 #[.string s, .int .u8 (c.toNat : Int)] w fun e w' => e = .returned (.int .i64 (Lib.indexByte s.data.toList c)) ∧ w' = w := by
  have := Any.strings_IndexByte inbLays s (c.toNat : Int) w
  rw [show ((c.toNat : Int)).toNat.toUInt8 = c by simp] at this
  exact this
end Go.Proofs.YtifmgmiaeoiidaaGreatDoor
