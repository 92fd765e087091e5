/-
  The walk of wire's Put on labels that are a name: so many bytes as the name needs. No condition.
-/
import Derived.Test.YtfnpjcfaabbejaaWireW
namespace Go.Proofs.Ytfnpjcfaabbejaa
open Go.RowKit Go.Foldp Go.Colm Go.Wirep
set_option linter.unusedVariables false

/-- What Put answers: bytes, as many as the name needs, and no error. -/
def PutIt (w : World) (l : List (List UInt8)) (e : Ending) (w' : World) : Prop :=
  ∃ A c, e = .returned (.tuple #[.slice A (wireL l) c, .int .i64 0]) ∧ Below w.heap.size w w'
/-- What is carried from label to label. -/
structure PutLoop (l : List (List UInt8)) (w : World) (k : Nat) (v : Value) (bs : List UInt8) (wr : World) : Prop where
  row : wr.ownsRow w.heap.size 5 1 v bs.length (bytesV bs)
  len : bs.length + 1 = wireL (l.take k)
  below : Below w.heap.size w wr

set_option maxRecDepth 100000 in
set_option maxHeartbeats 4000000 in
theorem putN_any (l : List (List UInt8)) (A : Option Addr) (c : Nat) (w : World) (hr : RowV w A (labV l)) (hc : checkL l = 0) :
    Calls Try.prog 16 #[.slice A l.length c] w (PutIt w l) := by
  have h255 := checkL_wire hc
  have hlen := wireL_len l
  have hck := check_any l A c w hr (by omega) (fun s hs => by have := wireL_mem hs; omega)
  rw [hc] at hck
  have HCK := Lib.hid hck
  have HR := Lib.hid hr
  clear hr hc hck
  go_enter Try.func16, Try.ntmps16
  go_wp2_with fail
  refine HCK.out.mono ?_
  rintro e w2 ⟨rfl, hb2⟩
  have HP0 : Hid (PutLoop l w 0 (.slice none 0 0) [] w2) := Lib.hid ⟨own_nil _ _ _ _, by simp [wireL], hb2⟩
  clear hb2
  go_wp2_with fail
  go_loopw [5, 15] (fun v i wr => ∃ (k : Nat) (bs : List UInt8), k ≤ l.length ∧ i = .int .i64 k ∧ Hid (PutLoop l w k v bs wr)) (fun _ i _ => l.length - (intOf i).toNat)
  case atStart => exact ⟨0, [], Nat.zero_le _, rfl, HP0⟩
  case round =>
    obtain ⟨k, bs, hk, rfl, HP⟩ := hrel
    have hsz := HP.out.below.size
    have hbl := HP.out.len
    have hle := wireL_take_le l k
    by_cases hlt : k < l.length
    · obtain ⟨b, off, rfl, hc⟩ := labV_at (HR.out.below HP.out.below) hlt
      have hml := wireL_mem (List.getElem_mem hlt)
      have hlab := labelP_any w.heap.size u5 bs l[k] wr HP.out.row hsz (by omega) (by omega)
      have htk := wireL_take hlt
      obtain ⟨b2, hb2⟩ : ∃ b2, b2 = (bs ++ [UInt8.ofNat l[k].length]) ++ lowL l[k] := ⟨_, rfl⟩
      have hbl2 : b2.length + 1 = wireL (l.take (k + 1)) := by
        rw [hb2]
        simp only [List.length_append, List.length_cons, List.length_nil, lowL_length]
        omega
      rw [← hb2] at hlab
      have HN : Hid (∀ A4 c4 w4, w4.ownsRow w.heap.size 5 1 (.slice A4 b2.length c4) b2.length (bytesV b2) → KeptU w.heap.size wr w4 → PutLoop l w (k + 1) (.slice A4 b2.length c4) b2 w4) := Lib.hid fun A4 c4 w4 h4 hk4 => ⟨h4, hbl2, HP.out.below.trans (hk4.to_below hsz)⟩
      obtain ⟨sk, hsk⟩ : ∃ sk, sk = ByteArray.mk l[k].toArray := ⟨_, rfl⟩
      rw [← hsk] at hc hlab
      have HLAB := Lib.hid hlab
      clear hlab hsk hb2 hbl2 htk hml hle hbl
      go_wp2_with fail
      refine HLAB.out.mono ?_
      rintro e w4 ⟨A4, c4, rfl, hown4, hk4⟩
      have HP4 := Lib.hid (HN.out A4 c4 w4 hown4 hk4)
      clear hown4 hk4
      go_wp2_with fail
      go_roundw
      case rel => exact ⟨k + 1, b2, by omega, by go_num, HP4⟩
      case measure => simp [intOf]; omega
    · obtain rfl : k = l.length := by omega
      have hlaid := laid_any w.heap.size u5 bs ⟨wr.heap.size, 0, none⟩ 1 1 [0] (wr.alloc (.cells #[.int .u8 0] 5)) (HP.out.row.alloc _) rfl (cell_one_new wr (.int .u8 0) 5) (by simp; omega) (by omega)
      have hb3 : (bs ++ [0]).length = wireL l := by
        rw [List.take_length] at hbl
        simp
        omega
      rw [hb3] at hlaid
      have HL := Lib.hid hlaid
      clear hlaid hb3 hbl hle
      go_wp2_with fail
      refine HL.out.mono ?_
      rintro e w3 ⟨A3, c3, rfl, hown3, hk3⟩
      have HB3 : Hid (Below w.heap.size w w3) := Lib.hid ((HP.out.below.alloc hsz _).trans (hk3.to_below (by simp; omega)))
      clear hown3 hk3
      go_wp2_with fail
      go_ret2
      exact ⟨_, _, rfl, HB3.out⟩
end Go.Proofs.Ytfnpjcfaabbejaa
