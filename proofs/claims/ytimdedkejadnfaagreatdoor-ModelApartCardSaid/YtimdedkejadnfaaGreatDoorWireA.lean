/-
  The walks of how many bytes a name needs: the program's and the reference's. Names of at most 2^40 bytes.
-/
import Derived.Test.YtimdedkejadnfaaGreatDoorFoldL
import Derived.Test.YtimdedkejadnfaaGreatDoorKept
import Derived.Test.YtimdedkejadnfaaGreatDoorWireP
namespace Go.Proofs.YtimdedkejadnfaaGreatDoor
open Go.RowKit Go.Foldp Go.Colm Go.Wirep
set_option linter.unusedVariables false

/-- Labels as cells. -/
def labV (l : List (List UInt8)) : List Value := l.map fun s => .string ⟨s.toArray⟩
theorem labV_at {w : World} {A : Option Addr} {l : List (List UInt8)} (h : RowV w A (labV l)) {k : Nat} (hk : k < l.length) : ∃ b off, A = some ⟨b, off, none⟩ ∧ w.cell? ⟨b, off + k, none⟩ = some (.string ⟨l[k].toArray⟩) :=
  h k _ (by simp [labV, hk])
theorem labV_snoc (l : List (List UInt8)) (s : List UInt8) : labV (l ++ [s]) = labV l ++ [.string ⟨s.toArray⟩] := by simp [labV]
theorem labV_length (l : List (List UInt8)) : (labV l).length = l.length := by simp [labV]
theorem wireL_take {l : List (List UInt8)} {k : Nat} (hk : k < l.length) : wireL (l.take (k + 1)) = wireL (l.take k) + (l[k].length + 1) := by
  rw [List.take_succ_eq_append_getElem hk, wireL_snoc]
theorem wireL_take_le : ∀ (l : List (List UInt8)) (k : Nat), wireL (l.take k) ≤ wireL l
  | [], k => by simp
  | s :: r, 0 => by simp [wireL]; omega
  | s :: r, k + 1 => by
    have := wireL_take_le r k
    simp only [List.take_succ_cons, wireL]
    omega
theorem str_size (s : List UInt8) : (ByteArray.mk s.toArray).size = s.length := by
  show s.toArray.size = s.length
  simp

set_option maxHeartbeats 800000 in
theorem wire_any (l : List (List UInt8)) (A : Option Addr) (c : Nat) (w : World) (hr : RowV w A (labV l)) (hl : wireL l < 1099511627776) :
    Calls Tryz.prog 112 #[.slice A l.length c] w fun e w' => e = .returned (.int .i64 (wireL l : Nat)) ∧ w' = w := by
  have HR := Lib.hid hr
  have hlen := wireL_len l
  clear hr
  go_enter Tryz.func112, Tryz.ntmps112
  go_wp2_with fail
  go_loop [3, 8] (fun n i => ∃ k n' : Nat, k ≤ l.length ∧ i = .int .i64 k ∧ n = .int .i64 n' ∧ Hid (n' = wireL (l.take k)) ∧ n' < 1099511627776) (fun _ i => l.length - (intOf i).toNat)
  case atStart => exact ⟨0, 1, Nat.zero_le _, rfl, rfl, Lib.hid (by simp [wireL]), by omega⟩
  case round =>
    obtain ⟨k, n', hk, rfl, rfl, HN, hn⟩ := hrel
    by_cases hlt : k < l.length
    · obtain ⟨b, off, rfl, hc⟩ := labV_at HR.out hlt
      have hsz := str_size l[k]
      have htk := wireL_take hlt
      have hle := wireL_take_le l (k + 1)
      have hnn := HN.out
      have hlk : l[k].length < 1099511627776 := by omega
      have hnx : n' + (l[k].length + 1) < 1099511627776 := by omega
      have HN2 : Hid (n' + (l[k].length + 1) = wireL (l.take (k + 1))) := Lib.hid (by omega)
      clear htk hle hnn
      obtain ⟨sk, hsk⟩ : ∃ sk, sk = ByteArray.mk l[k].toArray := ⟨_, rfl⟩
      obtain ⟨m, hm⟩ : ∃ m, m = l[k].length := ⟨_, rfl⟩
      rw [← hsk] at hc hsz
      rw [← hm] at hsz hlk hnx HN2
      have hszi : (sk.size : Int) = m := by omega
      clear hsk hm hsz
      go_wp2_with fail
      go_round
      case rel => exact ⟨k + 1, n' + (m + 1), by omega, by go_num, by congr 1, HN2, by omega⟩
      case measure => simp [intOf]; omega
    · have hk2 : k = l.length := by omega
      have HN2 : Hid (n' = wireL l) := Lib.hid (by rw [HN.out, hk2, List.take_length])
      go_wp2_with fail
      go_ret
      exact ⟨ret_int (by rw [HN2.out]), rfl⟩

set_option maxHeartbeats 800000 in
theorem rwire_any (l : List (List UInt8)) (A : Option Addr) (c : Nat) (w : World) (hr : RowV w A (labV l)) (hl : wireL l < 1099511627776) :
    Calls Tryz.prog 188 #[.slice A l.length c] w fun e w' => e = .returned (.int .i64 (wireL l : Nat)) ∧ w' = w := by
  have HR := Lib.hid hr
  have hlen := wireL_len l
  clear hr
  go_enter Tryz.func188, Tryz.ntmps188
  go_wp2_with fail
  go_loop [3, 4] (fun n i => ∃ k n' : Nat, k ≤ l.length ∧ i = .int .i64 k ∧ n = .int .i64 n' ∧ Hid (n' = wireL (l.take k)) ∧ n' < 1099511627776) (fun _ i => l.length - (intOf i).toNat)
  case atStart => exact ⟨0, 1, Nat.zero_le _, rfl, rfl, Lib.hid (by simp [wireL]), by omega⟩
  case round =>
    obtain ⟨k, n', hk, rfl, rfl, HN, hn⟩ := hrel
    by_cases hlt : k < l.length
    · obtain ⟨b, off, rfl, hc⟩ := labV_at HR.out hlt
      have hsz := str_size l[k]
      have htk := wireL_take hlt
      have hle := wireL_take_le l (k + 1)
      have hnn := HN.out
      have hlk : l[k].length < 1099511627776 := by omega
      have hnx : n' + (l[k].length + 1) < 1099511627776 := by omega
      have HN2 : Hid (n' + (l[k].length + 1) = wireL (l.take (k + 1))) := Lib.hid (by omega)
      clear htk hle hnn
      obtain ⟨sk, hsk⟩ : ∃ sk, sk = ByteArray.mk l[k].toArray := ⟨_, rfl⟩
      obtain ⟨m, hm⟩ : ∃ m, m = l[k].length := ⟨_, rfl⟩
      rw [← hsk] at hc hsz
      rw [← hm] at hsz hlk hnx HN2
      have hszi : (sk.size : Int) = m := by omega
      clear hsk hm hsz
      go_wp2_with fail
      go_round
      case rel => exact ⟨k + 1, n' + (m + 1), by omega, by go_num, by congr 1; omega, HN2, by omega⟩
      case measure => simp [intOf]; omega
    · have hk2 : k = l.length := by omega
      have HN2 : Hid (n' = wireL l) := Lib.hid (by rw [HN.out, hk2, List.take_length])
      go_wp2_with fail
      go_ret
      exact ⟨ret_int (by rw [HN2.out]), rfl⟩

end Go.Proofs.YtimdedkejadnfaaGreatDoor
