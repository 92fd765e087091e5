/-
  The walks of layer script's hex and of the reference's: bytes as digits. At most 2^40 bytes.
-/
import Derived.Test.YtifmgmiaeoiidaaGreatDoorScrA
namespace Go.Proofs.YtifmgmiaeoiidaaGreatDoor
open Go.RowKit Go.Colm Go.Scrp
set_option linter.unusedVariables false

abbrev digT : ByteArray := ⟨#[48, 49, 50, 51, 52, 53, 54, 55, 56, 57, 97, 98, 99, 100, 101, 102]⟩
theorem digT_all : ∀ n : Fin 16, (digT.data.toList[n.val]? = some (digB n.val)) := by decide +kernel
theorem digT_at {n : Nat} (h : n < 16) : digT[n]'(by show n < 16; exact h) = digB n := by
  have h1 := digT_all ⟨n, h⟩
  have h2 : digT.data.toList[n]'(by show n < 16; exact h) = digB n := by
    rw [List.getElem?_eq_getElem (by show n < 16; exact h)] at h1
    exact Option.some.inj h1
  exact h2
theorem digT_cut_all : ∀ n : Fin 16, digT.extract n.val (n.val + 1) = ⟨#[digB n.val]⟩ := by decide +kernel
theorem shr4 (c : UInt8) : ((c.toNat : Int) / 16) = ((c.toNat / 16 : Nat) : Int) := by omega
theorem and15_all : ∀ n : Fin 256, n.val &&& 15 = n.val % 16 := by decide +kernel

set_option maxHeartbeats 1600000 in
theorem rdigit_any (n : Nat) (h : n < 16) (w : World) : Calls Tryz.prog 40 #[.int .u8 (n : Int)] w fun e w' => e = .returned (.string ⟨#[digB n]⟩) ∧ w = w' := by
  have hc : digT.extract n (n + 1) = ⟨#[digB n]⟩ := digT_cut_all ⟨n, h⟩
  go_enter Tryz.func40, Tryz.ntmps40
  go_wp2_with fail
  go_ret
  exact ⟨by rw [← hc]; rfl, rfl⟩

set_option maxRecDepth 100000 in
set_option maxHeartbeats 4000000 in
theorem hex_any (l : List UInt8) (A : Option Addr) (c : Nat) (w : World) (hr : RowV w A (bytesV l)) (hl : l.length < 1099511627776) :
    Calls Tryz.prog 23 #[.slice A l.length c] w fun e w' => e = .returned (.string ⟨(hexL l).toArray⟩) ∧ Below w.heap.size w w' := by
  have HR := Lib.hid hr
  have hb0 : Lib.IsBuilder 63 5 w.heap.size w.heap.size [] (w.alloc (.cells #[.pointer none, .slice none 0 0] 63)) := Lib.fresh_isBuilder _ _ _
  have HB0 := Lib.hid hb0
  clear hr hb0
  go_enter Tryz.func23, Tryz.ntmps23
  go_wp2_with fail
  go_loopw [8] (fun i wr => ∃ k : Nat, k ≤ l.length ∧ i = .int .i64 k ∧ Hid (Lib.IsBuilder 63 5 w.heap.size w.heap.size (Lib.byteCells (hexL (l.take k))) wr) ∧ Below w.heap.size w wr) (fun i _ => l.length - (intOf i).toNat)
  case atStart => exact ⟨0, Nat.zero_le _, rfl, HB0, (Below.refl _ w).alloc (Nat.le_refl _) _⟩
  case round =>
    obtain ⟨k, hk, rfl, HI, hb⟩ := hrel
    by_cases hlt : k < l.length
    · obtain ⟨b, off, rfl, hc⟩ := (HR.out.below hb) k _ (show (bytesV l)[k]? = some (.int .u8 (l[k].toNat : Int)) by simp [bytesV, hlt])
      have hrg := byte_range l[k]
      have hlen := hexL_length (l.take k)
      rw [List.length_take] at hlen
      have hcl := UInt8.toNat_lt l[k]
      have hbc : (Lib.byteCells (hexL (l.take k))).length + 1 ≤ 140737488355328 := by rw [Lib.byteCells_length]; omega
      have hbc2 : (Lib.byteCells (hexL (l.take k) ++ [digB (l[k].toNat / 16)])).length + 1 ≤ 140737488355328 := by rw [Lib.byteCells_length, List.length_append, List.length_singleton]; omega
      have HD1 : Hid (Lib.byteCells (hexL (l.take k) ++ [digB (l[k].toNat / 16)]) = Lib.byteCells (hexL (l.take k)) ++ [.int .u8 ((digT[l[k].toNat / 16]'(by show _ < 16; omega)).toNat : Int)]) := Lib.hid (by
        rw [Lib.byteCells_append, digT_at (by omega)]
        rfl)
      have HD2 : Hid (Lib.byteCells (hexL (l.take (k + 1))) = Lib.byteCells (hexL (l.take k) ++ [digB (l[k].toNat / 16)]) ++ [.int .u8 ((digT[l[k].toNat % 16]'(by show _ < 16; omega)).toNat : Int)]) := Lib.hid (by
        rw [hexL_take hlt, digT_at (by omega), show hexB l[k] = [digB (l[k].toNat / 16)] ++ [digB (l[k].toNat % 16)] from rfl, ← List.append_assoc, Lib.byteCells_append (_ ++ _)]
        rfl)
      go_wp2_with fail
      refine (bld_WriteByte w.heap.size w.heap.size _ _ _ HI.out hbc hb.size).mono ?_
      rintro e w2 ⟨rfl, hI2, hb2⟩
      have HI2 : Hid (Lib.IsBuilder 63 5 w.heap.size w.heap.size (Lib.byteCells (hexL (l.take k) ++ [digB (l[k].toNat / 16)])) w2) := Lib.hid (by rw [HD1.out]; exact .inr hI2)
      have HB2 := Lib.hid (hb.trans hb2)
      clear hI2 hb2
      go_wp2_with fail
      refine (bld_WriteByte w.heap.size w.heap.size _ _ _ HI2.out hbc2 HB2.out.size).mono ?_
      rintro e w3 ⟨rfl, hI3, hb3⟩
      have HI3 : Hid (Lib.IsBuilder 63 5 w.heap.size w.heap.size (Lib.byteCells (hexL (l.take (k + 1)))) w3) := Lib.hid (by rw [HD2.out]; exact .inr hI3)
      have HB3 := Lib.hid (HB2.out.trans hb3)
      clear hI3 hb3
      go_wp2_with fail
      go_roundw
      case rel => exact ⟨k + 1, by omega, by go_num, HI3, HB3.out⟩
      case measure => simp [intOf]; omega
    · have HI2 : Hid (Lib.IsBuilder 63 5 w.heap.size w.heap.size (Lib.byteCells (hexL l)) wr) := Lib.hid (by
        have := HI.out
        rwa [List.take_of_length_le (by omega)] at this)
      go_wp2_with fail
      refine (bld_String w.heap.size w.heap.size _ _ HI2.out hb.size).mono ?_
      rintro e w2 ⟨rfl, hb2⟩
      go_wp2_with fail
      go_ret
      exact ⟨rfl, hb.trans hb2⟩

set_option maxRecDepth 100000 in
set_option maxHeartbeats 4000000 in
theorem rhex_any (s : ByteArray) (w : World) (hs : s.size ≤ 1099511627776) :
    Calls Tryz.prog 24 #[.string s] w fun e w' => e = .returned (.string ⟨(hexL s.data.toList).toArray⟩) ∧ Below w.heap.size w w' := by
  have HD : Hid (∀ (n : Nat), n < 16 → ∀ W, Calls Tryz.prog 40 #[.int .u8 (n : Int)] W fun e w' => e = .returned (.string ⟨#[digB n]⟩) ∧ w' = W) := Lib.hid (fun n h W => (rdigit_any n h W).mono fun _ _ ⟨a, e⟩ => ⟨a, e.symm⟩)
  go_enter Tryz.func24, Tryz.ntmps24
  go_wp2_with fail
  go_loopw [3, 4] (fun v i wr => ∃ (k : Nat) (sv : ByteArray), k ≤ s.size ∧ i = .int .i64 k ∧ v = .string sv ∧ sv.size = 2 * k ∧ Hid (sv = ⟨(hexL (s.data.toList.take k)).toArray⟩) ∧ Below w.heap.size w wr) (fun _ i _ => s.size - (intOf i).toNat)
  case atStart => exact ⟨0, ⟨#[]⟩, Nat.zero_le _, rfl, rfl, rfl, Lib.hid rfl, Below.refl _ _⟩
  case round =>
    obtain ⟨k, sv, hk, rfl, rfl, hsv, HS, hb⟩ := hrel
    have HB := Lib.hid hb
    clear hb
    by_cases hlt : k < s.size
    · have hcl := UInt8.toNat_lt s[k]
      obtain ⟨na, hna⟩ : ∃ na, na = s[k].toNat / 16 := ⟨_, rfl⟩
      obtain ⟨nb, hnb⟩ : ∃ nb, nb = s[k].toNat % 16 := ⟨_, rfl⟩
      have hd1 := HD.out na (by omega)
      have hd2 := HD.out nb (by omega)
      have g1 : (s[k].toNat : Int) / 16 = (na : Int) := by omega
      have g2 : (s[k].toNat : Int) % 16 = (nb : Int) := by omega
      have g3 : IntKind.u8.wrap (na : Int) = (na : Int) := IntWalk.u8_in _ (by omega)
      have g4 : IntKind.u8.wrap (nb : Int) = (nb : Int) := IntWalk.u8_in _ (by omega)
      have HN : Hid (sv ++ ⟨#[digB na]⟩ ++ ⟨#[digB nb]⟩ = ⟨(hexL (s.data.toList.take (k + 1))).toArray⟩) := Lib.hid (by
        have e1 := str_append (hexL (s.data.toList.take k)) [digB na]
        have e2 := str_append (hexL (s.data.toList.take k) ++ [digB na]) [digB nb]
        rw [HS.out, hexL_take (by rw [str_len]; exact hlt), str_get s k hlt, show hexB s[k] = [digB na] ++ [digB nb] from by rw [hna, hnb]; rfl]
        rw [show (⟨#[digB na]⟩ : ByteArray) = ⟨[digB na].toArray⟩ from rfl, e1, show (⟨#[digB nb]⟩ : ByteArray) = ⟨[digB nb].toArray⟩ from rfl, e2, List.append_assoc])
      obtain ⟨x1, hx1⟩ : ∃ x1, x1 = (⟨#[digB na]⟩ : ByteArray) := ⟨_, rfl⟩
      obtain ⟨x2, hx2⟩ : ∃ x2, x2 = (⟨#[digB nb]⟩ : ByteArray) := ⟨_, rfl⟩
      have hz1 : x1.size = 1 := by rw [hx1]; rfl
      have hz2 : x2.size = 1 := by rw [hx2]; rfl
      rw [← hx1, ← hx2] at HN
      simp only [← hx1] at hd1
      simp only [← hx2] at hd2
      have HD1 := Lib.hid hd1
      have HD2 := Lib.hid hd2
      have hsz : (sv ++ x1 ++ x2).size = 2 * (k + 1) := by simp [hsv, hz1, hz2]; omega
      clear hd1 hd2 hx1 hx2 HD HS hna hnb
      go_wp2_with fail
      go_quiet ((go_at_call 40; first | exact Calls.quiet_of_same (HD1.out _) | exact Calls.quiet_of_same (HD2.out _)))
      go_wp2_with fail
      go_roundw
      case rel => exact ⟨k + 1, _, by omega, by go_num, rfl, hsz, HN, below_drewN HB.out _⟩
      case measure => simp [intOf]; omega
    · have HS2 : Hid (sv = ⟨(hexL s.data.toList).toArray⟩) := Lib.hid (by
        have := HS.out
        rwa [List.take_of_length_le (by rw [str_len]; omega)] at this)
      go_wp2_with fail
      go_ret
      exact ⟨congrArg (fun v => Ending.returned (.string v)) HS2.out, HB.out⟩
end Go.Proofs.YtifmgmiaeoiidaaGreatDoor
