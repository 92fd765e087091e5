/-
  The walks of the reference's value and unhex (layer script). Texts of at most 2^40 bytes.
-/
import Derived.Test.YtifmgmiaeoiidaaGreatDoorScrC
namespace Go.Scrp
theorem val_none {c : UInt8} (h : ∀ j, j < 16 → digB j ≠ c) : valN c = 16 := by
  have hall : ∀ n : Fin 256, (valN (UInt8.ofNat n.val) = 16 ∨ digB (valN (UInt8.ofNat n.val)) = UInt8.ofNat n.val) ∧ valN (UInt8.ofNat n.val) ≤ 16 := by decide +kernel
  have h1 := hall ⟨c.toNat, UInt8.toNat_lt c⟩
  simp only [UInt8.ofNat_toNat] at h1
  rcases h1.1 with h2 | h2
  · exact h2
  · by_cases h3 : valN c < 16
    · exact absurd h2 (h _ h3)
    · omega
theorem val_at {c : UInt8} {k : Nat} (hk : k < 16) (h : digB k = c) : valN c = k := by
  rw [← h]
  exact val_dig hk
theorem val_le (c : UInt8) : valN c ≤ 16 := by
  unfold valN
  split
  · omega
  · split
    · omega
    · exact Nat.le_refl _
end Go.Scrp
namespace Go.Proofs.YtifmgmiaeoiidaaGreatDoor
open Go.RowKit Go.Colm Go.Scrp
set_option linter.unusedVariables false

set_option maxRecDepth 100000 in
set_option maxHeartbeats 2000000 in
theorem rvalue_any (c : UInt8) (w : World) : Calls Tryz.prog 38 #[.int .u8 (c.toNat : Int)] w fun e w' => e = .returned (.int .u8 (valN c : Nat)) ∧ w = w' := by
  have HD : Hid (∀ (n : Nat), n < 16 → ∀ W, Calls Tryz.prog 40 #[.int .u8 (n : Int)] W fun e w' => e = .returned (.string ⟨#[digB n]⟩) ∧ W = w') := Lib.hid (fun n h W => rdigit_any n h W)
  go_enter Tryz.func38, Tryz.ntmps38
  go_wp2_with fail
  go_loop [3] (fun i => ∃ k : Nat, k ≤ 16 ∧ i = .int .u8 k ∧ Hid (∀ j, j < k → digB j ≠ c)) (fun i => 16 - (intOf i).toNat)
  case atStart => exact ⟨0, Nat.zero_le _, rfl, Lib.hid (fun j h => absurd h (by omega))⟩
  case round =>
    obtain ⟨k, hk, rfl, HO⟩ := hrel
    by_cases hlt : k < 16
    · have hd := HD.out k hlt
      obtain ⟨x, hx⟩ : ∃ x, x = (⟨#[digB k]⟩ : ByteArray) := ⟨_, rfl⟩
      have hz : x.size = 1 := by rw [hx]; rfl
      have hx0 : x[0]'(by omega) = digB k := by subst hx; rfl
      simp only [← hx] at hd
      have HDK := Lib.hid hd
      by_cases he : digB k = c
      · have t1 : (((x[0]'(by omega)).toNat : Int) == (c.toNat : Int)) = true := by rw [hx0, he]; simp
        have HE : Hid ((valN c : Nat) = k) := Lib.hid (val_at hlt he)
        clear hd hx hx0 he
        go_wp2_with fail
        refine (HDK.out _).mono ?_
        rintro e w2 ⟨rfl, rfl⟩
        go_wp2_with fail
        go_ret
        exact ⟨ret_int (by rw [HE.out]), rfl⟩
      · have t1 : (((x[0]'(by omega)).toNat : Int) == (c.toNat : Int)) = false := by
          rw [hx0, beq_eq_false_iff_ne]
          intro h
          exact he (UInt8.toNat_inj.1 (by omega))
        have HO2 : Hid (∀ j, j < k + 1 → digB j ≠ c) := Lib.hid fun j hj => by
          by_cases e : j = k
          · subst e
            exact he
          · exact HO.out j (by omega)
        clear hd hx hx0 he
        go_wp2_with fail
        refine (HDK.out _).mono ?_
        rintro e w2 ⟨rfl, rfl⟩
        go_wp2_with fail
        go_round
        case rel => exact ⟨k + 1, by omega, by go_num, HO2⟩
        case measure => simp [intOf]; omega
    · have HE : Hid ((valN c : Nat) = 16) := Lib.hid (val_none fun j hj => HO.out j (by omega))
      go_wp2_with fail
      go_ret
      exact ⟨ret_int (by rw [HE.out]; rfl), rfl⟩

/-- What comes of digits, as a text. -/
def RUnhexIt (w : World) (s : List UInt8) (e : Ending) (w' : World) : Prop :=
  (unhexL s = none → e = .returned (.tuple #[.string ⟨#[]⟩, .bool false])) ∧ (∀ b, unhexL s = some b → e = .returned (.tuple #[.string ⟨b.toArray⟩, .bool true])) ∧ Below w.heap.size w w'
theorem RUnhexIt.no {w w' : World} {s : List UInt8} (h : unhexL s = none) (hb : Below w.heap.size w w') : RUnhexIt w s (.returned (.tuple #[.string ⟨#[]⟩, .bool false])) w' :=
  ⟨fun _ => rfl, fun b hb => (by rw [h] at hb; cases hb), hb⟩
theorem RUnhexIt.yes {w w' : World} {s b : List UInt8} (h : unhexL s = some b) (hb : Below w.heap.size w w') : RUnhexIt w s (.returned (.tuple #[.string ⟨b.toArray⟩, .bool true])) w' :=
  ⟨fun h2 => (by rw [h] at h2; cases h2), fun b2 h2 => (by rw [h] at h2; cases h2; rfl), hb⟩

set_option maxRecDepth 100000 in
set_option maxHeartbeats 4000000 in
theorem runhex_any (s : ByteArray) (w : World) (hs : s.size ≤ 1099511627776) :
    Calls Tryz.prog 22 #[.string s] w (RUnhexIt w s.data.toList) := by
  obtain ⟨i0, hi, hz0, hz1, hz2⟩ := info_parts byte_info
  have hsl := str_len s
  have HI : Hid (∀ (c : UInt8) W, Calls Tryz.prog 38 #[.int .u8 (c.toNat : Int)] W fun e w' => e = .returned (.int .u8 (valN c : Nat)) ∧ w' = W) := Lib.hid (fun c W => (rvalue_any c W).mono fun _ _ ⟨a, e⟩ => ⟨a, e.symm⟩)
  by_cases hodd : s.size % 2 = 1
  · have t1 : (((s.size : Int) % 2) != 0) = true := by rw [show (s.size : Int) % 2 = 1 by omega]; rfl
    have HN := Lib.hid (unhex_odd s.data.toList (by omega))
    go_enter Tryz.func22, Tryz.ntmps22
    go_wp2_with fail
    go_ret2
    exact RUnhexIt.no HN.out (Below.refl _ _)
  · have hev : s.size % 2 = 0 := by omega
    have t1 : (((s.size : Int) % 2) != 0) = false := by rw [show (s.size : Int) % 2 = 0 by omega]; rfl
    go_enter Tryz.func22, Tryz.ntmps22
    go_wp2_with fail
    go_loopw [4, 5] (fun v i wr => ∃ (k : Nat) (done : List UInt8), k ≤ s.size ∧ k % 2 = 0 ∧ i = .int .i64 k ∧ Hid (HexLoop s.data.toList w k v done wr)) (fun _ i _ => s.size - (intOf i).toNat)
    case atStart => exact ⟨0, [], Nat.zero_le _, rfl, rfl, Lib.hid ⟨own_nil _ _ _ _, by simp, Below.refl _ _, rfl⟩⟩
    case round =>
      obtain ⟨k, done, hk, hk2, rfl, HL⟩ := hrel
      by_cases hlt : k < s.size
      · have hlt1 : k + 1 < s.size := by omega
        have hc1 := HI.out s[k]
        have hc2 := HI.out s[k + 1]
        have ek := str_get s k hlt
        have ek1 := str_get s (k + 1) hlt1
        have f1 : IntKind.i64.wrap ((k : Int) + 1) = ((k + 1 : Nat) : Int) := by rw [IntWalk.i64_in _ (by omega)]; omega
        have f2 : (0 : Int) ≤ (k : Int) + 1 := by omega
        have f3 : (k : Int) + 1 < (s.size : Int) := by omega
        have hl1 := val_le s[k]
        have hl2 := val_le s[k + 1]
        obtain ⟨b3, hb3⟩ : ∃ b3, b3 = UInt8.ofNat (16 * valN s[k] + valN s[k + 1]) := ⟨_, rfl⟩
        have hst : valN s[k] < 16 → valN s[k + 1] < 16 → unhexL s.data.toList = (unhexL (s.data.toList.drop (k + 2))).map ((done ++ [b3]) ++ ·) := fun h1 h2 => by
          rw [hb3]
          exact unhex_step HL.out.rest (by omega) (by rw [ek]; exact h1) (by rw [ek1]; exact h2)
        have hno : ¬ (valN s[k] < 16 ∧ valN s[k + 1] < 16) → unhexL s.data.toList = none := fun h => unhex_stop HL.out.rest (by omega) (by rw [ek, ek1]; exact h)
        have hbt : valN s[k] < 16 → valN s[k + 1] < 16 → ((b3.toNat : Nat) : Int) = (16 * (valN s[k] : Int) + (valN s[k + 1] : Int)) := fun h1 h2 => by
          rw [hb3, UInt8.toNat_ofNat']
          omega
        obtain ⟨x, hx⟩ : ∃ x, x = valN s[k] := ⟨_, rfl⟩
        obtain ⟨y, hy⟩ : ∃ y, y = valN s[k + 1] := ⟨_, rfl⟩
        simp only [← hx] at hc1 hl1 hst hno hbt
        simp only [← hy] at hc2 hl2 hst hno hbt
        have HC1 := Lib.hid hc1
        have HC2 := Lib.hid hc2
        have HST := Lib.hid hst
        have HNO := Lib.hid hno
        have HBT := Lib.hid hbt
        have HR := Lib.hid HL.out.row
        have HB := Lib.hid HL.out.below
        have hdl := HL.out.len
        have hsz := HB.out.size
        clear hc1 hc2 hx hy hb3 ek ek1 hst hno hbt
        by_cases hv1 : x < 16
        · by_cases hv2 : y < 16
          · have HBT2 := Lib.hid (HBT.out hv1 hv2)
            go_wp2_with fail
            go_quiet ((go_at_call 38; first | with_reducible exact Calls.quiet_of_same (HC1.out _) | with_reducible exact Calls.quiet_of_same (HC2.out _)))
            go_wp2_with (at_builtin; go_loud (refine wpList_append_own _ rfl _ _ 44 rfl w.heap.size 5 i0 (.int .u8 0) 1 1 Tryz.underlying44 hi hz0 hz1 hz2 rfl (by decide) u4 done.length (bytesV done) rfl ((own_drewN HR.out nq).alloc _) ⟨wr.heap.size, 0, none⟩ 1 1 [.int .u8 (16 * (x : Int) + (y : Int))] rfl rfl (cell_one_new _ _ _) (fun z hz => by simp at hz; subst hz; rfl) (by unfold maxLen; omega) (by omega) (by show w.heap.size ≤ _; simp; omega) ?_; intro v3 w3 hown3 hg3 _))
            have hb3 : Below w.heap.size w w3 := own_below ((own_drewN HR.out nq).alloc (.cells #[.int .u8 (16 * (x : Int) + (y : Int))] 5)) ((below_drewN HB.out nq).alloc hsz _) (by simp; omega) hg3
            have HN3 : Hid (HexLoop s.data.toList w (k + 2) v3 (done ++ [b3]) w3) := Lib.hid ⟨by
              rw [List.length_append, bytesV_append]
              have : bytesV [b3] = [.int .u8 (16 * (x : Int) + (y : Int))] := by simp only [bytesV, List.map_cons, List.map_nil, HBT2.out]
              rw [this]
              exact hown3, HST.out hv1 hv2, hb3, by simp; omega⟩
            clear hown3 hg3 hb3
            go_wp2_with fail
            go_roundw
            case rel => exact ⟨k + 2, done ++ [b3], by omega, by omega, by go_num, HN3⟩
            case measure => simp [intOf]; omega
          · have HE := Lib.hid (HNO.out (fun h => hv2 h.2))
            go_wp2_with fail
            go_quiet ((go_at_call 38; first | with_reducible exact Calls.quiet_of_same (HC1.out _) | with_reducible exact Calls.quiet_of_same (HC2.out _)))
            go_wp2_with fail
            go_ret2
            exact RUnhexIt.no HE.out (below_drewN HB.out _)
        · have HE := Lib.hid (HNO.out (fun h => hv1 h.1))
          go_wp2_with fail
          go_quiet ((go_at_call 38; first | with_reducible exact Calls.quiet_of_same (HC1.out _) | with_reducible exact Calls.quiet_of_same (HC2.out _)))
          go_wp2_with fail
          go_ret2
          exact RUnhexIt.no HE.out (below_drewN HB.out _)
      · have HE := Lib.hid (unhex_end HL.out.rest (by omega))
        have HB := Lib.hid HL.out.below
        obtain ⟨A, c, rfl, hcap, hsp, hrow⟩ := own_more HL.out.row
        have hrun := run_text (P := Tryz.prog) Tryz.underlying44 Tryz.underlying5 wr A done c hrow hsp 9 Tryz.underlying9
        clear hcap hsp hrow
        go_wp2_with fail
        go_ret2
        exact RUnhexIt.yes HE.out HB.out
end Go.Proofs.YtifmgmiaeoiidaaGreatDoor
