/-
  The walks of layer mix's functions over bytes and texts: what each call answers, and what becomes of the world.
-/
import Derived.Test.YtpoioafchilmhaaMixA
import Derived.Test.YtpoioafchilmhaaMem
namespace Go.Proofs.Ytpoioafchilmhaa
open Go.RowKit Go.Mixp Go.Colm

theorem mBytes_take_succ (h : Nat) (l : List UInt8) (k : Nat) (hk : k < l.length) : mBytes h (l.take (k + 1)) = mStep (mBytes h (l.take k)) l[k].toNat := by
  rw [List.take_succ_eq_append_getElem hk, mBytes_snoc]

set_option maxHeartbeats 400000 in
theorem throughB_any (h : Int) (A : Option Addr) (l : List UInt8) (c : Nat) (w : World) (h0 : 0 ≤ h) (h1 : h < 4294967296) (hl : l.length ≤ 140737488355328) (hr : RowV w A (bytesV l)) :
    Calls Try.prog 23 #[.int .u32 h, .slice A l.length c] w fun e w' => e = .returned (.int .u32 (mBytes h.toNat l : Nat)) ∧ w = w' := by
  have Hr := Lib.hid hr
  clear hr
  obtain ⟨h, rfl⟩ := Int.eq_ofNat_of_zero_le h0
  have hh : h < 4294967296 := by omega
  simp only [Int.toNat_natCast]
  go_enter Try.func23, Try.ntmps23
  go_wp2
  go_loop [0, 8] (fun h' i => ∃ k : Nat, k ≤ l.length ∧ i = .int .i64 k ∧ h' = .int .u32 (mBytes h (l.take k) : Nat)) (fun _ i => l.length - (intOf i).toNat)
  case atStart => exact ⟨0, Nat.zero_le _, rfl, rfl⟩
  case round =>
    obtain ⟨k, hk, rfl, rfl⟩ := hrel
    have hlt := mBytes_lt hh (l.take k)
    by_cases hk2 : k < l.length
    · obtain ⟨b, off, rfl, hc⟩ := Hr.out.byte hk2
      have hs := Lib.hid (mBytes_take_succ h l k hk2)
      have hb := byte_range l[k]
      go_wp2_with (go_at_call 9; refine (step_any _ _ _ (by omega) (by omega) hb.1 hb.2).mono ?_; rintro e w' ⟨rfl, rfl⟩)
      go_round
      case rel => exact ⟨k + 1, by omega, by go_num, by rw [hs.out]⟩
      case measure => simp [intOf]; omega
    · go_wp2
      go_ret
      exact ⟨ret_int (by rw [List.take_of_length_le (by omega)]), rfl⟩

set_option maxHeartbeats 400000 in
theorem throughS_any (h : Int) (s : ByteArray) (w : World) (h0 : 0 ≤ h) (h1 : h < 4294967296) (hl : s.size ≤ 140737488355328) :
    Calls Try.prog 25 #[.int .u32 h, .string s] w fun e w' => e = .returned (.int .u32 (mBytes h.toNat s.data.toList : Nat)) ∧ w = w' := by
  obtain ⟨h, rfl⟩ := Int.eq_ofNat_of_zero_le h0
  have hh : h < 4294967296 := by omega
  simp only [Int.toNat_natCast]
  go_enter Try.func25, Try.ntmps25
  go_wp2
  go_loop [0, 8] (fun h' i => ∃ k : Nat, k ≤ s.size ∧ i = .int .i64 k ∧ h' = .int .u32 (mBytes h (s.data.toList.take k) : Nat)) (fun _ i => s.size - (intOf i).toNat)
  case atStart => exact ⟨0, Nat.zero_le _, rfl, rfl⟩
  case round =>
    obtain ⟨k, hk, rfl, rfl⟩ := hrel
    have hlt := mBytes_lt hh (s.data.toList.take k)
    by_cases hk2 : k < s.size
    · have hs : mBytes h (s.data.toList.take (k + 1)) = mStep (mBytes h (s.data.toList.take k)) s[k].toNat := by rw [take_snoc_str s k hk2, mBytes_snoc]
      have hs := Lib.hid hs
      have hb := byte_range s[k]
      go_wp2_with (go_at_call 9; refine (step_any _ _ _ (by omega) (by omega) hb.1 hb.2).mono ?_; rintro e w' ⟨rfl, rfl⟩)
      go_round
      case rel => exact ⟨k + 1, by omega, by go_num, by rw [hs.out]⟩
      case measure => simp [intOf]; omega
    · go_wp2
      go_ret
      exact ⟨ret_int (by rw [List.take_of_length_le (by simp; omega)]), rfl⟩

set_option maxHeartbeats 400000 in
theorem bytes_any (h : Int) (A : Option Addr) (l : List UInt8) (c : Nat) (w : World) (h0 : 0 ≤ h) (h1 : h < 4294967296) (hl : l.length ≤ 140737488355328) (hr : RowV w A (bytesV l)) :
    Calls Try.prog 11 #[.int .u32 h, .slice A l.length c] w fun e w' => e = .returned (.int .u32 (mBytes h.toNat l : Nat)) ∧ w = w' := by
  have Hr := Lib.hid hr
  clear hr
  go_enter Try.func11, Try.ntmps11
  go_wp2_with (go_at_call 23; refine (throughB_any _ _ _ _ _ h0 h1 hl Hr.out).mono ?_; rintro e w' ⟨rfl, rfl⟩)
  go_ret
  exact ⟨rfl, rfl⟩

set_option maxHeartbeats 400000 in
theorem steps_any (h : Int) (A : Option Addr) (l : List UInt8) (c : Nat) (w : World) (h0 : 0 ≤ h) (h1 : h < 4294967296) (hl : l.length ≤ 140737488355328) (hr : RowV w A (bytesV l)) :
    Calls Try.prog 24 #[.int .u32 h, .slice A l.length c] w fun e w' => e = .returned (.int .u32 (mBytes h.toNat l : Nat)) ∧ w = w' := by
  have Hr := Lib.hid hr
  clear hr
  go_enter Try.func24, Try.ntmps24
  go_wp2_with (go_at_call 23; refine (throughB_any _ _ _ _ _ h0 h1 hl Hr.out).mono ?_; rintro e w' ⟨rfl, rfl⟩)
  go_ret
  exact ⟨rfl, rfl⟩

set_option maxHeartbeats 400000 in
theorem rbytes_any (h : Int) (A : Option Addr) (l : List UInt8) (c : Nat) (w : World) (h0 : 0 ≤ h) (h1 : h < 4294967296) (hl : l.length ≤ 140737488355328) (hr : RowV w A (bytesV l)) :
    Calls Try.prog 12 #[.int .u32 h, .slice A l.length c] w fun e w' => e = .returned (.int .u32 (mBytes h.toNat l : Nat)) ∧ ∃ n, w' = w.drewN n := by
  have Hr := Lib.hid hr
  clear hr
  obtain ⟨h, rfl⟩ := Int.eq_ofNat_of_zero_le h0
  have hh : h < 4294967296 := by omega
  simp only [Int.toNat_natCast]
  go_enter Try.func12, Try.ntmps12
  go_wp2
  go_loopw [0, 5] (fun h' i wr => ∃ k m : Nat, k ≤ l.length ∧ i = .int .i64 k ∧ h' = .int .u32 (mBytes h (l.take k) : Nat) ∧ wr = w.drewN m) (fun _ i _ => l.length - (intOf i).toNat)
  case atStart => exact ⟨0, 0, Nat.zero_le _, rfl, rfl, rfl⟩
  case round =>
    obtain ⟨k, m, hk, rfl, rfl, rfl⟩ := hrel
    have hlt := mBytes_lt hh (l.take k)
    by_cases hk2 : k < l.length
    · obtain ⟨b, off, rfl, hc⟩ := Hr.out.byte hk2
      have hs := Lib.hid (mBytes_take_succ h l k hk2)
      have hb := byte_range l[k]
      go_wp2_with (go_at_call 10; refine (rstep_any _ _ _ (by omega) (by omega) hb.1 hb.2).mono ?_; rintro e w' ⟨rfl, n, rfl⟩)
      go_roundw
      case rel => exact ⟨k + 1, _, by omega, by go_num, by rw [hs.out], rfl⟩
      case measure => simp [intOf]; omega
    · go_wp2
      go_ret
      exact ⟨ret_int (by rw [List.take_of_length_le (by omega)]), _, rfl⟩

end Go.Proofs.Ytpoioafchilmhaa
