/-
  The walks of layer fold's letters and of the reference's: what each call answers, and what becomes of the world. Texts of at most 2^46 bytes.
-/
import Derived.Test.YtimdedkejadnfaaGreatDoorMem
import Derived.Test.YtimdedkejadnfaaGreatDoorBld
import Derived.Test.YtimdedkejadnfaaGreatDoorFoldP
import Derived.WalkSpells
import Derived.WalkLawsBesides
import Derived.BigQuiet
import Derived.Deep.QuietTactic
import Derived.Lib.Hide
import Derived.Laws.BytesArg
namespace Go.Proofs.YtimdedkejadnfaaGreatDoor
open Go.RowKit Go.Foldp Go.Colm

set_option maxHeartbeats 400000 in
theorem small_any (c : Int) (w : World) (h0 : 0 ≤ c) (h1 : c < 256) :
    Calls Tryz.prog 107 #[.int .u8 c] w fun e w' => e = .returned (.int .u8 (lowI c)) ∧ w = w' := by
  by_cases a : c < 65
  · have e := Lib.hid (show lowI c = c by unfold lowI; rw [if_neg (by omega)])
    go_enter Tryz.func107, Tryz.ntmps107
    go_wp2
    go_ret
    exact ⟨ret_int e.out.symm, rfl⟩
  · by_cases b : 90 < c
    · have e := Lib.hid (show lowI c = c by unfold lowI; rw [if_neg (by omega)])
      go_enter Tryz.func107, Tryz.ntmps107
      go_wp2
      go_ret
      exact ⟨ret_int e.out.symm, rfl⟩
    · have e := Lib.hid (show lowI c = c + 32 by unfold lowI; rw [if_pos (by omega)])
      go_enter Tryz.func107, Tryz.ntmps107
      go_wp2
      go_ret
      exact ⟨ret_int e.out.symm, rfl⟩

set_option maxHeartbeats 400000 in
theorem rlow_any (c : Int) (w : World) (h0 : 0 ≤ c) (h1 : c < 256) :
    Calls Tryz.prog 164 #[.int .u8 c] w fun e w' => e = .returned (.int .u8 (lowI c)) ∧ w = w' := by
  by_cases a : 65 ≤ c
  · by_cases b : c ≤ 90
    · have e := Lib.hid (show lowI c = c + 32 by unfold lowI; rw [if_pos (by omega)])
      go_enter Tryz.func164, Tryz.ntmps164
      go_wp2
      go_ret
      exact ⟨ret_int e.out.symm, rfl⟩
    · have e := Lib.hid (show lowI c = c by unfold lowI; rw [if_neg (by omega)])
      go_enter Tryz.func164, Tryz.ntmps164
      go_wp2
      go_ret
      exact ⟨ret_int e.out.symm, rfl⟩
  · have e := Lib.hid (show lowI c = c by unfold lowI; rw [if_neg (by omega)])
    go_enter Tryz.func164, Tryz.ntmps164
    go_wp2
    go_ret
    exact ⟨ret_int e.out.symm, rfl⟩

set_option maxHeartbeats 800000 in
theorem lower_any (s : ByteArray) (w : World) (hs : s.size ≤ 70368744177664) :
    Calls Tryz.prog 56 #[.string s] w fun e w' => e = .returned (.string ⟨(lowL s.data.toList).toArray⟩) ∧ Below w.heap.size w w' := by
  go_enter Tryz.func56, Tryz.ntmps56
  go_wp2_with fail
  refine (bld_Grow w.heap.size w.heap.size s.size _ (Nat.le_refl _) (heap_new _ _) (by simp) (by omega)).mono ?_
  rintro e w1 ⟨rfl, hI, hb⟩
  have hI1 : Lib.IsBuilder 220 5 w.heap.size w.heap.size [] w1 := .inr hI
  have hb1 : Below w.heap.size w w1 := ((Below.refl _ w).alloc (Nat.le_refl _) _).trans hb
  clear hI hb
  go_wp2_with fail
  go_loopw [10] (fun i wr => ∃ k : Nat, k ≤ s.size ∧ i = .int .i64 k ∧ Lib.IsBuilder 220 5 w.heap.size w.heap.size (Lib.byteCells (lowL (s.data.toList.take k))) wr ∧ Below w.heap.size w wr) (fun i _ => s.size - (intOf i).toNat)
  case atStart => exact ⟨0, Nat.zero_le _, rfl, hI1, hb1⟩
  case round =>
    obtain ⟨k, hk, rfl, hI, hb⟩ := hrel
    by_cases hlt : k < s.size
    · have hr := byte_range s[k]
      have hle : (Lib.byteCells (lowL (s.data.toList.take k))).length + 1 ≤ 140737488355328 := by
        rw [Lib.byteCells_length, lowL_length, List.length_take]; omega
      have hst : Lib.byteCells (lowL (s.data.toList.take (k + 1))) = Lib.byteCells (lowL (s.data.toList.take k)) ++ [.int .u8 (lowI (s[k].toNat : Int))] := by
        rw [lowL_take_succ _ _ (by simpa using hlt), Lib.byteCells_append, lowI_toNat]
        rfl
      have Hst := Lib.hid hst
      clear hst
      go_wp2_with fail
      refine (small_any _ _ hr.1 hr.2).mono ?_
      rintro e w2 ⟨rfl, rfl⟩
      go_wp2_with fail
      refine (bld_WriteByte w.heap.size w.heap.size _ _ _ hI hle hb.size).mono ?_
      rintro e w2 ⟨rfl, hI2, hb2⟩
      go_wp2_with fail
      go_roundw
      case rel => exact ⟨k + 1, by omega, by go_num, by rw [Hst.out]; exact .inr hI2, hb.trans hb2⟩
      case measure => simp [intOf]; omega
    · go_wp2_with fail
      refine (bld_String w.heap.size w.heap.size _ _ hI hb.size).mono ?_
      rintro e w2 ⟨rfl, hb2⟩
      go_wp2_with fail
      go_ret
      exact ⟨ret_str (by rw [List.take_of_length_le (by simp; omega)]), hb.trans hb2⟩

theorem byte_info : (Tryz.prog.info? 5).map (fun i => (i.zero, i.size, i.bytes)) = some (some (.int .u8 0), 1, 1) := by kernel_rfl

set_option maxHeartbeats 800000 in
theorem rlower_any (s : ByteArray) (w : World) (hs : s.size ≤ 70368744177664) :
    Calls Tryz.prog 131 #[.string s] w fun e w' => e = .returned (.string ⟨(lowL s.data.toList).toArray⟩) ∧ Below w.heap.size w w' := by
  obtain ⟨i0, hi, hz0, hz1, hz2⟩ := info_parts byte_info
  go_enter Tryz.func131, Tryz.ntmps131
  go_wp2_with fail
  go_loopw [3, 4] (fun v i wr => ∃ k : Nat, k ≤ s.size ∧ i = .int .i64 k ∧ wr.ownsRow w.heap.size 5 1 v k (bytesV (lowL (s.data.toList.take k))) ∧ Below w.heap.size w wr) (fun _ i _ => s.size - (intOf i).toNat)
  case atStart => exact ⟨0, Nat.zero_le _, rfl, own_nil _ _ _ _, Below.refl _ _⟩
  case round =>
    obtain ⟨k, hk, rfl, hown, hb⟩ := hrel
    have Hown := Lib.hid hown
    by_cases hlt : k < s.size
    · have hr := byte_range s[k]
      have hst : bytesV (lowL (s.data.toList.take (k + 1))) = bytesV (lowL (s.data.toList.take k)) ++ [.int .u8 (lowI (s[k].toNat : Int))] := by
        rw [lowL_take_succ _ _ (by simpa using hlt), bytesV, List.map_append, lowI_toNat]
        rfl
      have Hst := Lib.hid hst
      clear hst
      go_wp2_with fail
      refine (rlow_any _ _ hr.1 hr.2).mono ?_
      rintro e w2 ⟨rfl, rfl⟩
      have hsz := hb.size
      go_wp2_with (at_builtin; refine wpList_append_own _ rfl _ _ 31 rfl w.heap.size 5 i0 (.int .u8 0) 1 1 Tryz.underlying31 hi hz0 hz1 hz2 rfl (by decide) _ _ _ rfl (Hown.out.alloc _) ⟨wr.heap.size, 0, none⟩ 1 1 [.int .u8 (lowI (s[k].toNat : Int))] rfl rfl (cell_one_new _ _ _) (fun x hx => by simp at hx; subst hx; rfl) (by unfold maxLen; omega) (by omega) (by simp; omega) ?_; intro v' w3 hown3 hg3 _)
      have hb3 : Below w.heap.size w w3 := own_below (Hown.out.alloc (.cells #[.int .u8 (lowI (s[k].toNat : Int))] 5)) (hb.alloc hsz _) (by simp; omega) hg3
      go_wp2_with fail
      go_roundw
      case rel => exact ⟨k + 1, by omega, by go_num, by rw [Hst.out]; exact hown3, hb3⟩
      case measure => simp [intOf]; omega
    · obtain ⟨A, c, rfl, hrow⟩ := own_row hown
      have hk2 : k = s.size := by omega
      subst hk2
      have hl : lowL (s.data.toList.take s.size) = lowL s.data.toList := by rw [List.take_of_length_le (by simp)]
      rw [hl] at hrow
      have hA : ∀ a, A = some a → a.spot = none := by
        intro a ha
        subst ha
        rcases Hown.out.2 with ⟨h, _⟩ | ⟨g, cap, cur, h, _⟩
        · simp at h
        · simp only [Value.slice.injEq, Option.some.injEq] at h
          rw [h.1]
      have hrun := run_text (P := Tryz.prog) Tryz.underlying31 Tryz.underlying5 wr A (lowL s.data.toList) c hrow hA 9 Tryz.underlying9
      rw [lowL_length] at hrun
      have hn : s.data.toList.length = s.size := by simp
      rw [hn] at hrun
      go_wp2_with fail
      go_ret
      exact ⟨rfl, hb⟩

end Go.Proofs.YtimdedkejadnfaaGreatDoor
