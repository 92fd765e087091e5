/-
  The walk of strings.CutPrefix of a text and some blanks. Fewer than 2^46 bytes.
-/
import Derived.Test.YtifmgmiaeoiidaaGreatDoorScrH
namespace Go.Proofs.YtifmgmiaeoiidaaGreatDoor
open Go.RowKit Go.Colm Go.Scrp
set_option linter.unusedVariables false

theorem prefix_take (p s : List UInt8) (h : p.length ≤ s.length) : p.isPrefixOf s = decide (s.take p.length = p) := by
  rw [Bool.eq_iff_iff, List.isPrefixOf_iff_prefix, decide_eq_true_iff, List.prefix_iff_eq_take]
  exact eq_comm
theorem prefix_long (p s : List UInt8) (h : ¬ p.length ≤ s.length) : p.isPrefixOf s = false := by
  rw [Bool.eq_false_iff]
  intro h2
  rw [List.isPrefixOf_iff_prefix] at h2
  exact h h2.length_le

set_option maxRecDepth 100000 in
set_option maxHeartbeats 4000000 in
theorem hasprefix_any (s p : List UInt8) (w : World) (hs : s.length ≤ 70368744177664) (hp : p.length ≤ 70368744177664) :
    Calls Tryz.prog 94 #[.string ⟨s.toArray⟩, .string ⟨p.toArray⟩] w fun e w' => e = .returned (.bool (p.isPrefixOf s)) ∧ w' = w := by
  obtain ⟨S, hS⟩ : ∃ S : ByteArray, S = ⟨s.toArray⟩ := ⟨_, rfl⟩
  obtain ⟨P, hP⟩ : ∃ S : ByteArray, S = ⟨p.toArray⟩ := ⟨_, rfl⟩
  have hSz : S.size = s.length := by rw [hS, str_size]
  have hPz : P.size = p.length := by rw [hP, str_size]
  rw [← hS, ← hP]
  by_cases h : p.length ≤ s.length
  · have hc : ((S.extract 0 P.size).toList == P.toList) = p.isPrefixOf s := by
      rw [prefix_take p s h, hPz]
      have e : S.extract 0 p.length = ⟨(s.take p.length).toArray⟩ := by
        rw [hS]
        apply ByteArray.ext
        simp
      rw [e, hP, str_beq]
    obtain ⟨q, hq⟩ : ∃ q, q = p.isPrefixOf s := ⟨_, rfl⟩
    rw [← hq] at hc ⊢
    have h2 : P.size ≤ S.size := by omega
    have h3 : S.size ≤ 70368744177664 := by omega
    clear hq hS hP h hSz hPz
    go_enter Tryz.func94, Tryz.ntmps94
    go_wp2_with fail
    go_ret
    exact ⟨rfl, rfl⟩
  · have hc := prefix_long p s h
    have h2 : ¬ P.size ≤ S.size := by omega
    have HC := Lib.hid hc
    have h3 : S.size ≤ 70368744177664 := by omega
    have h4 : P.size ≤ 70368744177664 := by omega
    clear hS hP h hc hSz hPz
    go_enter Tryz.func94, Tryz.ntmps94
    go_wp2_with fail
    go_ret
    exact ⟨ret_bool HC.out.symm, rfl⟩

set_option maxRecDepth 100000 in
set_option maxHeartbeats 4000000 in
theorem cutprefix_any (s p : List UInt8) (w : World) (hs : s.length ≤ 70368744177664) (hp : p.length ≤ 70368744177664) :
    Calls Tryz.prog 53 #[.string ⟨s.toArray⟩, .string ⟨p.toArray⟩] w fun e w' => e = .returned (.tuple #[.string ⟨(if p.isPrefixOf s = true then s.drop p.length else s).toArray⟩, .bool (p.isPrefixOf s)]) ∧ w' = w := by
  have hin : Calls Tryz.prog 72 #[.string ⟨s.toArray⟩, .string ⟨p.toArray⟩] w fun e w' => e = .returned (.tuple #[.string ⟨(if p.isPrefixOf s = true then s.drop p.length else s).toArray⟩, .bool (p.isPrefixOf s)]) ∧ w' = w := by
    have hh := hasprefix_any s p w hs hp
    obtain ⟨S, hS⟩ : ∃ S : ByteArray, S = ⟨s.toArray⟩ := ⟨_, rfl⟩
    obtain ⟨P, hP⟩ : ∃ S : ByteArray, S = ⟨p.toArray⟩ := ⟨_, rfl⟩
    have hSz : S.size = s.length := by rw [hS, str_size]
    have hPz : P.size = p.length := by rw [hP, str_size]
    rw [← hS, ← hP] at hh ⊢
    by_cases h : p.isPrefixOf s = true
    · have hle : p.length ≤ s.length := (List.isPrefixOf_iff_prefix.1 h).length_le
      have HE : Hid ((⟨(s.drop p.length).toArray⟩ : ByteArray) = S.extract P.size S.size) := Lib.hid (by
        rw [hPz, hSz, hS]
        apply ByteArray.ext
        apply Array.ext'
        simp only [ByteArray.data_extract, Array.toList_extract, List.extract_eq_take_drop]
        rw [List.take_of_length_le (by simp)])
      rw [h] at hh ⊢
      have HH := Lib.hid hh
      have h2 : P.size ≤ S.size := by omega
      have h3 : S.size ≤ 70368744177664 := by omega
      clear hh hS hP h hSz hPz hle
      simp only [if_true]
      go_enter Tryz.func72, Tryz.ntmps72
      go_wp2_with fail
      refine HH.out.mono ?_
      rintro e w2 ⟨rfl, rfl⟩
      go_wp2_with fail
      go_ret2
      exact ⟨by rw [HE.out]; rfl, rfl⟩
    · have h' : p.isPrefixOf s = false := Bool.eq_false_iff.2 h
      rw [h'] at hh ⊢
      have HH := Lib.hid hh
      have HS := Lib.hid hS
      have h3 : S.size ≤ 70368744177664 := by omega
      clear hh hS hP h h' hSz hPz
      simp only [Bool.false_eq_true, if_false]
      rw [← HS.out]
      go_enter Tryz.func72, Tryz.ntmps72
      go_wp2_with fail
      refine HH.out.mono ?_
      rintro e w2 ⟨rfl, rfl⟩
      go_wp2_with fail
      go_ret2
      exact ⟨rfl, rfl⟩
  obtain ⟨r, hr⟩ : ∃ r, r = (if p.isPrefixOf s = true then s.drop p.length else s) := ⟨_, rfl⟩
  obtain ⟨q, hq⟩ : ∃ q, q = p.isPrefixOf s := ⟨_, rfl⟩
  rw [← hr, ← hq] at hin ⊢
  have HIN := Lib.hid hin
  clear hin hr hq
  go_enter Tryz.func53, Tryz.ntmps53
  go_wp2_with fail
  refine HIN.out.mono ?_
  rintro e w2 ⟨rfl, rfl⟩
  go_wp2_with fail
  go_ret2
  exact ⟨rfl, rfl⟩
end Go.Proofs.YtifmgmiaeoiidaaGreatDoor
