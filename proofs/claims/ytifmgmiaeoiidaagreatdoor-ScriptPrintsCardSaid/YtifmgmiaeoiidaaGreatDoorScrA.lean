/-
  The walks of layer script's plain and of the reference's: is a text its own word? Texts of at most 2^46 bytes.
-/
import Derived.Test.YtifmgmiaeoiidaaGreatDoorBas
import Derived.Test.YtifmgmiaeoiidaaGreatDoorScrP
namespace Go.Proofs.YtifmgmiaeoiidaaGreatDoor
open Go.RowKit Go.Colm Go.Scrp
set_option linter.unusedVariables false

theorem head_nil {s : ByteArray} (h : s.size = 0) : headOk s.data.toList = false := by
  have : s.data.toList = [] := List.eq_nil_of_length_eq_zero (by simpa using h)
  rw [this]
  rfl
theorem head_at {s : ByteArray} (h : 0 < s.size) : headOk s.data.toList = decide (s[0].toNat ≠ 61) := by
  have e := str_get s 0 h
  rcases hl : s.data.toList with _ | ⟨c, r⟩
  · have h2 := str_len s
    rw [hl, List.length_nil] at h2
    omega
  · have e2 : s[0] = c := by
      rw [← e]
      simp [hl]
    rw [e2, headOk, Bool.eq_iff_iff]
    simp only [decide_eq_true_eq]
    constructor
    · intro h1 h2
      exact h1 (UInt8.toNat_inj.1 h2)
    · rintro h1 rfl
      exact h1 rfl
theorem empty_beq {s : ByteArray} (h : s.size = 0) : (s.toList == []) = true := by
  obtain ⟨⟨l⟩⟩ := s
  have : l = [] := List.eq_nil_of_length_eq_zero h
  subst this
  rw [ByteArray.toList_mk]
  rfl
theorem full_beq {s : ByteArray} (h : 0 < s.size) : (s.toList == []) = false := by
  obtain ⟨⟨l⟩⟩ := s
  have : l ≠ [] := by
    rintro rfl
    exact absurd h (by decide)
  rw [ByteArray.toList_mk]
  simpa using this

set_option maxHeartbeats 1600000 in
theorem plain_any (s : ByteArray) (w : World) (hs : s.size ≤ 70368744177664) :
    Calls Tryz.prog 19 #[.string s] w fun e w' => e = .returned (.bool (plainW s.data.toList)) ∧ Below w.heap.size w w' := by
  go_enter Tryz.func19, Tryz.ntmps19
  go_wp2_with fail
  go_loopw [] (fun wr => ∃ pos : Nat, pos ≤ s.size ∧ wr.heap[w.heap.size]? = some (.stringIter s pos) ∧ Hid (∀ j, j < pos → (hj : j < s.size) → plainB s[j] = true) ∧ Below w.heap.size w wr) (fun wr => s.size - wr.iterPos w.heap.size)
  case atStart =>
    refine ⟨0, Nat.zero_le _, ?_, Lib.hid (fun j h => absurd h (by omega)), (Below.refl _ w).alloc (Nat.le_refl _) _⟩
    simpa using World.iter_heap w s 0
  case round =>
    obtain ⟨pos, hpos, hit, HO, hbw⟩ := hrel
    by_cases hp : pos < s.size
    · by_cases ha : s[pos].toNat < 128
      · have hnx : ∀ ty, (Instr.next (.pointer (some ⟨w.heap.size, 0, none⟩)) true ty).run Tryz.prog wr = _ := fun ty => Lib.run_next_ascii_at wr w.heap.size s pos ty hit hp ha
        have hit2 := Lib.iterAt_heap wr w.heap.size s pos (pos + 1) hit
        have hbw2 := Lib.below_iterAt hbw (k := w.heap.size) (by omega) s (pos + 1)
        have hmeas : wr.iterPos w.heap.size = pos := by simp only [World.iterPos, hit]
        have hmeas2 : (wr.iterAt w.heap.size s (pos + 1)).iterPos w.heap.size = pos + 1 := by simp only [World.iterPos, hit2]
        have Hm1 := Lib.hid hmeas
        have Hm2 := Lib.hid hmeas2
        have Hit2 := Lib.hid hit2
        clear hmeas hmeas2 hit2
        by_cases c1 : s[pos].toNat < 33
        · have E := Lib.hid (plain_bad (s := s.data.toList) (k := pos) (by simpa using hp) (plainB_low c1))
          go_wp2_with fail
          go_ret
          exact ⟨ret_bool E.out.symm, hbw2⟩
        · by_cases c2 : 126 < s[pos].toNat
          · have E := Lib.hid (plain_bad (s := s.data.toList) (k := pos) (by simpa using hp) (plainB_high c2))
            go_wp2_with fail
            go_ret
            exact ⟨ret_bool E.out.symm, hbw2⟩
          · have ho := plainB_yes c1 c2
            have HO2 : Hid (∀ j, j < pos + 1 → (hj : j < s.size) → plainB s[j] = true) := Lib.hid fun j hj hj2 => by
              by_cases e : j = pos
              · subst e
                exact ho
              · exact HO.out j (by omega) hj2
            clear ho
            go_wp2_with fail
            go_roundw
            case rel => exact ⟨pos + 1, by omega, Hit2.out, HO2, hbw2⟩
            case measure => rw [Hm1.out, Hm2.out]; omega
      · have hd := decode_high s pos hp (by omega)
        have hnx : ∀ ty, (Instr.next (.pointer (some ⟨w.heap.size, 0, none⟩)) true ty).run Tryz.prog wr = _ := fun ty => Lib.run_next_any_at wr w.heap.size s pos ty hit hp
        have hbw2 := Lib.below_iterAt hbw (k := w.heap.size) (by omega) s (pos + (Utf8.decode s pos).2)
        have E := Lib.hid (plain_bad (s := s.data.toList) (k := pos) (by simpa using hp) (plainB_high (show 126 < s[pos].toNat by omega)))
        have hd1 := hd.1
        go_wp2_with fail
        go_ret
        exact ⟨ret_bool E.out.symm, hbw2⟩
    · have hnx : ∀ ty, (Instr.next (.pointer (some ⟨w.heap.size, 0, none⟩)) true ty).run Tryz.prog wr = _ := fun ty => Lib.run_next_end_at wr w.heap.size s pos ty hit hp
      have E := Lib.hid (plain_end (s := s.data.toList) fun j hj => HO.out j (by rw [str_len] at hj; omega) (by simpa using hj))
      by_cases h0 : 0 < s.size
      · have t1 := full_beq h0
        by_cases h61 : s[0].toNat = 61
        · have t2 : ((s[0].toNat : Int) != 61) = false := by rw [h61]; rfl
          have E2 : Hid (plainW s.data.toList = false) := Lib.hid (by rw [E.out, head_at h0, h61]; rfl)
          clear h61 E
          go_wp2_with fail
          go_ret
          exact ⟨ret_bool E2.out.symm, hbw⟩
        · have t2 : ((s[0].toNat : Int) != 61) = true := by rw [bne_iff_ne]; omega
          have E2 : Hid (plainW s.data.toList = true) := Lib.hid (by rw [E.out, head_at h0, decide_eq_true h61])
          clear h61 E
          go_wp2_with fail
          go_ret
          exact ⟨ret_bool E2.out.symm, hbw⟩
      · have t1 := empty_beq (s := s) (by omega)
        have E2 : Hid (plainW s.data.toList = false) := Lib.hid (by rw [E.out, head_nil (by omega)])
        clear E
        go_wp2_with fail
        go_ret
        exact ⟨ret_bool E2.out.symm, hbw⟩

set_option maxHeartbeats 1600000 in
theorem rplain_any (s : ByteArray) (w : World) (hs : s.size ≤ 70368744177664) :
    Calls Tryz.prog 21 #[.string s] w fun e w' => e = .returned (.bool (plainW s.data.toList)) ∧ w = w' := by
  go_enter Tryz.func21, Tryz.ntmps21
  go_wp2_with fail
  go_loop [3] (fun i => ∃ k : Nat, k ≤ s.size ∧ i = .int .i64 k ∧ Hid (∀ j, j < k → (hj : j < s.size) → plainB s[j] = true)) (fun i => s.size - (intOf i).toNat)
  case atStart => exact ⟨0, Nat.zero_le _, rfl, Lib.hid (fun j h => absurd h (by omega))⟩
  case round =>
    obtain ⟨k, hk, rfl, HO⟩ := hrel
    by_cases hp : k < s.size
    · by_cases c1 : s[k].toNat < 33
      · have E := Lib.hid (plain_bad (s := s.data.toList) (k := k) (by simpa using hp) (plainB_low c1))
        go_wp2_with fail
        go_ret
        exact ⟨ret_bool E.out.symm, rfl⟩
      · by_cases c2 : 126 < s[k].toNat
        · have E := Lib.hid (plain_bad (s := s.data.toList) (k := k) (by simpa using hp) (plainB_high c2))
          go_wp2_with fail
          go_ret
          exact ⟨ret_bool E.out.symm, rfl⟩
        · have ho := plainB_yes c1 c2
          have HO2 : Hid (∀ j, j < k + 1 → (hj : j < s.size) → plainB s[j] = true) := Lib.hid fun j hj hj2 => by
            by_cases e : j = k
            · subst e
              exact ho
            · exact HO.out j (by omega) hj2
          clear ho
          go_wp2_with fail
          go_round
          case rel => exact ⟨k + 1, by omega, by go_num, HO2⟩
          case measure => simp [intOf]; omega
    · have E := Lib.hid (plain_end (s := s.data.toList) fun j hj => HO.out j (by rw [str_len] at hj; omega) (by simpa using hj))
      by_cases h0 : 0 < s.size
      · by_cases h61 : s[0].toNat = 61
        · have t2 : ((s[0].toNat : Int) != 61) = false := by rw [h61]; rfl
          have E2 : Hid (plainW s.data.toList = false) := Lib.hid (by rw [E.out, head_at h0, h61]; rfl)
          clear h61 E
          go_wp2_with fail
          go_ret
          exact ⟨ret_bool E2.out.symm, rfl⟩
        · have t2 : ((s[0].toNat : Int) != 61) = true := by rw [bne_iff_ne]; omega
          have E2 : Hid (plainW s.data.toList = true) := Lib.hid (by rw [E.out, head_at h0, decide_eq_true h61])
          clear h61 E
          go_wp2_with fail
          go_ret
          exact ⟨ret_bool E2.out.symm, rfl⟩
      · have E2 : Hid (plainW s.data.toList = false) := Lib.hid (by rw [E.out, head_nil (by omega)])
        clear E
        go_wp2_with fail
        go_ret
        exact ⟨ret_bool E2.out.symm, rfl⟩
end Go.Proofs.YtifmgmiaeoiidaaGreatDoor
