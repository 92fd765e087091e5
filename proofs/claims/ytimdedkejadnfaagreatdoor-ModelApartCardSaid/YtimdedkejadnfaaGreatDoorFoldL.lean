/-
  The walks of fold's Label and of the reference's, by themselves: which texts are labels. Texts of at most 2^46 bytes.
-/
import Derived.Test.YtimdedkejadnfaaGreatDoorFoldA
import Derived.Test.YtimdedkejadnfaaGreatDoorFoldQ
import Derived.IntWalk
namespace Go.Proofs.YtimdedkejadnfaaGreatDoor
open Go.RowKit Go.Foldp Go.Colm
set_option linter.unusedVariables false

theorem str_len (s : ByteArray) : s.data.toList.length = s.size := by simp
theorem str_get (s : ByteArray) (k : Nat) (h : k < s.size) : s.data.toList[k]'(by simpa using h) = s[k] := rfl

theorem labelE_len {l : List UInt8} (h : l.length < 1 ∨ 63 < l.length) : labelE l = 20 := by unfold labelE; rw [if_pos h]
theorem labelE_ok {l : List UInt8} (h : ¬ (l.length < 1 ∨ 63 < l.length)) (h2 : l.all okB = true) : labelE l = 0 := by unfold labelE; rw [if_neg h, if_pos h2]
theorem labelE_no {l : List UInt8} (h : ¬ (l.length < 1 ∨ 63 < l.length)) (h2 : l.all okB = false) : labelE l = 20 := by unfold labelE; rw [if_neg h, if_neg (by rw [h2]; simp)]
theorem okB_low {c : UInt8} (h : c.toNat ≤ 32) : okB c = false := by unfold okB; simp; omega
theorem okB_high {c : UInt8} (h : 126 < c.toNat) : okB c = false := by unfold okB; simp; omega
theorem okB_dot {c : UInt8} (h : c.toNat = 46) : okB c = false := by unfold okB; simp [h]
theorem okB_yes {c : UInt8} (h : ¬ c.toNat ≤ 32) (h2 : ¬ 126 < c.toNat) (h3 : ¬ c.toNat = 46) : okB c = true := by unfold okB; simp; omega

set_option maxHeartbeats 800000 in
theorem rlabel_any (s : ByteArray) (w : World) (hs : s.size ≤ 70368744177664) :
    Calls Tryz.prog 139 #[.string s] w fun e w' => e = .returned (.int .i64 (labelE s.data.toList)) ∧ w = w' := by
  by_cases h1 : s.size < 1
  · have E := Lib.hid (labelE_len (l := s.data.toList) (.inl (by simpa using h1)))
    go_enter Tryz.func139, Tryz.ntmps139
    go_wp2_with fail
    go_ret
    exact ⟨ret_int E.out.symm, rfl⟩
  · by_cases h2 : 63 < s.size
    · have E := Lib.hid (labelE_len (l := s.data.toList) (.inr (by simpa using h2)))
      go_enter Tryz.func139, Tryz.ntmps139
      go_wp2_with fail
      go_ret
      exact ⟨ret_int E.out.symm, rfl⟩
    · have hl : ¬ (s.data.toList.length < 1 ∨ 63 < s.data.toList.length) := by rw [str_len]; omega
      have HL := Lib.hid hl
      clear hl
      go_enter Tryz.func139, Tryz.ntmps139
      go_wp2_with fail
      go_loop [3] (fun i => ∃ k : Nat, k ≤ s.size ∧ i = .int .i64 k ∧ Hid (∀ j, j < k → (hj : j < s.size) → okB s[j] = true)) (fun i => s.size - (intOf i).toNat)
      case atStart => exact ⟨0, Nat.zero_le _, rfl, Lib.hid (fun j h => absurd h (by omega))⟩
      case round =>
        obtain ⟨k, hk, rfl, HO⟩ := hrel
        by_cases ha : k < s.size
        · by_cases c1 : s[k].toNat ≤ 32
          · have E := Lib.hid (labelE_no HL.out (all_false (k := k) (by simpa using ha) (okB_low c1)))
            go_wp2_with fail
            go_ret
            exact ⟨ret_int E.out.symm, rfl⟩
          · by_cases c2 : 126 < s[k].toNat
            · have E := Lib.hid (labelE_no HL.out (all_false (k := k) (by simpa using ha) (okB_high c2)))
              go_wp2_with fail
              go_ret
              exact ⟨ret_int E.out.symm, rfl⟩
            · by_cases c3 : s[k].toNat = 46
              · have E := Lib.hid (labelE_no HL.out (all_false (k := k) (by simpa using ha) (okB_dot c3)))
                have t3 : ((s[k].toNat : Int) == 46) = true := by rw [c3]; rfl
                clear c3
                go_wp2_with fail
                go_ret
                exact ⟨ret_int E.out.symm, rfl⟩
              · have t3 : ((s[k].toNat : Int) == 46) = false := by rw [beq_eq_false_iff_ne]; omega
                have ho := okB_yes c1 c2 c3
                have HO2 : Hid (∀ j, j < k + 1 → (hj : j < s.size) → okB s[j] = true) := Lib.hid fun j hj hj2 => by
                  by_cases e : j = k
                  · subst e
                    exact ho
                  · exact HO.out j (by omega) hj2
                clear ho c3
                go_wp2_with fail
                go_round
                case rel => exact ⟨k + 1, by omega, by go_num, HO2⟩
                case measure => simp [intOf]; omega
        · have E := Lib.hid (labelE_ok HL.out (all_true fun j hj => HO.out j (by rw [str_len] at hj; omega) (by simpa using hj)))
          go_wp2_with fail
          go_ret
          exact ⟨ret_int E.out.symm, rfl⟩

def okI (r : Int) : Bool := decide (33 ≤ r) && decide (r ≤ 126) && decide (r ≠ 46)
set_option maxHeartbeats 400000 in
theorem may_any (r : Int) (w : World) : Calls Tryz.prog 172 #[.int .i32 r] w fun e w' => e = .returned (.bool (okI r)) ∧ w = w' := by
  by_cases c1 : 33 ≤ r
  · by_cases c2 : r ≤ 126
    · by_cases c3 : r = 46
      · have E := Lib.hid (show okI r = false by unfold okI; simp [c3])
        have t3 : (r != 46) = false := by rw [bne_eq_false_iff_eq]; exact c3
        clear c3
        go_enter Tryz.func172, Tryz.ntmps172
        go_wp2_with fail
        go_ret
        exact ⟨ret_bool E.out.symm, rfl⟩
      · have E := Lib.hid (show okI r = true by unfold okI; simp; omega)
        have t3 : (r != 46) = true := by rw [bne_iff_ne]; exact c3
        clear c3
        go_enter Tryz.func172, Tryz.ntmps172
        go_wp2_with fail
        go_ret
        exact ⟨ret_bool E.out.symm, rfl⟩
    · have E := Lib.hid (show okI r = false by unfold okI; simp; omega)
      go_enter Tryz.func172, Tryz.ntmps172
      go_wp2_with fail
      go_ret
      exact ⟨ret_bool E.out.symm, rfl⟩
  · have E := Lib.hid (show okI r = false by unfold okI; simp; omega)
    go_enter Tryz.func172, Tryz.ntmps172
    go_wp2_with fail
    go_ret
    exact ⟨ret_bool E.out.symm, rfl⟩

theorem okI_byte (c : UInt8) : okI (c.toNat : Int) = okB c := by
  unfold okI okB
  rw [Bool.eq_iff_iff]
  simp
  omega
theorem okI_high (r : Nat) (h : 128 ≤ r) : okI (r : Int) = false := by unfold okI; simp; omega

set_option maxHeartbeats 800000 in
theorem all_any (s : ByteArray) (w : World) (hs : s.size ≤ 70368744177664) :
    Calls Tryz.prog 171 #[.string s, .func (.func 172) #[] #[]] w fun e w' => e = .returned (.bool (s.data.toList.all okB)) ∧ Below w.heap.size w w' := by
  go_enter Tryz.func171, Tryz.ntmps171
  go_wp2_with fail
  go_loopw [] (fun wr => ∃ pos : Nat, pos ≤ s.size ∧ wr.heap[w.heap.size]? = some (.stringIter s pos) ∧ Hid (∀ j, j < pos → (hj : j < s.size) → okB s[j] = true) ∧ Below w.heap.size w wr) (fun wr => s.size - wr.iterPos w.heap.size)
  case atStart =>
    refine ⟨0, Nat.zero_le _, ?_, Lib.hid (fun j h => absurd h (by omega)), (Below.refl _ w).alloc (Nat.le_refl _) _⟩
    simpa using World.iter_heap w s 0
  case round =>
    obtain ⟨pos, hpos, hit, HO, hbw⟩ := hrel
    by_cases hp : pos < s.size
    · by_cases ha : s[pos].toNat < 128
      · have hnx : ∀ ty, (Instr.next (.pointer (some ⟨w.heap.size, 0, none⟩)) true ty).run Tryz.prog wr = _ := fun ty => Lib.run_next_ascii_at wr w.heap.size s pos ty hit hp ha
        have hit2 := Lib.iterAt_heap wr w.heap.size s pos (pos + 1) hit
        have hbw2 := Lib.below_iterAt hbw (k := w.heap.size) (by omega) s (pos + 1)
        have cm := fun W => may_any (s[pos].toNat : Int) W
        rw [okI_byte] at cm
        have hmeas : wr.iterPos w.heap.size = pos := by simp only [World.iterPos, hit]
        have hmeas2 : (wr.iterAt w.heap.size s (pos + 1)).iterPos w.heap.size = pos + 1 := by simp only [World.iterPos, hit2]
        have Hm1 := Lib.hid hmeas
        have Hm2 := Lib.hid hmeas2
        have Hit2 := Lib.hid hit2
        have Cm := Lib.hid cm
        clear hmeas hmeas2 cm hit2
        by_cases c : okB s[pos] = true
        · have HO2 : Hid (∀ j, j < pos + 1 → (hj : j < s.size) → okB s[j] = true) := Lib.hid fun j hj hj2 => by
            by_cases e : j = pos
            · subst e
              exact c
            · exact HO.out j (by omega) hj2
          go_wp2_with fail
          refine (Cm.out _).mono ?_
          rintro e w2 ⟨rfl, rfl⟩
          go_wp2_with fail
          go_roundw
          case rel => exact ⟨pos + 1, by omega, Hit2.out, HO2, hbw2⟩
          case measure => rw [Hm1.out, Hm2.out]; omega
        · have c' : okB s[pos] = false := by simpa using c
          have E := Lib.hid (all_false (l := s.data.toList) (k := pos) (by simpa using hp) c')
          clear c
          go_wp2_with fail
          refine (Cm.out _).mono ?_
          rintro e w2 ⟨rfl, rfl⟩
          go_wp2_with fail
          go_ret
          exact ⟨ret_bool E.out.symm, hbw2⟩
      · have hd := decode_high s pos hp (by omega)
        have hnx : ∀ ty, (Instr.next (.pointer (some ⟨w.heap.size, 0, none⟩)) true ty).run Tryz.prog wr = _ := fun ty => Lib.run_next_any_at wr w.heap.size s pos ty hit hp
        have hbw2 := Lib.below_iterAt hbw (k := w.heap.size) (by omega) s (pos + (Utf8.decode s pos).2)
        have cm := fun W => may_any ((Utf8.decode s pos).1 : Int) W
        rw [okI_high _ hd.1] at cm
        have E := Lib.hid (all_false (l := s.data.toList) (k := pos) (by simpa using hp) (okB_high (show 126 < s[pos].toNat by omega)))
        have Cm := Lib.hid cm
        clear cm
        go_wp2_with fail
        refine (Cm.out _).mono ?_
        rintro e w2 ⟨rfl, rfl⟩
        go_wp2_with fail
        go_ret
        exact ⟨ret_bool E.out.symm, hbw2⟩
    · have hnx : ∀ ty, (Instr.next (.pointer (some ⟨w.heap.size, 0, none⟩)) true ty).run Tryz.prog wr = _ := fun ty => Lib.run_next_end_at wr w.heap.size s pos ty hit hp
      have E := Lib.hid (all_true (l := s.data.toList) fun j hj => HO.out j (by rw [str_len] at hj; omega) (by simpa using hj))
      go_wp2_with fail
      go_ret
      exact ⟨ret_bool E.out.symm, hbw⟩

set_option maxHeartbeats 800000 in
theorem label_is (s : ByteArray) (w : World) (hs : s.size ≤ 70368744177664) :
    Calls Tryz.prog 111 #[.string s] w fun e w' => e = .returned (.int .i64 (labelE s.data.toList)) ∧ Below w.heap.size w w' := by
  by_cases h1 : s.size < 1
  · have E := Lib.hid (labelE_len (l := s.data.toList) (.inl (by simpa using h1)))
    go_enter Tryz.func111, Tryz.ntmps111
    go_wp2_with fail
    go_ret
    exact ⟨ret_int E.out.symm, Below.refl _ _⟩
  · by_cases h2 : 63 < s.size
    · have E := Lib.hid (labelE_len (l := s.data.toList) (.inr (by simpa using h2)))
      go_enter Tryz.func111, Tryz.ntmps111
      go_wp2_with fail
      go_ret
      exact ⟨ret_int E.out.symm, Below.refl _ _⟩
    · have hl : ¬ (s.data.toList.length < 1 ∨ 63 < s.data.toList.length) := by rw [str_len]; omega
      have ca := fun W => all_any s W hs
      by_cases ho : s.data.toList.all okB = true
      · have E := Lib.hid (labelE_ok hl ho)
        rw [ho] at ca
        have Ca := Lib.hid ca
        clear ca ho hl
        go_enter Tryz.func111, Tryz.ntmps111
        go_wp2_with fail
        refine (Ca.out _).mono ?_
        rintro e w1 ⟨rfl, hb⟩
        go_wp2_with fail
        go_ret
        exact ⟨ret_int E.out.symm, hb⟩
      · have ho' : s.data.toList.all okB = false := by simpa using ho
        have E := Lib.hid (labelE_no hl ho')
        rw [ho'] at ca
        have Ca := Lib.hid ca
        clear ca ho ho' hl
        go_enter Tryz.func111, Tryz.ntmps111
        go_wp2_with fail
        refine (Ca.out _).mono ?_
        rintro e w1 ⟨rfl, hb⟩
        go_wp2_with fail
        go_ret
        exact ⟨ret_int E.out.symm, hb⟩

end Go.Proofs.YtimdedkejadnfaaGreatDoor
