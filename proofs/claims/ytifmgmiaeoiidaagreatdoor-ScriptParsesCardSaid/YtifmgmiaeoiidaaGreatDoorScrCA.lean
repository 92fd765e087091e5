/-
  The walks of the reference's parts, number, signed, fail and records (layer script). Texts of at most 2^40 bytes; numbers of at most 2^64 - 1, at least 9.
-/
import Derived.Test.YtifmgmiaeoiidaaGreatDoorScrAF
import Derived.Test.YtifmgmiaeoiidaaGreatDoorScrBB
namespace Go.Proofs.YtifmgmiaeoiidaaGreatDoor
open Go.RowKit Go.Colm Go.Scrp
set_option linter.unusedVariables false

/-- What the loop carries. -/
structure PartLoop (d : UInt8) (s : List UInt8) (w : World) (k from' : Nat) (v : Value) (done : List (List UInt8)) (wr : World) : Prop where
  row : wr.ownsRow w.heap.size 9 1 v done.length (txtV done)
  rest : sepL d s = done ++ sepL d (s.drop from')
  le : from' ≤ k ∧ k ≤ s.length
  no : ∀ j (h : j < s.length), from' ≤ j → j < k → s[j] ≠ d
  below : Below w.heap.size w wr
  many : done.length ≤ k
theorem part_cut {d : UInt8} {s : List UInt8} {k f : Nat} (hf : f ≤ k) (hk : k < s.length) (hd : s[k] = d) (hn : ∀ j (h : j < s.length), f ≤ j → j < k → s[j] ≠ d) : sepL d (s.drop f) = (s.drop f).take (k - f) :: sepL d (s.drop (k + 1)) := by
  have e : s.drop f = (s.drop f).take (k - f) ++ d :: s.drop (k + 1) := by
    conv => lhs; rw [← List.take_append_drop (k - f) (s.drop f)]
    congr 1
    rw [List.drop_drop, show f + (k - f) = k by omega, List.drop_eq_getElem_cons hk, hd]
  conv => lhs; rw [e]
  refine sep_part _ _ fun c hc => ?_
  obtain ⟨i, hi, rfl⟩ := List.mem_iff_getElem.1 hc
  rw [List.length_take, List.length_drop] at hi
  rw [List.getElem_take, List.getElem_drop]
  exact hn (f + i) (by omega) (by omega) (by omega)
theorem part_end {d : UInt8} {s : List UInt8} {f : Nat} (hn : ∀ j (h : j < s.length), f ≤ j → j < s.length → s[j] ≠ d) : sepL d (s.drop f) = [s.drop f] :=
  sep_end _ fun c hc => by
    obtain ⟨i, hi, rfl⟩ := List.mem_iff_getElem.1 hc
    rw [List.length_drop] at hi
    rw [List.getElem_drop]
    exact hn (f + i) (by omega) (by omega) (by omega)
theorem PartLoop.app {d : UInt8} {s : List UInt8} {w wr w3 : World} {k f : Nat} {v v' : Value} {done : List (List UInt8)} {D : ByteArray} (h : PartLoop d s w k f v done wr) (hk : k < s.length) (hd : s[k] = d) (hD : D = ⟨((s.drop f).take (k - f)).toArray⟩)
    (hown : w3.ownsRow w.heap.size 9 1 v' (done.length + 1) (txtV done ++ [.string D])) (hg : (wr.alloc (.cells #[.string D] 9)).grownBy w3 v.ownBlock) : PartLoop d s w (k + 1) (k + 1) v' (done ++ [(s.drop f).take (k - f)]) w3 := by
  have hb := h.below.size
  refine ⟨?_, ?_, ⟨Nat.le_refl _, hk⟩, fun j hj h1 h2 => by omega, ?_, by rw [List.length_append]; simp; have := h.many; omega⟩
  · rw [txtV_append, List.length_append]
    subst hD
    exact hown
  · rw [h.rest, part_cut h.le.1 hk hd h.no]
    simp
  · exact (h.below.alloc hb _).grown hg (by simp; omega) fun j e => own_from h.row e

set_option maxRecDepth 100000 in
set_option maxHeartbeats 4000000 in
theorem parts_any (d : UInt8) (t : ByteArray) (w : World) (hs : t.size ≤ 1099511627776) :
    Calls Tryz.prog 34 #[.string t, .int .u8 (d.toNat : Int)] w fun e w' => ∃ A c, e = .returned (.slice A (sepL d t.data.toList).length c) ∧ RowV w' A (txtV (sepL d t.data.toList)) ∧ (sepL d t.data.toList).length ≤ c ∧ Below w.heap.size w w' := by
  obtain ⟨i0, hi, hz0, hz1, hz2⟩ := info_parts str_info
  have hl := str_len t
  have HL0 : Hid (PartLoop d t.data.toList w 0 0 (.slice none 0 0) [] w) := Lib.hid ⟨own_nil _ _ _ _, by simp, ⟨Nat.le_refl _, Nat.zero_le _⟩, fun j h h1 h2 => absurd h2 (by omega), Below.refl _ _, Nat.le_refl _⟩
  go_enter Tryz.func34, Tryz.ntmps34
  go_wp2_with fail
  go_loopw [5, 6, 7] (fun v a i wr => ∃ (k f : Nat) (done : List (List UInt8)), k ≤ t.size ∧ f ≤ k ∧ i = .int .i64 k ∧ a = .int .i64 f ∧ Hid (PartLoop d t.data.toList w k f v done wr)) (fun _ _ i _ => t.size - (intOf i).toNat)
  case atStart => exact ⟨0, 0, [], Nat.zero_le _, Nat.le_refl _, rfl, rfl, HL0⟩
  case round =>
    obtain ⟨k, f, done, hk, hf, rfl, rfl, HC⟩ := hrel
    clear HL0
    by_cases hlt : k < t.size
    · have hg : t.data.toList[k]'(by omega) = t[k] := str_get t k hlt
      by_cases hd : t[k] = d
      · have te : ((t[k].toNat : Int) == (d.toNat : Int)) = true := by rw [hd, beq_iff_eq]
        have hD : t.extract f k = ⟨((t.data.toList.drop f).take (k - f)).toArray⟩ := by
          apply ByteArray.ext
          apply Array.ext'
          simp only [ByteArray.data_extract, Array.toList_extract, List.extract_eq_take_drop]
        have HDD := Lib.hid hD
        have HKD : Hid (t.data.toList[k]'(by omega) = d) := Lib.hid (hg.trans hd)
        have hm := HC.out.many
        have hbs := HC.out.below.size
        clear hD hg hd
        go_wp2_with (at_builtin; refine wpList_append_own_at _ rfl _ _ 71 rfl w.heap.size 9 i0 (.string ByteArray.empty) 1 16 Tryz.underlying71 hi hz0 hz1 hz2 rfl (by decide) _ done.length _ rfl (own_kept ((Kept.refl (fun _ => False) _).alloc _) HC.out.row fun _ _ => id) ⟨wr.heap.size, 0, none⟩ 1 1 [.string (t.extract f k)] rfl rfl (cell_one_new _ _ _) (strs_one _ (by simp [isStr])) (by unfold maxLen; omega) (by omega) (by simp; omega) ?_; intro v3 w3 hown3 hg3 _ _; have HN3 := Lib.hid (PartLoop.app HC.out (by omega) HKD.out HDD.out hown3 hg3); obtain ⟨A3, c3, rfl, _⟩ := own_more hown3; clear hown3 hg3)
        go_wp2_with fail
        go_roundw
        case rel => exact ⟨k + 1, k + 1, _, by omega, Nat.le_refl _, by go_num, by go_num, HN3⟩
        case measure => simp [intOf]; omega
      · have te : ((t[k].toNat : Int) == (d.toNat : Int)) = false := by
          rw [beq_eq_false_iff_ne]
          intro e
          exact hd (UInt8.toNat_inj.1 (by omega))
        have HN : Hid (PartLoop d t.data.toList w (k + 1) f _ done wr) := Lib.hid ⟨HC.out.row, HC.out.rest, ⟨by have := HC.out.le; omega, by omega⟩, fun j h h1 h2 => by
          by_cases e : j = k
          · subst e
            rw [hg]
            exact hd
          · exact HC.out.no j h h1 (by omega), HC.out.below, by have := HC.out.many; omega⟩
        clear hg hd
        go_wp2_with fail
        go_roundw
        case rel => exact ⟨k + 1, f, done, by omega, by omega, by go_num, rfl, HN⟩
        case measure => simp [intOf]; omega
    · have hk2 : k = t.size := by omega
      have hD : t.extract f t.size = ⟨(t.data.toList.drop f).toArray⟩ := by
        apply ByteArray.ext
        apply Array.ext'
        simp only [ByteArray.data_extract, Array.toList_extract, List.extract_eq_take_drop]
        rw [List.take_of_length_le (by simp)]
      have he : sepL d t.data.toList = done ++ [t.data.toList.drop f] := by
        rw [HC.out.rest, part_end fun j h h1 h2 => HC.out.no j h h1 (by omega)]
      have hm := HC.out.many
      have hbs := HC.out.below.size
      have HE := Lib.hid he
      have HDD := Lib.hid hD
      clear he hD
      go_wp2_with (at_builtin; refine wpList_append_own_at _ rfl _ _ 71 rfl w.heap.size 9 i0 (.string ByteArray.empty) 1 16 Tryz.underlying71 hi hz0 hz1 hz2 rfl (by decide) _ done.length _ rfl (own_kept ((Kept.refl (fun _ => False) _).alloc _) HC.out.row fun _ _ => id) ⟨wr.heap.size, 0, none⟩ 1 1 [.string (t.extract f t.size)] rfl rfl (cell_one_new _ _ _) (strs_one _ (by simp [isStr])) (by unfold maxLen; omega) (by omega) (by simp; omega) ?_; intro v3 w3 hown3 hg3 _ _; have HB3 := Lib.hid ((HC.out.below.alloc hbs (.cells #[.string (t.extract f t.size)] 9)).grown hg3 (by simp; omega) fun j e => own_from HC.out.row e); obtain ⟨A3, c3, rfl, hc3, _, hr3⟩ := own_more hown3; have HR3 := Lib.hid (And.intro hc3 hr3); clear hown3 hg3 hc3 hr3)
      go_wp2_with fail
      go_ret
      refine ⟨A3, c3, by rw [HE.out, List.length_append]; rfl, ?_, by rw [HE.out, List.length_append]; exact HR3.out.1, HB3.out⟩
      rw [HE.out, txtV_append]
      have h := HR3.out.2
      rw [HDD.out] at h
      exact h
end Go.Proofs.YtifmgmiaeoiidaaGreatDoor
namespace Go.Scrp
theorem rnumF_stop {most n : Nat} {c : UInt8} {r : List UInt8} (h : isDig c = false) : rnumF most n (c :: r) = none := by rw [rnumF, if_neg (by simp [h])]
theorem rnumF_big {most n : Nat} {c : UInt8} {r : List UInt8} (h : isDig c = true) (hm : most < 10 * n + dg8 c) : rnumF most n (c :: r) = none := by rw [rnumF, if_pos h, if_pos hm]
theorem rnumF_on {most n : Nat} {c : UInt8} {r : List UInt8} (h : isDig c = true) (hm : ¬ most < 10 * n + dg8 c) : rnumF most n (c :: r) = rnumF most (10 * n + dg8 c) r := by rw [rnumF, if_pos h, if_neg hm]
theorem head_get {s : List UInt8} (h : 0 < s.length) : s.head? = some s[0] := by
  cases s with
  | nil => simp at h
  | cons c r => rfl
end Go.Scrp
namespace Go.Proofs.YtifmgmiaeoiidaaGreatDoor
open Go.RowKit Go.Colm Go.Scrp
set_option linter.unusedVariables false

set_option maxRecDepth 100000 in
set_option maxHeartbeats 4000000 in
theorem rnumber_any (t : ByteArray) (most : Nat) (w : World) (h9 : 9 ≤ most) (hm : most ≤ 18446744073709551615) (hs : t.size ≤ 1099511627776) :
    Calls Tryz.prog 78 #[.string t, .int .u64 (most : Int)] w fun e w' => e = .returned (.tuple #[.int .u64 ((numL t.data.toList most).getD 0 : Nat), .bool (numL t.data.toList most).isSome]) ∧ Below w.heap.size w w' := by
  have hl := str_len t
  have HR : Hid (numL t.data.toList most = rnumL t.data.toList most) := Lib.hid (rnum_eq hm).symm
  by_cases h0 : t.size = 0
  · have t0 : ((t.size : Int) == 0) = true := by rw [beq_iff_eq]; omega
    have HN : Hid (numL t.data.toList most = none) := Lib.hid (by rw [HR.out, rnumL, if_pos (.inl (by omega))])
    clear h0
    go_enter Tryz.func78, Tryz.ntmps78
    go_wp2_with fail
    go_ret2
    exact ⟨by rw [HN.out]; rfl, Below.refl _ _⟩
  have t0 : ((t.size : Int) == 0) = false := by rw [beq_eq_false_iff_ne]; omega
  by_cases h20 : 20 < t.size
  · have HN : Hid (numL t.data.toList most = none) := Lib.hid (by rw [HR.out, rnumL, if_pos (.inr (.inl (by omega)))])
    go_enter Tryz.func78, Tryz.ntmps78
    go_wp2_with fail
    go_ret2
    exact ⟨by rw [HN.out]; rfl, Below.refl _ _⟩
  have hpos : 0 < t.size := by omega
  have hg0 := str_get t 0 hpos
  have hhd := head_get (s := t.data.toList) (by omega)
  rw [hg0] at hhd
  by_cases h1 : 1 < t.size
  · by_cases h48 : t[0].toNat = 48
    · have t48 : ((t[0].toNat : Int) == 48) = true := by rw [beq_iff_eq]; omega
      have HN : Hid (numL t.data.toList most = none) := Lib.hid (by rw [HR.out, rnumL, if_pos (.inr (.inr ⟨by omega, by rw [hhd, show t[0] = 48 from UInt8.toNat_inj.1 h48]⟩))])
      clear hhd hg0 h48
      go_enter Tryz.func78, Tryz.ntmps78
      go_wp2_with fail
      go_ret2
      exact ⟨by rw [HN.out]; rfl, Below.refl _ _⟩
    · have t48 : ((t[0].toNat : Int) == 48) = false := by rw [beq_eq_false_iff_ne]; omega
      have HRF : Hid (numL t.data.toList most = rnumF most 0 t.data.toList) := Lib.hid (by
        rw [HR.out, rnumL, if_neg]
        rintro (h | h | ⟨_, h⟩)
        · omega
        · omega
        · rw [hhd] at h
          injection h with h
          exact h48 (by rw [h]; rfl))
      clear hhd hg0 h48 HR
      go_enter Tryz.func78, Tryz.ntmps78
      go_wp2_with fail
      go_loop [6, 7] (fun v i => ∃ k n : Nat, k ≤ t.size ∧ n ≤ most ∧ v = .int .u64 (n : Int) ∧ i = .int .i64 (k : Int) ∧ Hid (numL t.data.toList most = rnumF most n (t.data.toList.drop k))) (fun _ i => t.size - (intOf i).toNat)
      case atStart => exact ⟨0, 0, Nat.zero_le _, Nat.zero_le _, rfl, rfl, HRF⟩
      case round =>
        obtain ⟨k, n, hk, hn, rfl, rfl, HC⟩ := hrel
        clear HRF
        by_cases hlt : k < t.size
        · have hg := str_get t k hlt
          have hdr : t.data.toList.drop k = t[k] :: t.data.toList.drop (k + 1) := by
            rw [List.drop_eq_getElem_cons (by omega), hg]
          have hd8 : dg8 t[k] = t[k].toNat - 48 := rfl
          by_cases hlo : t[k].toNat < 48
          · have HN : Hid (numL t.data.toList most = none) := Lib.hid (by rw [HC.out, hdr, rnumF_stop (by simp [isDig]; omega)])
            clear hg hdr hd8
            go_wp2_with fail
            go_ret2
            exact ⟨by rw [HN.out]; rfl, Below.refl _ _⟩
          by_cases hhi : 57 < t[k].toNat
          · have HN : Hid (numL t.data.toList most = none) := Lib.hid (by rw [HC.out, hdr, rnumF_stop (by simp [isDig]; omega)])
            clear hg hdr hd8
            go_wp2_with fail
            go_ret2
            exact ⟨by rw [HN.out]; rfl, Below.refl _ _⟩
          have hdig : isDig t[k] = true := isDig_iff.2 ⟨by omega, by omega⟩
          obtain ⟨d, hd⟩ : ∃ d : Nat, t[k].toNat = d + 48 := ⟨t[k].toNat - 48, by omega⟩
          have hdd : dg8 t[k] = d := by omega
          by_cases hov : most / 10 < n
          · have HN : Hid (numL t.data.toList most = none) := Lib.hid (by rw [HC.out, hdr, rnumF_big hdig (by omega)])
            clear hg hdr hd8 hdig hdd
            go_wp2_with fail
            go_ret2
            exact ⟨by rw [HN.out]; rfl, Below.refl _ _⟩
          by_cases hov2 : most < 10 * n + d
          · have HN : Hid (numL t.data.toList most = none) := Lib.hid (by rw [HC.out, hdr, rnumF_big hdig (by omega)])
            clear hg hdr hd8 hdig hdd
            go_wp2_with fail
            go_ret2
            exact ⟨by rw [HN.out]; rfl, Below.refl _ _⟩
          have HN : Hid (numL t.data.toList most = rnumF most (10 * n + d) (t.data.toList.drop (k + 1))) := Lib.hid (by rw [HC.out, hdr, rnumF_on hdig (by omega), hdd])
          clear hg hdr hd8 hdig hdd
          go_wp2_with fail
          go_round
          case rel => exact ⟨k + 1, 10 * n + d, by omega, by omega, by go_num, by go_num, HN⟩
          case measure => simp [intOf]; omega
        · have hk2 : k = t.size := by omega
          have HN : Hid (numL t.data.toList most = some n) := Lib.hid (by rw [HC.out, List.drop_eq_nil_of_le (by omega)]; rfl)
          clear HC
          go_wp2_with fail
          go_ret2
          exact ⟨by rw [HN.out]; rfl, Below.refl _ _⟩
  · have HRF : Hid (numL t.data.toList most = rnumF most 0 t.data.toList) := Lib.hid (by
      rw [HR.out, rnumL, if_neg]
      rintro (h | h | ⟨h, _⟩) <;> omega)
    clear hhd hg0 HR
    go_enter Tryz.func78, Tryz.ntmps78
    go_wp2_with fail
    go_loop [6, 7] (fun v i => ∃ k n : Nat, k ≤ t.size ∧ n ≤ most ∧ v = .int .u64 (n : Int) ∧ i = .int .i64 (k : Int) ∧ Hid (numL t.data.toList most = rnumF most n (t.data.toList.drop k))) (fun _ i => t.size - (intOf i).toNat)
    case atStart => exact ⟨0, 0, Nat.zero_le _, Nat.zero_le _, rfl, rfl, HRF⟩
    case round =>
      obtain ⟨k, n, hk, hn, rfl, rfl, HC⟩ := hrel
      clear HRF
      by_cases hlt : k < t.size
      · have hg := str_get t k hlt
        have hdr : t.data.toList.drop k = t[k] :: t.data.toList.drop (k + 1) := by
          rw [List.drop_eq_getElem_cons (by omega), hg]
        have hd8 : dg8 t[k] = t[k].toNat - 48 := rfl
        by_cases hlo : t[k].toNat < 48
        · have HN : Hid (numL t.data.toList most = none) := Lib.hid (by rw [HC.out, hdr, rnumF_stop (by simp [isDig]; omega)])
          clear hg hdr hd8
          go_wp2_with fail
          go_ret2
          exact ⟨by rw [HN.out]; rfl, Below.refl _ _⟩
        by_cases hhi : 57 < t[k].toNat
        · have HN : Hid (numL t.data.toList most = none) := Lib.hid (by rw [HC.out, hdr, rnumF_stop (by simp [isDig]; omega)])
          clear hg hdr hd8
          go_wp2_with fail
          go_ret2
          exact ⟨by rw [HN.out]; rfl, Below.refl _ _⟩
        have hdig : isDig t[k] = true := isDig_iff.2 ⟨by omega, by omega⟩
        obtain ⟨d, hd⟩ : ∃ d : Nat, t[k].toNat = d + 48 := ⟨t[k].toNat - 48, by omega⟩
        have hdd : dg8 t[k] = d := by omega
        by_cases hov : most / 10 < n
        · have HN : Hid (numL t.data.toList most = none) := Lib.hid (by rw [HC.out, hdr, rnumF_big hdig (by omega)])
          clear hg hdr hd8 hdig hdd
          go_wp2_with fail
          go_ret2
          exact ⟨by rw [HN.out]; rfl, Below.refl _ _⟩
        by_cases hov2 : most < 10 * n + d
        · have HN : Hid (numL t.data.toList most = none) := Lib.hid (by rw [HC.out, hdr, rnumF_big hdig (by omega)])
          clear hg hdr hd8 hdig hdd
          go_wp2_with fail
          go_ret2
          exact ⟨by rw [HN.out]; rfl, Below.refl _ _⟩
        have HN : Hid (numL t.data.toList most = rnumF most (10 * n + d) (t.data.toList.drop (k + 1))) := Lib.hid (by rw [HC.out, hdr, rnumF_on hdig (by omega), hdd])
        clear hg hdr hd8 hdig hdd
        go_wp2_with fail
        go_round
        case rel => exact ⟨k + 1, 10 * n + d, by omega, by omega, by go_num, by go_num, HN⟩
        case measure => simp [intOf]; omega
      · have hk2 : k = t.size := by omega
        have HN : Hid (numL t.data.toList most = some n) := Lib.hid (by rw [HC.out, List.drop_eq_nil_of_le (by omega)]; rfl)
        clear HC
        go_wp2_with fail
        go_ret2
        exact ⟨by rw [HN.out]; rfl, Below.refl _ _⟩

set_option maxRecDepth 100000 in
set_option maxHeartbeats 4000000 in
theorem rsigned_any (t : ByteArray) (w : World) (hs : t.size ≤ 1099511627776) :
    Calls Tryz.prog 80 #[.string t] w fun e w' => ∃ v : Int, e = .returned (.tuple #[.int .i64 v, .bool (codeL t.data.toList).isSome]) ∧ (∀ u, codeL t.data.toList = some u → v = u) ∧ Below w.heap.size w w' := by
  have hl := str_len t
  by_cases h45 : t.data.toList.head? = some 45
  · have hpos : 0 < t.size := by
      rcases Nat.eq_zero_or_pos t.size with h | h
      · rw [List.eq_nil_of_length_eq_zero (by omega : t.data.toList.length = 0)] at h45
        cases h45
      · exact h
    have hg0 := str_get t 0 hpos
    have hhd := head_get (s := t.data.toList) (by omega)
    rw [hg0, h45] at hhd
    have h0 : t[0] = 45 := by injection hhd with h; exact h.symm
    have t45 : ((t[0].toNat : Int) == 45) = true := by rw [beq_iff_eq, h0]; rfl
    have hdr : t.data.toList = 45 :: t.data.toList.drop 1 := by
      conv => lhs; rw [← List.drop_zero (l := t.data.toList), List.drop_eq_getElem_cons (by omega), hg0, h0]
    obtain ⟨x, hx⟩ : ∃ x : ByteArray, x = t.extract 1 t.size := ⟨_, rfl⟩
    have hxl : x.data.toList = t.data.toList.drop 1 := by
      rw [hx]
      simp only [ByteArray.data_extract, Array.toList_extract, List.extract_eq_take_drop]
      rw [List.take_of_length_le (by simp)]
    have hxs : x.size ≤ 1099511627776 := by
      have := str_len x
      rw [hxl, List.length_drop] at this
      omega
    have hnum := fun W => rnumber_any x 9223372036854775808 W (by omega) (by omega) hxs
    have HX := Lib.hid hx
    have hcode := code_neg x.data.toList
    rw [hxl, ← hdr] at hcode
    rw [hxl] at hnum
    obtain ⟨nu, hnu⟩ : ∃ q, q = numL (t.data.toList.drop 1) 9223372036854775808 := ⟨_, rfl⟩
    simp only [← hnu] at hnum hcode
    obtain ⟨cc, hcc⟩ : ∃ q, q = codeL t.data.toList := ⟨_, rfl⟩
    rw [← hcc] at hcode ⊢
    have hle : ∀ u, nu = some u → u ≤ 9223372036854775808 := fun u e => by
      rw [hnu] at e
      exact ((numL_iff (by omega)).1 e).2.1
    have HN := Lib.hid hnum
    have HC := Lib.hid hcode
    clear hnum hcode hcc hnu hxl hdr h45 hhd hg0 h0 hx
    cases nu with
    | none =>
      have HC : Hid (cc = none) := Lib.hid HC.out
      clear hle
      go_enter Tryz.func80, Tryz.ntmps80
      go_wp2_with fail
      rw [← HX.out]
      refine (HN.out _).mono ?_
      rintro e w2 ⟨rfl, hb⟩
      have HB := Lib.hid hb
      clear hb
      go_wp2_with fail
      go_ret2
      exact ⟨_, by rw [HC.out]; rfl, fun u e => (by rw [HC.out] at e; cases e), HB.out⟩
    | some n =>
      have hn := hle n rfl
      clear hle
      by_cases hn0 : 0 < n
      · have HC : Hid (cc = some (-(n : Int))) := Lib.hid (HC.out.trans (if_pos hn0))
        have tw : IntKind.i64.wrap (IntKind.u64.wrap (-(n : Int))) = -(n : Int) := by
          unfold IntKind.wrap
          simp [IntKind.bits, IntKind.signed]
          omega
        go_enter Tryz.func80, Tryz.ntmps80
        go_wp2_with fail
        rw [← HX.out]
        refine (HN.out _).mono ?_
        rintro e w2 ⟨rfl, hb⟩
        have HB := Lib.hid hb
        clear hb
        go_wp2_with fail
        go_ret2
        exact ⟨_, by rw [HC.out]; rfl, fun u e => (by rw [HC.out] at e; cases e; rfl), HB.out⟩
      · have HC : Hid (cc = none) := Lib.hid (HC.out.trans (if_neg hn0))
        go_enter Tryz.func80, Tryz.ntmps80
        go_wp2_with fail
        rw [← HX.out]
        refine (HN.out _).mono ?_
        rintro e w2 ⟨rfl, hb⟩
        have HB := Lib.hid hb
        clear hb
        go_wp2_with fail
        go_ret2
        exact ⟨_, by rw [HC.out]; rfl, fun u e => (by rw [HC.out] at e; cases e), HB.out⟩
  · have hcode := code_pos (s := t.data.toList) h45
    have hnum := fun W => rnumber_any t 9223372036854775807 W (by omega) (by omega) hs
    obtain ⟨nu, hnu⟩ : ∃ q, q = numL t.data.toList 9223372036854775807 := ⟨_, rfl⟩
    simp only [← hnu] at hnum hcode
    obtain ⟨cc, hcc⟩ : ∃ q, q = codeL t.data.toList := ⟨_, rfl⟩
    rw [← hcc] at hcode ⊢
    have hle : nu.getD 0 ≤ 9223372036854775807 := by
      cases hq : nu with
      | none => simp
      | some u =>
        rw [hnu] at hq
        have := ((numL_iff (by omega)).1 hq).2.1
        simpa using this
    have hsm : cc.isSome = nu.isSome := by rw [hcode]; simp
    have hval : ∀ u, cc = some u → ((nu.getD 0 : Nat) : Int) = u := fun u e => by
      rw [hcode] at e
      obtain ⟨n, rfl, rfl⟩ := Option.map_eq_some_iff.1 e
      rfl
    obtain ⟨g, hg⟩ : ∃ q, q = nu.getD 0 := ⟨_, rfl⟩
    obtain ⟨b, hb⟩ : ∃ q, q = nu.isSome := ⟨_, rfl⟩
    simp only [← hg, ← hb] at hnum hle hval
    have HN := Lib.hid hnum
    have HV := Lib.hid hval
    have HS := Lib.hid (hsm.trans hb.symm)
    clear hnum hcode hcc hnu hval hsm hg hb
    have key : Calls Tryz.prog 80 #[.string t] w fun e w2 => e = .returned (.tuple #[.int .i64 (g : Int), .bool b]) ∧ Below w.heap.size w w2 := by
      by_cases h0 : 0 < t.size
      · have hg0 := str_get t 0 h0
        have hhd := head_get (s := t.data.toList) (by omega)
        rw [hg0] at hhd
        have t45 : ((t[0].toNat : Int) == 45) = false := by
          rw [beq_eq_false_iff_ne]
          intro e
          exact h45 (by rw [hhd, show t[0] = 45 from UInt8.toNat_inj.1 (by have : (45 : UInt8).toNat = 45 := rfl; omega)])
        clear hhd hg0 h45
        go_enter Tryz.func80, Tryz.ntmps80
        go_wp2_with fail
        refine (HN.out _).mono ?_
        rintro e w2 ⟨rfl, hb⟩
        have HB := Lib.hid hb
        clear hb
        go_wp2_with fail
        go_ret2
        exact ⟨rfl, HB.out⟩
      · clear h45
        go_enter Tryz.func80, Tryz.ntmps80
        go_wp2_with fail
        refine (HN.out _).mono ?_
        rintro e w2 ⟨rfl, hb⟩
        have HB := Lib.hid hb
        clear hb
        go_wp2_with fail
        go_ret2
        exact ⟨rfl, HB.out⟩
    exact key.mono fun e w2 ⟨he, hb2⟩ => ⟨_, by rw [he, HS.out], HV.out, hb2⟩
end Go.Proofs.YtifmgmiaeoiidaaGreatDoor
namespace Go.Scrp
theorem item_no {x : List UInt8} (h : x ≠ [45]) (h2 : ∀ b, unhexL x = some b → b = []) : itemU x = none := by
  rw [itemU, if_neg h]
  cases hu : unhexL x with
  | none => rfl
  | some b =>
    have := h2 b hu
    subst this
    rfl
theorem item_yes {x b : List UInt8} (h : x ≠ [45]) (h2 : unhexL x = some b) (h3 : b ≠ []) : itemU x = some b := by
  rw [itemU, if_neg h, h2]
  exact if_neg h3
end Go.Scrp
namespace Go.Proofs.YtifmgmiaeoiidaaGreatDoor
open Go.RowKit Go.Colm Go.Scrp
set_option linter.unusedVariables false

set_option maxRecDepth 100000 in
theorem rfail_any (rb : Nat) (LA : Option Addr) (n c k : Nat) (w : World) (h : Whole w rb 83 (rdV LA n c k 0)) (hk : k ≤ 9223372036854775806) :
    Calls Tryz.prog 55 #[.pointer (some ⟨rb, 0, none⟩)] w fun e w' => e = .returned (.tuple #[]) ∧ Whole w' rb 83 (rdV LA n c k (k + 1)) ∧ Kept (fun j => j = rb) w w' := by
  have c1 := h.cell 1
  have c2 := h.cell 2
  have f2 := h.frozen 2
  have HH := Lib.hid (h.put 2 (.int .i64 ((k : Int) + 1)))
  have HK : Hid (Kept (fun j => j = rb) w (w.setCell ⟨rb, 2, none⟩ (.int .i64 ((k : Int) + 1)))) := Lib.hid ((Kept.refl (fun j => j = rb) w).setCell (p := ⟨rb, 2, none⟩) (.inl rfl) _)
  clear h
  go_enter Tryz.func55, Tryz.ntmps55
  go_wp2_with fail
  go_end0
  exact ⟨rfl, HH.out, HK.out⟩

set_option maxRecDepth 100000 in
set_option maxHeartbeats 4000000 in
theorem rrecords_any (S : ByteArray) (w : World) (hs : S.size ≤ 1099511627776) : Calls Tryz.prog 79 #[.string S] w (UnsetIt w S.data.toList) := by
  obtain ⟨i0, hi, hz0, hz1, hz2⟩ := info_parts sl8_info
  have hsl := str_len S
  have hq : (S.toList == [46]) = decide (S.data.toList = [46]) := str_beq2 S.data.toList [46]
  have hsp := parts_any 44 S w hs
  rw [show (((44 : UInt8).toNat : Nat) : Int) = 44 from rfl] at hsp
  have HSP := Lib.hid hsp
  by_cases h46 : S.data.toList = [46]
  · rw [decide_eq_true h46] at hq
    have hu : unsetL S.data.toList = some [] := by rw [unsetL, if_pos h46]
    have HF : Hid (UnsetIt w S.data.toList (.returned (.tuple #[.slice none 0 0, .bool true])) w) := Lib.hid ⟨fun h => (by rw [hu] at h; cases h), fun l h => (by rw [hu] at h; cases h; exact ⟨none, 0, rfl, by unfold maxLen; simp, RecsAt.nil _ _ _⟩), Below.refl _ _⟩
    clear hu h46 hsp
    go_enter Tryz.func79, Tryz.ntmps79
    go_wp2_with fail
    go_ret2
    exact HF.out
  rw [decide_eq_false h46] at hq
  obtain ⟨s, hss⟩ : ∃ s, s = S.data.toList := ⟨_, rfl⟩
  rw [← hss] at h46 HSP hsl hsp ⊢
  obtain ⟨ps, hps⟩ : ∃ ps, ps = sepL 44 s := ⟨_, rfl⟩
  have hu : unsetL s = unsetItems ps := by rw [unsetL, if_neg h46, hps]
  have hpl : ∀ k (hk : k < ps.length), ps[k].length ≤ s.length := fun k hk => by
    subst hps
    exact sep_len s _ (List.getElem_mem hk)
  rw [← hps] at HSP
  have HU := Lib.hid hu
  have HPL := Lib.hid hpl
  clear hu h46 hpl hsp hss
  go_enter Tryz.func79, Tryz.ntmps79
  go_wp2_with fail
  refine HSP.out.mono ?_
  rintro e w1 ⟨A, c, rfl, hrow, hc, hb1⟩
  have HROW := Lib.hid hrow
  have HL0 : Hid (UnsetLoop ps w1 0 (.slice none 0 0) [] w1) := Lib.hid ⟨⟨[], own_nil _ _ _ _, rfl⟩, rfl, by simp, Below.refl _ _⟩
  have HB1 := Lib.hid hb1
  have hpsn := sep_many (d := 44) s
  rw [← hps] at hpsn
  clear hrow hb1 hps
  go_wp2_with fail
  go_loopw [4, 6] (fun v i wr => ∃ (k : Nat) (done : List (List UInt8)), k ≤ ps.length ∧ i = .int .i64 k ∧ Hid (UnsetLoop ps w1 k v done wr)) (fun _ i _ => ps.length - (intOf i).toNat)
  case atStart => exact ⟨0, [], Nat.zero_le _, rfl, HL0⟩
  case round =>
    obtain ⟨k, done, hk, rfl, HC⟩ := hrel
    by_cases hlt : k < ps.length
    · obtain ⟨bA, offA, rfl, hcell⟩ := (HROW.out.below HC.out.below) k (.string ⟨ps[k].toArray⟩) (by simp [txtV, hlt])
      obtain ⟨X, hX⟩ : ∃ X : ByteArray, X = ⟨ps[k].toArray⟩ := ⟨_, rfl⟩
      rw [← hX] at hcell
      have hXl : X.data.toList = ps[k] := by rw [hX]
      have hXs : X.size = ps[k].length := by rw [hX, str_size]
      have hXle := HPL.out k hlt
      have hx45 : (X.toList == [45]) = decide (ps[k] = [45]) := by rw [hX]; exact str_beq2 _ _
      obtain ⟨vs, hvs, hrv⟩ := HC.out.row
      have hsw := HC.out.below.size
      have HVS := Lib.hid hvs
      have HRV := Lib.hid hrv
      clear hvs hrv
      by_cases h45 : ps[k] = [45]
      · rw [decide_eq_true h45] at hx45
        have hit : itemU ps[k] = some [] := by rw [itemU, if_pos h45]
        have HIT := Lib.hid hit
        clear hit h45 hX hXl hXs
        go_wp2_with (at_builtin; refine wpList_append_own_at _ rfl _ _ 45 rfl w1.heap.size 44 i0 (.slice none 0 0) 1 24 Tryz.underlying45 hi hz0 hz1 hz2 rfl (by decide) _ k vs rfl (HVS.out.alloc _) ⟨wr.heap.size, 0, none⟩ 1 1 [.slice none 0 0] rfl rfl (cell_one_new _ _ _) (fun x hx => by simp at hx; subst hx; rfl) (by unfold maxLen; omega) (by omega) (by simp; omega) ?_; intro v3 w3 hown3 hg3 _ hat3; obtain ⟨A3, c3, rfl, _⟩ := own_more hown3; have HN3 := Lib.hid (UnsetLoop.app (b := []) HC.out hlt HIT.out HVS.out HRV.out (Below.refl _ _) (by unfold maxLen; simp) (fun i v hv => by simp [bytesV] at hv) (fun j i u h => lt_of_cell (a := ⟨j, i, none⟩) h) hown3 hg3 hat3); clear hown3 hg3 hat3)
        go_wp2_with fail
        go_roundw
        case rel => exact ⟨k + 1, _, by omega, by go_num, HN3⟩
        case measure => simp [intOf]; omega
      · rw [decide_eq_false h45] at hx45
        have hux := runhex_any X wr (by omega)
        rw [hXl] at hux
        have HUX := Lib.hid hux
        have H45 := Lib.hid h45
        clear hux h45 hX hXl hXs
        go_wp2_with fail
        refine HUX.out.mono ?_
        rintro e w2 ⟨hno, hyes, hb2⟩
        have HB2 := Lib.hid hb2
        have hsz2 := hb2.size
        cases hun : unhexL ps[k] with
        | none =>
          have he := hno hun
          subst he
          have HF : Hid (UnsetIt w s (.returned (.tuple #[.slice none 0 0, .bool false])) w2) := Lib.hid ⟨fun _ => rfl, fun l h => (by rw [HU.out, unset_stop HC.out.rest hlt (item_no H45.out fun b hb => by rw [hun] at hb; cases hb)] at h; cases h), below_chain HB1.out (below_chain HC.out.below hb2)⟩
          clear hno hyes hb2 hun
          go_wp2_with fail
          go_ret2
          exact HF.out
        | some bb =>
          have he := hyes bb hun
          subst he
          obtain ⟨Y, hY⟩ : ∃ Y : ByteArray, Y = ⟨bb.toArray⟩ := ⟨_, rfl⟩
          have hYl : Y.data.toList = bb := by rw [hY]
          have hYs : Y.size = bb.length := by rw [hY, str_size]
          have hbl := unhex_len ps[k] bb hun
          rw [← hY]
          have hy0 : (Y.toList == []) = decide (bb = []) := by rw [hY]; exact str_beq2 _ _
          by_cases hb0 : bb = []
          · rw [decide_eq_true hb0] at hy0
            have HF : Hid (UnsetIt w s (.returned (.tuple #[.slice none 0 0, .bool false])) w2) := Lib.hid ⟨fun _ => rfl, fun l h => (by rw [HU.out, unset_stop HC.out.rest hlt (item_no H45.out fun b hb => by rw [hun] at hb; cases hb; exact hb0)] at h; cases h), below_chain HB1.out (below_chain HC.out.below hb2)⟩
            clear hno hyes hb2 hun hb0 hY hYl hYs hbl
            go_wp2_with fail
            go_ret2
            exact HF.out
          · rw [decide_eq_false hb0] at hy0
            have HIT : Hid (itemU ps[k] = some bb) := Lib.hid (item_yes H45.out hun hb0)
            have hcv := Lib.run_convert_string_bytes (P := Tryz.prog) w2 9 44 5 Y Tryz.underlying9 Tryz.underlying44 Tryz.underlying5
            obtain ⟨W, hW⟩ : ∃ W, W = Lib.bytesWorld w2 5 Y := ⟨_, rfl⟩
            obtain ⟨cp, hcp⟩ : ∃ cp, cp = grownCap w2 Y.size 0 5 := ⟨_, rfl⟩
            have hbw := below_bytesWorld w2 5 Y
            have hrw := RowV.bytesWorld w2 5 Y
            rw [← hW] at hbw hrw
            rw [hYl] at hrw
            have hc1 : bb.length ≤ cp ∧ cp ≤ maxLen := by
              rw [hcp, ← hYs]
              exact ⟨grownCap_ge _ _ _ _, grownCap_le_maxLen _ _ _ _ (by unfold maxLen; omega)⟩
            rw [← hcp, ← hW] at hcv
            have HBW := Lib.hid (HB2.out.trans (hbw.mono hsz2))
            have HRN : Hid (RowN (fun j => wr.heap.size ≤ j) W (some ⟨w2.heap.size, 0, none⟩) (bytesV bb)) := Lib.hid fun i v hv => by
              obtain ⟨b, off, e, hc⟩ := hrw i v hv
              cases e
              exact ⟨_, _, rfl, hsz2, hc⟩
            have HC4 := Lib.hid hc1
            have HV2 := Lib.hid (own_kept (Kept.below HBW.out (fun _ => False)) HVS.out fun _ _ => id)
            have HCV := Lib.hid hcv
            have hsW := HBW.out.size
            rw [hYs] at hcv
            clear hno hyes hb2 hun hb0 hY hYl hcp hW hbw hrw hc1
            go_wp2_with (at_builtin; refine wpList_append_own_at _ rfl _ _ 45 rfl w1.heap.size 44 i0 (.slice none 0 0) 1 24 Tryz.underlying45 hi hz0 hz1 hz2 rfl (by decide) _ k vs rfl (HV2.out.alloc _) ⟨W.heap.size, 0, none⟩ 1 1 [.slice (some ⟨w2.heap.size, 0, none⟩) bb.length cp] rfl rfl (cell_one_new _ _ _) (fun x hx => by simp at hx; subst hx; rfl) (by unfold maxLen; omega) (by omega) (by simp; omega) ?_; intro v3 w3 hown3 hg3 _ hat3; obtain ⟨A3, c3, rfl, _⟩ := own_more hown3; have HN3 := Lib.hid (UnsetLoop.app (b := bb) HC.out hlt HIT.out HVS.out HRV.out HBW.out HC4.out HRN.out (fun j i u h => lt_of_cell (a := ⟨j, i, none⟩) h) hown3 hg3 hat3); clear hown3 hg3 hat3)
            go_wp2_with fail
            go_roundw
            case rel => exact ⟨k + 1, _, by omega, by go_num, HN3⟩
            case measure => simp [intOf]; omega
    · have he := unset_end HC.out.rest (Nat.le_of_not_lt hlt)
      obtain ⟨vs, hvs, hrv⟩ := HC.out.row
      have hdl := HC.out.len
      obtain ⟨A2, c2, hv, hc2, hrn⟩ := own_rowN hvs
      have HF : Hid (UnsetIt w s (.returned (.tuple #[.slice A2 k c2, .bool true])) wr) := Lib.hid ⟨fun h => (by rw [HU.out, he] at h; cases h), fun l h => (by
        rw [HU.out, he] at h
        cases h
        refine ⟨A2, c2, by rw [hdl], by rw [hdl]; exact hc2, fun i hi => ?_⟩
        obtain ⟨A', cp, h1, h2, h3⟩ := RecsV.get hi hrv
        obtain ⟨b5, off5, e5, h5, h6⟩ := hrn i _ h1
        exact ⟨b5, off5, A', cp, e5, Nat.le_trans HB1.out.size h5, h6, h2, RowN.turn (fun j i u hj hc => ⟨Nat.le_trans HB1.out.size hj.1, hc⟩) h3⟩), below_chain HB1.out HC.out.below⟩
      clear hvs hrn hrv
      subst hv
      go_wp2_with fail
      go_ret2
      exact HF.out
end Go.Proofs.YtifmgmiaeoiidaaGreatDoor
