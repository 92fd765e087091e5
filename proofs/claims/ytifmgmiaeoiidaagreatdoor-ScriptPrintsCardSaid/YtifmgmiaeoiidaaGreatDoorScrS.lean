/-
  The walk of layer script's set: records as a word. Fewer than 2^37 records and bytes in all.
-/
import Derived.Test.YtifmgmiaeoiidaaGreatDoorScrM
import Derived.Test.YtifmgmiaeoiidaaGreatDoorJon
import Derived.Lib.Join
namespace Go.Proofs.YtifmgmiaeoiidaaGreatDoor
open Go.RowKit Go.Colm Go.Scrp
set_option linter.unusedVariables false

theorem join_row (A : Option Addr) (c : Nat) (l : List (List UInt8)) (sep : ByteArray) (w : World) (h0 : l ≠ []) (hc : l.length ≤ c) (hr : RowV w A (txtV l)) (hN : l.length ≤ 140737488355328) (hlen : (Lib.join l sep.data.toList).length ≤ 140737488355328) :
    Calls Tryz.prog 62 #[.slice A l.length c, .string sep] w fun e w' => e = .returned (.string ⟨(Lib.join l sep.data.toList).toArray⟩) ∧ Below w.heap.size w w' := by
  have hpos : 0 < l.length := by
    rcases l with _ | ⟨x, l⟩
    · exact absurd rfl h0
    · simp
  obtain ⟨b, off, rfl, hb⟩ := hr 0 (.string ⟨l[0].toArray⟩) (by simp [txtV, hpos])
  have hm : (l.map fun s => ByteArray.mk s.toArray).map (·.data.toList) = l := by simp [List.map_map, Function.comp_def]
  have h := join_any b off c (l.map fun s => ByteArray.mk s.toArray) sep w (fun j x hx => by
    obtain ⟨b', off', e, hc'⟩ := hr j (.string x) (by
      rw [txtV, List.getElem?_map]
      rw [List.getElem?_map] at hx
      obtain ⟨y, hy, rfl⟩ := Option.map_eq_some_iff.1 hx
      rw [hy]
      rfl)
    cases e
    exact hc') (lt_of_cell hb) (by simpa using hN) (by simpa using hc) (by rw [hm]; exact hlen)
  rw [hm, List.length_map] at h
  exact h

/-- The loop of set: k records are words. -/
structure SetLoop (l : List (List UInt8)) (w : World) (k : Nat) (v : Value) (wr : World) : Prop where
  row : wr.ownsRow w.heap.size 9 1 v k (txtV ((l.take k).map itemL))
  below : Below w.heap.size w wr

theorem set_snoc (l : List (List UInt8)) (k : Nat) (h : k < l.length) : txtV ((l.take (k + 1)).map itemL) = txtV ((l.take k).map itemL) ++ [.string ⟨(itemL l[k]).toArray⟩] := by
  rw [List.take_succ_eq_append_getElem h, List.map_append, txtV_append]
  rfl

set_option maxRecDepth 100000 in
set_option maxHeartbeats 4000000 in
theorem set_any (N : Nat → Prop) (l : List (List UInt8)) (A : Option Addr) (c : Nat) (w : World) (hr : RecsAt N w A l) (hl : bulk l < 137438953472) :
    Calls Tryz.prog 46 #[.slice A l.length c] w fun e w' => e = .returned (.string ⟨(setL l).toArray⟩) ∧ Below w.heap.size w w' := by
  obtain ⟨i0, hi, hz0, hz1, hz2⟩ := info_parts str_info
  have hll := bulk_length l
  by_cases h0 : l.length = 0
  · have h0' : l = [] := List.eq_nil_of_length_eq_zero h0
    subst h0'
    go_enter Tryz.func46, Tryz.ntmps46
    go_wp2_with fail
    go_ret
    exact ⟨rfl, Below.refl _ _⟩
  · have t0 : ((l.length : Int) == 0) = false := by
      rw [beq_eq_false_iff_ne]
      omega
    have HR := Lib.hid hr
    have HL0 : Hid (SetLoop l w 0 (.slice none 0 0) w) := Lib.hid ⟨own_nil _ _ _ _, Below.refl _ _⟩
    clear hr
    go_enter Tryz.func46, Tryz.ntmps46
    go_wp2_with fail
    go_loopw [3, 12] (fun v i wr => ∃ k : Nat, k ≤ l.length ∧ i = .int .i64 k ∧ Hid (SetLoop l w k v wr)) (fun _ i _ => l.length - (intOf i).toNat)
    case atStart => exact ⟨0, Nat.zero_le _, rfl, HL0⟩
    case round =>
      obtain ⟨k, hk, rfl, HC⟩ := hrel
      by_cases hlt : k < l.length
      · obtain ⟨b, off, A', cp, rfl, hN, hc, hcl, hrow⟩ := (RecsAt.turn (Turn.below HC.out.below) HR.out) k hlt
        have hbk := bulk_get l k hlt
        have hhex : ∀ W, RowV W A' (bytesV l[k]) → Calls Tryz.prog 23 #[.slice A' l[k].length cp] W fun e w' => e = .returned (.string ⟨(hexL l[k]).toArray⟩) ∧ Below W.heap.size W w' := fun W h => hex_any l[k] A' cp W h (by omega)
        have HHEX := Lib.hid hhex
        have HST := Lib.hid (set_snoc l k hlt)
        have HROW := Lib.hid hrow.row
        obtain ⟨x, hx⟩ : ∃ x, x = itemL l[k] := ⟨_, rfl⟩
        rw [← hx] at HST
        have HX := Lib.hid hx
        clear hhex hrow hx
        by_cases hz : l[k].length = 0
        · have t1 : decide ((0 : Int) < (l[k].length : Int)) = false := by
            rw [decide_eq_false_iff_not]
            omega
          have HXE : Hid (x = [45]) := Lib.hid (by
            rw [HX.out, itemL, if_pos (List.eq_nil_of_length_eq_zero hz)])
          clear HX
          go_wp2_with (at_builtin; refine wpList_append_own _ rfl _ _ 71 rfl w.heap.size 9 i0 (.string ByteArray.empty) 1 16 Tryz.underlying71 hi hz0 hz1 hz2 rfl (by decide) u3 k (txtV ((l.take k).map itemL)) rfl (HC.out.row.alloc _) ⟨wr.heap.size, 0, none⟩ 1 1 [.string ⟨#[45]⟩] rfl rfl (cell_one_new _ _ _) (fun x hx => by simp at hx; subst hx; rfl) (by unfold maxLen; omega) (by omega) (by have := HC.out.below.size; simp; omega) ?_; intro v3 w3 hown3 hg3 _)
          have hb3 : Below w.heap.size w w3 := own_below (HC.out.row.alloc (.cells #[.string ⟨#[45]⟩] 9)) (HC.out.below.alloc HC.out.below.size _) (by have := HC.out.below.size; simp; omega) hg3
          have HN3 : Hid (SetLoop l w (k + 1) v3 w3) := Lib.hid ⟨by rw [HST.out, HXE.out]; exact hown3, hb3⟩
          clear hown3 hg3 hb3
          go_wp2_with fail
          go_roundw
          case rel => exact ⟨k + 1, by omega, by go_num, HN3⟩
          case measure => simp [intOf]; omega
        · have HXE : Hid (x = hexL l[k]) := Lib.hid (by
            rw [HX.out, itemL, if_neg (by intro e; rw [e] at hz; exact hz rfl)])
          have hz1' : 0 < l[k].length := by omega
          clear HX hz
          go_wp2_with fail
          refine (HHEX.out _ HROW.out).mono ?_
          rintro e w2 ⟨rfl, hb2⟩
          have HB2 := Lib.hid (below_chain HC.out.below hb2)
          have HR2 := Lib.hid (own_kept (Kept.below hb2 (fun _ => False)) HC.out.row fun _ _ => id)
          have hsz2 := HB2.out.size
          clear hb2
          go_wp2_with (at_builtin; refine wpList_append_own _ rfl _ _ 71 rfl w.heap.size 9 i0 (.string ByteArray.empty) 1 16 Tryz.underlying71 hi hz0 hz1 hz2 rfl (by decide) u3 k (txtV ((l.take k).map itemL)) rfl (HR2.out.alloc _) ⟨w2.heap.size, 0, none⟩ 1 1 [.string ⟨(hexL l[k]).toArray⟩] rfl rfl (cell_one_new _ _ _) (fun x hx => by simp at hx; subst hx; rfl) (by unfold maxLen; omega) (by omega) (by simp; omega) ?_; intro v3 w3 hown3 hg3 _)
          have hb3 : Below w.heap.size w w3 := own_below (HR2.out.alloc (.cells #[.string ⟨(hexL l[k]).toArray⟩] 9)) (HB2.out.alloc hsz2 _) (by simp; omega) hg3
          have HN3 : Hid (SetLoop l w (k + 1) v3 w3) := Lib.hid ⟨by rw [HST.out, HXE.out]; exact hown3, hb3⟩
          clear hown3 hg3 hb3
          go_wp2_with fail
          go_roundw
          case rel => exact ⟨k + 1, by omega, by go_num, HN3⟩
          case measure => simp [intOf]; omega
      · have hkl : k = l.length := by omega
        subst hkl
        have hrow := HC.out.row
        rw [List.take_length] at hrow
        obtain ⟨A2, c2, hv, hc2, _, hr2⟩ := own_more hrow
        have hj := join_row A2 c2 (l.map itemL) ⟨#[44]⟩ wr (by intro e; exact h0 (by simpa using congrArg List.length e)) (by simpa using hc2) hr2 (by simp; omega) (by
          have := join_bulk 44 (l.map itemL) (by intro e; exact h0 (by simpa using congrArg List.length e))
          have := item_bulk l
          show (Lib.join (l.map itemL) [44]).length ≤ _
          omega)
        rw [List.length_map] at hj
        have HJ := Lib.hid hj
        have HE : Hid (Lib.join (l.map itemL) [44] = setL l) := Lib.hid (by rw [setL, if_neg (by intro e; exact h0 (by simp [e]))])
        clear hrow hr2 hj
        subst hv
        go_wp2_with fail
        refine HJ.out.mono ?_
        rintro e w2 ⟨rfl, hb2⟩
        go_wp2_with fail
        go_ret
        exact ⟨ret_str HE.out, below_chain HC.out.below hb2⟩
end Go.Proofs.YtifmgmiaeoiidaaGreatDoor
