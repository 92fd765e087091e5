/-
  The walk of layer script's Answers of two answers: a number; an error. No condition.
-/
import Derived.Test.YtifmgmiaeoiidaaGreatDoorScrAC
namespace Go.Proofs.YtifmgmiaeoiidaaGreatDoor
open Go.RowKit Go.Colm Go.Scrp
set_option linter.unusedVariables false

set_option maxRecDepth 100000 in
set_option maxHeartbeats 4000000 in
theorem answers_nil (p : Value) (d : Int) (w : World) : Calls Tryz.prog 36 #[p, .slice none 0 0, .int .i64 d] w fun e w' => e = .returned (.tuple #[]) ∧ w' = w := by
  go_enter Tryz.func36, Tryz.ntmps36
  go_wp2_with fail
  go_loopw [10] (fun i wr => i = .int .i64 0 ∧ wr = w) (fun i _ => 0)
  case atStart => exact ⟨rfl, rfl⟩
  case round =>
    obtain ⟨rfl, rfl⟩ := hrel
    go_wp2_with fail
    go_end0
    exact ⟨rfl, rfl⟩
/-- The two answers' lines, the first k of them. -/
def ansT (N E : Int) : Nat → List UInt8
  | 0 => []
  | 1 => lineT 1 (wordsA 0 N)
  | _ => lineT 1 (wordsA 0 N) ++ lineT 1 (wordsA E 0)
def ansE (N E : Int) (k : Nat) : Int × Int := if k = 0 then (0, N) else (E, 0)
theorem told_two (N E : Int) (hn : -9223372036854775808 ≤ N ∧ N ≤ 9223372036854775807) (hN : N ≠ 0) (he : -9223372036854775808 ≤ E ∧ E ≤ 9223372036854775807) (hE : E ≠ 0) (k : Nat) (w : World) (ht : Tabs w) :
    Calls Tryz.prog 57 #[.agg (ansC (ansE N E k).1 (ansE N E k).2)] w fun e w' => ∃ A c, e = .returned (.slice A (wordsA (ansE N E k).1 (ansE N E k).2).length c) ∧ w'.ownsRow w.heap.size 9 1 (.slice A (wordsA (ansE N E k).1 (ansE N E k).2).length c) (wordsA (ansE N E k).1 (ansE N E k).2).length (txtV (wordsA (ansE N E k).1 (ansE N E k).2)) ∧ Below w.heap.size w w' := by
  by_cases h : k = 0
  · simp only [ansE, if_pos h]
    exact told_ok N hn hN w ht
  · simp only [ansE, if_neg h]
    exact told_err E he hE w ht

set_option maxRecDepth 100000 in
set_option maxHeartbeats 8000000 in
theorem answers_two (N E : Int) (hn : -9223372036854775808 ≤ N ∧ N ≤ 9223372036854775807) (hN : N ≠ 0) (he : -9223372036854775808 ≤ E ∧ E ≤ 9223372036854775807) (hE : E ≠ 0) (hb : bulk (wordsA 0 N) ≤ 1000 ∧ bulk (wordsA E 0) ≤ 1000 ∧ (ansT N E 2).length ≤ 1000)
    (B b g : Nat) (w : World) (hI : IsWriter B b (Lib.byteCells []) false w) (hB : B ≤ w.heap.size) (hT : TabsB B w) (hg : Whole w g 55 (ansC 0 N ++ ansC E 0)) :
    Calls Tryz.prog 36 #[.pointer (some ⟨b, 0, none⟩), .slice (some ⟨g, 0, none⟩) 2 2, .int .i64 1] w fun e w' => e = .returned (.tuple #[]) ∧ IsWriter B b (Lib.byteCells (ansT N E 2)) false w' ∧ Wrote B w w' := by
  have HTW := Lib.hid (told_two N E hn hN he hE)
  have HG := Lib.hid hg
  have HT := Lib.hid hT
  have HL0 : Hid (IsWriter B b (Lib.byteCells (ansT N E 0)) false w ∧ Wrote B w w) := Lib.hid ⟨hI, Wrote.refl _ _⟩
  have HBK := Lib.hid hb
  clear hg hT hI hN hE hb
  go_enter Tryz.func36, Tryz.ntmps36
  go_wp2_with fail
  go_loopw [10] (fun i wr => ∃ k : Nat, k ≤ 2 ∧ i = .int .i64 k ∧ Hid (IsWriter B b (Lib.byteCells (ansT N E k)) false wr ∧ Wrote B w wr)) (fun i _ => 2 - (intOf i).toNat)
  case atStart => exact ⟨0, by omega, rfl, HL0⟩
  case round =>
    obtain ⟨k, hk, rfl, HC⟩ := hrel
    clear HL0
    by_cases hlt : k < 2
    · have hgr : Whole wr g 55 (ansC 0 N ++ ansC E 0) := HC.out.2.2 _ _ _ _ (by decide) HG.out
      obtain ⟨E1, hE1⟩ : ∃ x, x = (ansE N E k).1 := ⟨_, rfl⟩
      obtain ⟨N1, hN1⟩ : ∃ x, x = (ansE N E k).2 := ⟨_, rfl⟩
      have htw := HTW.out k
      rw [← hE1, ← hN1] at htw
      have hcell : ∀ j (hj : j < 14), wr.cell? ⟨g, k * 14 + j, none⟩ = (ansC E1 N1)[j]? := fun j hj => by
        rw [hgr.cell]
        have : k = 0 ∨ k = 1 := by omega
        rcases this with rfl | rfl
        · rw [hE1, hN1]
          show _ = (ansC 0 N)[j]?
          rw [Nat.zero_mul, Nat.zero_add, Array.getElem?_append_left (by simpa using hj)]
        · rw [hE1, hN1]
          show _ = (ansC E 0)[j]?
          rw [Nat.one_mul, Array.getElem?_append_right (by simp)]
          simp
      have c0 : wr.cell? ⟨g, k * 14, none⟩ = some (.int .i64 E1) := hcell 0 (by omega)
      have c1 : wr.cell? ⟨g, k * 14 + 1, none⟩ = some (.slice none 0 0) := hcell 1 (by omega)
      have c2 : wr.cell? ⟨g, k * 14 + 2, none⟩ = some (.int .i64 N1) := hcell 2 (by omega)
      have c3 : wr.cell? ⟨g, k * 14 + 3, none⟩ = some (.int .i64 0) := hcell 3 (by omega)
      have c4 : wr.cell? ⟨g, k * 14 + 4, none⟩ = some (.bool false) := hcell 4 (by omega)
      have c5 : wr.cell? ⟨g, k * 14 + 5, none⟩ = some (.slice none 0 0) := hcell 5 (by omega)
      have c6 : wr.cell? ⟨g, k * 14 + 6, none⟩ = some (.int .i64 0) := hcell 6 (by omega)
      have c7 : wr.cell? ⟨g, k * 14 + 7, none⟩ = some (.int .i64 0) := hcell 7 (by omega)
      have c8 : wr.cell? ⟨g, k * 14 + 8, none⟩ = some (.int .i64 0) := hcell 8 (by omega)
      have c9 : wr.cell? ⟨g, k * 14 + 9, none⟩ = some (.int .i64 0) := hcell 9 (by omega)
      have c10 : wr.cell? ⟨g, k * 14 + 10, none⟩ = some (.int .i64 0) := hcell 10 (by omega)
      have c11 : wr.cell? ⟨g, k * 14 + 11, none⟩ = some (.int .i64 0) := hcell 11 (by omega)
      have c12 : wr.cell? ⟨g, k * 14 + 12, none⟩ = some (.int .i64 0) := hcell 12 (by omega)
      have c13 : wr.cell? ⟨g, k * 14 + 13, none⟩ = some (.slice none 0 0) := hcell 13 (by omega)
      have HTK := Lib.hid htw
      have HEN := Lib.hid (And.intro hE1 hN1)
      clear htw hE1 hN1 hgr hcell
      have HWX : Hid (Whole (wr.alloc (.cells (ansC E1 N1) 55)) wr.heap.size 55 (ansC E1 N1)) := Lib.hid (Whole.new _ _ _)
      have hbw : Below wr.heap.size wr (wr.alloc (.cells (ansC E1 N1) 55)) := (Below.refl _ _).alloc (Nat.le_refl _) _
      have hsz := HC.out.2.1.size
      have HBW := Lib.hid hbw
      clear hbw
      go_wp2_with fail
      refine (HTK.out _ (HT.out _ (HC.out.2.1.trans (HBW.out.mono (Nat.le_trans hB hsz))))).mono ?_
      rintro e w2 ⟨A2, c2', rfl, hown2, hb2⟩
      have hx2 : Whole w2 wr.heap.size 55 (ansC E1 N1) := (hb2.block _ HWX.out.lt).trans HWX.out
      obtain ⟨A', c', e', hc', _, hr2⟩ := own_more hown2
      cases e'
      have hBB : Below wr.heap.size wr w2 := HBW.out.trans (hb2.mono HBW.out.size)
      have hwl : wordsA E1 N1 ≠ [] ∧ bulk (wordsA E1 N1) ≤ 1000 := by
        rw [HEN.out.1, HEN.out.2]
        unfold ansE
        split
        · exact ⟨by simp [wordsA], HBK.out.1⟩
        · refine ⟨?_, HBK.out.2.1⟩
          unfold wordsA
          split <;> simp
      have hal : (ansT N E k).length ≤ 1000 := by
        have := HBK.out.2.2
        have hk2 : k = 0 ∨ k = 1 := by omega
        rcases hk2 with rfl | rfl
        · simp [ansT]
        · simp only [ansT, List.length_append] at this ⊢
          omega
      have hline := line_any B b 1 (wordsA E1 N1) A2 c2' (ansT N E k) false w2 (HC.out.1.below hBB) (Nat.le_trans hB (Nat.le_trans hsz hBB.size)) hwl.1 hr2 hc' (by omega) (by omega) (by have := hwl.2; omega)
      have HLINE := Lib.hid hline
      have HX2 := Lib.hid hx2
      have HBB := Lib.hid hBB
      clear hline hx2 hBB hr2 hc' hown2 hb2 c0 c1 c2 c3 c4 c5 c6 c7 c8 c9 c10 c11 c12 c13
      go_wp2_with fail
      refine HLINE.out.mono ?_
      rintro e w3 ⟨rfl, hI3, hW3⟩
      have hx3 : Whole w3 wr.heap.size 55 (ansC E1 N1) := hW3.2 _ _ _ _ (by decide) HX2.out
      have x13 : w3.cell? ⟨wr.heap.size, 13, none⟩ = some (.slice none 0 0) := hx3.cell 13
      have hnx : ansT N E (k + 1) = ansT N E k ++ lineT 1 (wordsA E1 N1) := by
        rw [HEN.out.1, HEN.out.2]
        have hk2 : k = 0 ∨ k = 1 := by omega
        rcases hk2 with rfl | rfl <;> rfl
      have HNX : Hid (IsWriter B b (Lib.byteCells (ansT N E (k + 1))) false w3 ∧ Wrote B w w3) := Lib.hid (by
        rw [hnx]
        exact ⟨hI3, (HC.out.2.trans (Wrote.below HBB.out (Nat.le_trans hB hsz))).trans hW3⟩)
      have HNIL := Lib.hid (fun W => answers_nil (.pointer (some ⟨b, 0, none⟩)) 2 W)
      clear hI3 hW3 hx3 hnx
      go_wp2_with fail
      refine (HNIL.out _).mono ?_
      rintro e w4 ⟨rfl, rfl⟩
      go_wp2_with fail
      go_roundw
      case rel => exact ⟨k + 1, by omega, by go_num, HNX⟩
      case measure => simp [intOf]; omega
    · have hk2 : k = 2 := by omega
      subst hk2
      go_wp2_with fail
      go_end0
      exact ⟨rfl, HC.out⟩
set_option maxRecDepth 100000 in
set_option maxHeartbeats 4000000 in
theorem answers_any (g : Nat) (w : World) (ht : Tabs w) (hg : Whole w g 55 (ansC 0 3 ++ ansC 7 0)) :
    Calls Tryz.prog 18 #[.slice (some ⟨g, 0, none⟩) 2 2] w fun e w' => e = .returned (.string ⟨#[111, 107, 32, 110, 32, 51, 10, 101, 114, 114, 111, 114, 32, 55, 10]⟩) ∧ Below w.heap.size w w' := by
  have hb : Below w.heap.size w (w.alloc (.cells #[.pointer none, .slice none 0 0, .bool false] 65)) := (Below.refl _ _).alloc (Nat.le_refl _) _
  have HA := Lib.hid (answers_two 3 7 (by decide) (by decide) (by decide) (by decide) (by decide +kernel) w.heap.size w.heap.size g _ (fresh_writer w) hb.size (TabsB.on (TabsB.of ht) hb) ((hb.block _ hg.lt).trans hg))
  have HB := Lib.hid hb
  have HE : Hid (ansT 3 7 2 = [111, 107, 32, 110, 32, 51, 10, 101, 114, 114, 111, 114, 32, 55, 10]) := Lib.hid (by decide +kernel)
  clear hb hg ht
  go_enter Tryz.func18, Tryz.ntmps18
  go_wp2_with fail
  refine HA.out.mono ?_
  rintro e w2 ⟨rfl, hI, hW⟩
  have HS := Lib.hid (wstring_any _ _ _ _ w2 hI)
  have HB2 := Lib.hid (HB.out.trans hW.1)
  clear hI hW
  go_wp2_with fail
  refine HS.out.mono ?_
  rintro e w3 ⟨rfl, hb3⟩
  have HB3 := Lib.hid (HB2.out.trans hb3)
  clear hb3
  go_wp2_with fail
  go_ret
  exact ⟨by rw [HE.out]; rfl, HB3.out⟩
end Go.Proofs.YtifmgmiaeoiidaaGreatDoor
