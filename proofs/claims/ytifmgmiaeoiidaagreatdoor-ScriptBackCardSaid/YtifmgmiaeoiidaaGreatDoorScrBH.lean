/-
  The walk of the reference's Same (layer script): a script is the same as itself, wherever both lie. No condition.
-/
import Derived.Test.YtifmgmiaeoiidaaGreatDoorScrQ
import Derived.Deep.RegionHeld3
import Derived.Deep.DeepCutAuto
import Derived.Laws.IdiomStrings
namespace Go.Proofs.YtifmgmiaeoiidaaGreatDoor
open Go.RowKit Go.Colm Go.Scrp
set_option linter.unusedVariables false

/-- Bytes turned to a text, none too. -/
theorem run_text2 {P : Program} {src e : TypeId} (hs : P.underlying src = some (.slice e)) (he : P.underlying e = some (.int .u8)) (w : World) (A : Option Addr) (l : List UInt8) (c : Nat) (hr : RowV w A (bytesV l))
    (dst : TypeId) (hd : P.underlying dst = some .string) : (convert src dst (.slice A l.length c)).run P w = .ok (.string ⟨l.toArray⟩) w := by
  rcases l with _ | ⟨x, l⟩
  · rcases A with _ | a
    · exact run_text hs he w none [] c (RowV.nil _ _) (fun a e => by cases e) dst hd
    · exact run_convert_bytes_back w src dst e a c [] hs he hd fun j hj => absurd hj (by simp)
  · refine run_text hs he w A (x :: l) c hr (fun a e => ?_) dst hd
    obtain ⟨b, off, h, _⟩ := hr 0 _ rfl
    subst h
    cases e
    rfl
theorem two_fst (wr : World) (x y : Array Value) (T U : TypeId) : Whole ((wr.alloc (.cells x T)).alloc (.cells y U)).drew wr.heap.size T x :=
  (((Below.refl _ _).alloc (Nat.le_refl _) _).block _ (Whole.new wr T x).lt).trans (Whole.new wr T x)
theorem two_snd (wr : World) (x y : Array Value) (T U : TypeId) : Whole ((wr.alloc (.cells x T)).alloc (.cells y U)).drew (wr.heap.size + 1) U y := by
  have h := Whole.new (wr.alloc (.cells x T)) U y
  rw [show (wr.alloc (.cells x T)).heap.size = wr.heap.size + 1 by simp] at h
  exact h

/-- A script is told to be the same as itself. -/
def SameOK (l : List Opd) : Prop :=
  ∀ (A B : Option Addr) (cA cB : Nat) (w : World), OpdsAt (fun _ => True) w A 0 l → OpdsAt (fun _ => True) w B 0 l → l.length ≤ maxLen →
    Calls Tryz.prog 17 #[.slice A l.length cA, .slice B l.length cB] w fun e w' => e = .returned (.bool true) ∧ Below w.heap.size w w'

set_option maxRecDepth 100000 in
set_option maxHeartbeats 4000000 in
theorem same_step {l : List Opd} (H : ∀ k (hk : k < l.length) h sub, l[k] = .mk h sub → SameOK sub) : SameOK l := by
  intro A B cA cB w hA hB hlm
  have HH := Lib.hid H
  have HA := Lib.hid hA
  have HB := Lib.hid hB
  have HL0 : Hid (Below w.heap.size w w) := Lib.hid (Below.refl _ _)
  have hlm' : l.length ≤ 9223372036854775807 := by unfold maxLen at hlm; omega
  have t0 : ((l.length : Int) != (l.length : Int)) = false := by simp
  clear H hA hB hlm
  go_enter Tryz.func17, Tryz.ntmps17
  go_wp2_with fail
  clear t0
  go_loopw [5] (fun i wr => ∃ k : Nat, k ≤ l.length ∧ i = .int .i64 k ∧ Hid (Below w.heap.size w wr)) (fun i _ => l.length - (intOf i).toNat)
  case atStart => exact ⟨0, Nat.zero_le _, rfl, HL0⟩
  case round =>
    obtain ⟨k, hk, rfl, HC⟩ := hrel
    by_cases hlt : k < l.length
    · obtain ⟨bA, oA, rfl, hsA⟩ := (OpdsAt.turn (Turn.below HC.out) A 0 l HA.out).get l 0 k hlt
      obtain ⟨bB, oB, rfl, hsB⟩ := (OpdsAt.turn (Turn.below HC.out) B 0 l HB.out).get l 0 k hlt
      rw [Nat.zero_add] at hsA hsB
      rcases hek : l[k] with ⟨h, sub⟩
      rw [hek] at hsA hsB
      obtain ⟨hok, _, a0, a1, a2, ⟨RA, rc, a3, ⟨hrc, hrc2⟩, hrecs⟩, a4, a5, ⟨SA, sc, a6, ⟨hsc, hsc2⟩, hsub⟩, a7, a8⟩ := opdAt_mk.1 hsA
      obtain ⟨_, _, b0, b1, b2, ⟨RB, rd, b3, ⟨hrd, hrd2⟩, hrecs2⟩, b4, b5, ⟨SB, sd, b6, ⟨hsd, hsd2⟩, hsub2⟩, b7, b8⟩ := opdAt_mk.1 hsB
      have HS := Lib.hid (HH.out k hlt h sub hek)
      obtain ⟨kd, nam, ty, rs, lf, n, hw, cd⟩ := h
      dsimp only at a0 a1 a2 a3 hrc hrecs a4 a5 a7 a8 b0 b1 b2 b3 hrd hrecs2 b4 b5 b7 b8
      have HRA := Lib.hid hrecs
      have HRB := Lib.hid hrecs2
      have HSA := Lib.hid hsub
      have HSB := Lib.hid hsub2
      have HSM := Lib.hid (Nat.le_trans hsc hsc2)
      have hrl : rs.length ≤ 9223372036854775807 := by unfold maxLen at hrc2; omega
      have hlA := lt_of_cell a0
      have hlB := lt_of_cell b0
      dsimp only at hlA hlB
      clear hek hsA hsB hok hrecs hrecs2 hsub hsub2 hrc hrd hsc hsd
      go_upto_region 6 with fail
      go_cut [6, 7] (fun p q wx => ∃ g6 g7 : Nat, p = .pointer (some ⟨g6, 0, none⟩) ∧ q = .pointer (some ⟨g7, 0, none⟩) ∧ Hid (Whole wx g6 48 #[.int .i64 kd, .string ⟨nam.toArray⟩, .int .u16 (ty : Int), .slice RA rs.length rc, .int .u64 (lf : Int), .int .u64 (n : Int), .slice SA sub.length sc, .int .i64 hw, .int .i64 cd]) ∧ Hid (Whole wx g7 48 #[.int .i64 kd, .string ⟨nam.toArray⟩, .int .u16 (ty : Int), .slice RB rs.length rd, .int .u64 (lf : Int), .int .u64 (n : Int), .slice SB sub.length sd, .int .i64 hw, .int .i64 cd]) ∧ Hid (Below wr.heap.size wr wx))
      case first =>
        go_region
        all_goals
          go_wp2_with fail
          go_meet
          refine ⟨_, _, rfl, rfl, Lib.hid ?_, Lib.hid ?_, Lib.hid ?_⟩
          all_goals first | exact two_fst _ _ _ _ _ | exact two_snd _ _ _ _ _ | exact ((((Below.refl _ _).alloc (Nat.le_refl _) _).alloc (by simp) _)).drew
      case rest =>
      obtain ⟨g6, g7, rfl, rfl, HW6, HW7, HBX⟩ := hcut
      have x0 := HW6.out.cell 0
      have x1 := HW6.out.cell 1
      have x2 := HW6.out.cell 2
      have x3 := HW6.out.cell 3
      have x4 := HW6.out.cell 4
      have x5 := HW6.out.cell 5
      have x6 := HW6.out.cell 6
      have x7 := HW6.out.cell 7
      have x8 := HW6.out.cell 8
      have y0 := HW7.out.cell 0
      have y1 := HW7.out.cell 1
      have y2 := HW7.out.cell 2
      have y3 := HW7.out.cell 3
      have y4 := HW7.out.cell 4
      have y5 := HW7.out.cell 5
      have y6 := HW7.out.cell 6
      have y7 := HW7.out.cell 7
      have y8 := HW7.out.cell 8
      dsimp at x0 x1 x2 x3 x4 x5 x6 x7 x8 y0 y1 y2 y3 y4 y5 y6 y7 y8
      clear a0 a1 a2 a3 a4 a5 a6 a7 a8 b0 b1 b2 b3 b4 b5 b6 b7 b8
      have HSC := Lib.hid (HS.out SA SB sc sd wc (OpdsAt.turn (Turn.below HBX.out) SA 0 sub HSA.out) (OpdsAt.turn (Turn.below HBX.out) SB 0 sub HSB.out) HSM.out)
      go_wp2_with fail
      refine HSC.out.mono ?_
      rintro e w2 ⟨rfl, hb2⟩
      have HB2 := Lib.hid (below_chain HBX.out hb2)
      have HW6 := Lib.hid ((hb2.block _ HW6.out.lt).trans HW6.out)
      have HW7 := Lib.hid ((hb2.block _ HW7.out.lt).trans HW7.out)
      clear x0 x1 x2 x3 x4 x5 x6 x7 x8 y0 y1 y2 y3 y4 y5 y6 y7 y8 hb2 HBX HSC HS HSM
      go_wp2_with fail
      go_loopw [8] (fun q wx => ∃ j : Nat, j ≤ rs.length ∧ q = .int .i64 j ∧ Hid (Below wr.heap.size wr wx) ∧ Hid (Whole wx g6 48 #[.int .i64 kd, .string ⟨nam.toArray⟩, .int .u16 (ty : Int), .slice RA rs.length rc, .int .u64 (lf : Int), .int .u64 (n : Int), .slice SA sub.length sc, .int .i64 hw, .int .i64 cd]) ∧ Hid (Whole wx g7 48 #[.int .i64 kd, .string ⟨nam.toArray⟩, .int .u16 (ty : Int), .slice RB rs.length rd, .int .u64 (lf : Int), .int .u64 (n : Int), .slice SB sub.length sd, .int .i64 hw, .int .i64 cd])) (fun q _ => rs.length - (intOf q).toNat)
      case atStart => exact ⟨0, Nat.zero_le _, rfl, HB2, HW6, HW7⟩
      case round =>
        obtain ⟨j, hj, rfl, HBJ, HJ6, HJ7⟩ := hrel
        have x3 := HJ6.out.cell 3
        have y3 := HJ7.out.cell 3
        dsimp at x3 y3
        by_cases hjl : j < rs.length
        · obtain ⟨b1, o1, A1, p1, rfl, _, hc1, hl1, hr1⟩ := RecsAt.turn (Turn.below HBJ.out) HRA.out j hjl
          obtain ⟨b2, o2, A2, p2, rfl, _, hc2, hl2, hr2⟩ := RecsAt.turn (Turn.below HBJ.out) HRB.out j hjl
          have ht1 : ∀ q, (convert 44 9 (.slice A1 rs[j].length p1)).run Tryz.prog (wr.drewN q) = .ok (.string ⟨rs[j].toArray⟩) (wr.drewN q) := fun q => run_text2 (P := Tryz.prog) Tryz.underlying44 Tryz.underlying5 _ A1 rs[j] p1 (hr1.row.drewN q) 9 Tryz.underlying9
          have ht2 : ∀ q, (convert 44 9 (.slice A2 rs[j].length p2)).run Tryz.prog (wr.drewN q) = .ok (.string ⟨rs[j].toArray⟩) (wr.drewN q) := fun q => run_text2 (P := Tryz.prog) Tryz.underlying44 Tryz.underlying5 _ A2 rs[j] p2 (hr2.row.drewN q) 9 Tryz.underlying9
          obtain ⟨X, hX⟩ : ∃ X : ByteArray, X = ⟨rs[j].toArray⟩ := ⟨_, rfl⟩
          obtain ⟨xl, hxl⟩ : ∃ q, q = rs[j].length := ⟨_, rfl⟩
          simp only [← hX, ← hxl] at ht1 ht2 hc1 hc2
          clear hX hxl hl1 hl2 hr1 hr2
          go_wp2_with fail
          go_quiet (fail)
          go_wp2_with fail
          go_roundw
          case rel => exact ⟨j + 1, by omega, by go_num, Lib.hid (below_drewN HBJ.out _), HJ6, HJ7⟩
          case measure => simp [intOf]; omega
        · go_wp2_with fail
          go_roundw
          case rel => exact ⟨k + 1, by omega, by go_num, Lib.hid (below_chain HC.out HBJ.out)⟩
          case measure => simp [intOf]; omega
    · go_wp2_with fail
      go_ret
      exact ⟨rfl, HC.out⟩
theorem same_all : ∀ (n : Nat) (l : List Opd), cntL l < n → SameOK l
  | 0, _, h => absurd h (by omega)
  | n + 1, l, h => same_step fun k hk hd sub e => same_all n sub (by
      have := cntL_get l k hk
      rw [e, cntS_sub] at this
      omega)
theorem same_any (l : List Opd) : SameOK l := same_all (cntL l + 1) l (by omega)
end Go.Proofs.YtifmgmiaeoiidaaGreatDoor
