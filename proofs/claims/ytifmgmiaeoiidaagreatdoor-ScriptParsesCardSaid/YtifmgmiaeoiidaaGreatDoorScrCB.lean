/-
  The walk of the reference's Same, and words for those of its reader (layer script). No condition.
-/
import Derived.Test.YtifmgmiaeoiidaaGreatDoorScrQ
import Derived.Deep.RegionHeld3
import Derived.Deep.DeepCutAuto
import Derived.Laws.IdiomStrings
import Derived.Test.YtifmgmiaeoiidaaGreatDoorScrBC
import Derived.Test.YtifmgmiaeoiidaaGreatDoorScrAB
import Derived.Test.YtifmgmiaeoiidaaGreatDoorScrAF
import Derived.Test.YtifmgmiaeoiidaaGreatDoorScrCA
namespace Go.Proofs.YtifmgmiaeoiidaaGreatDoor
open Go.RowKit Go.Colm Go.Scrp
set_option linter.unusedVariables false

/-- Bytes turned to a text, none too. -/
theorem run_text2 {P : Program} {src e : TypeId} (hs : P.underlying src = some (.slice e)) (he : P.underlying e = some (.int .u8)) (w : World) (A : Option Addr) (l : List UInt8) (c : Nat) (hr : RowV w A (bytesV l))
    (dst : TypeId) (hd : P.underlying dst = some .string) : (convert src dst (.slice A l.length c)).run P w = .ok (.string ⟨l.toArray⟩) w := by
  rcases l with _ | ⟨x, l⟩
  · rcases A with _ | a
    · exact run_text hs he w none [] c (RowV.nil _ _) (fun a e => by cases e) dst hd
    · exact run_convert_bytes_back w src dst e a c [] hs he hd fun j hj => absurd hj (by simp)
  · refine run_text hs he w A (x :: l) c hr (fun a e => ?_) dst hd
    obtain ⟨b, off, h, _⟩ := hr 0 _ rfl
    subst h
    cases e
    rfl
theorem two_fst (wr : World) (x y : Array Value) (T U : TypeId) : Whole ((wr.alloc (.cells x T)).alloc (.cells y U)).drew wr.heap.size T x :=
  (((Below.refl _ _).alloc (Nat.le_refl _) _).block _ (Whole.new wr T x).lt).trans (Whole.new wr T x)
theorem two_snd (wr : World) (x y : Array Value) (T U : TypeId) : Whole ((wr.alloc (.cells x T)).alloc (.cells y U)).drew (wr.heap.size + 1) U y := by
  have h := Whole.new (wr.alloc (.cells x T)) U y
  rw [show (wr.alloc (.cells x T)).heap.size = wr.heap.size + 1 by simp] at h
  exact h

/-- A script is told to be the same as itself. -/
def SameOK (l : List Opd) : Prop :=
  ∀ (A B : Option Addr) (cA cB : Nat) (w : World), OpdsAt (fun _ => True) w A 0 l → OpdsAt (fun _ => True) w B 0 l → l.length ≤ maxLen →
    Calls Tryz.prog 17 #[.slice A l.length cA, .slice B l.length cB] w fun e w' => e = .returned (.bool true) ∧ Below w.heap.size w w'

set_option maxRecDepth 100000 in
set_option maxHeartbeats 4000000 in
theorem same_step {l : List Opd} (H : ∀ k (hk : k < l.length) h sub, l[k] = .mk h sub → SameOK sub) : SameOK l := by
  intro A B cA cB w hA hB hlm
  have HH := Lib.hid H
  have HA := Lib.hid hA
  have HB := Lib.hid hB
  have HL0 : Hid (Below w.heap.size w w) := Lib.hid (Below.refl _ _)
  have hlm' : l.length ≤ 9223372036854775807 := by unfold maxLen at hlm; omega
  have t0 : ((l.length : Int) != (l.length : Int)) = false := by simp
  clear H hA hB hlm
  go_enter Tryz.func17, Tryz.ntmps17
  go_wp2_with fail
  clear t0
  go_loopw [5] (fun i wr => ∃ k : Nat, k ≤ l.length ∧ i = .int .i64 k ∧ Hid (Below w.heap.size w wr)) (fun i _ => l.length - (intOf i).toNat)
  case atStart => exact ⟨0, Nat.zero_le _, rfl, HL0⟩
  case round =>
    obtain ⟨k, hk, rfl, HC⟩ := hrel
    by_cases hlt : k < l.length
    · obtain ⟨bA, oA, rfl, hsA⟩ := (OpdsAt.turn (Turn.below HC.out) A 0 l HA.out).get l 0 k hlt
      obtain ⟨bB, oB, rfl, hsB⟩ := (OpdsAt.turn (Turn.below HC.out) B 0 l HB.out).get l 0 k hlt
      rw [Nat.zero_add] at hsA hsB
      rcases hek : l[k] with ⟨h, sub⟩
      rw [hek] at hsA hsB
      obtain ⟨hok, _, a0, a1, a2, ⟨RA, rc, a3, ⟨hrc, hrc2⟩, hrecs⟩, a4, a5, ⟨SA, sc, a6, ⟨hsc, hsc2⟩, hsub⟩, a7, a8⟩ := opdAt_mk.1 hsA
      obtain ⟨_, _, b0, b1, b2, ⟨RB, rd, b3, ⟨hrd, hrd2⟩, hrecs2⟩, b4, b5, ⟨SB, sd, b6, ⟨hsd, hsd2⟩, hsub2⟩, b7, b8⟩ := opdAt_mk.1 hsB
      have HS := Lib.hid (HH.out k hlt h sub hek)
      obtain ⟨kd, nam, ty, rs, lf, n, hw, cd⟩ := h
      dsimp only at a0 a1 a2 a3 hrc hrecs a4 a5 a7 a8 b0 b1 b2 b3 hrd hrecs2 b4 b5 b7 b8
      have HRA := Lib.hid hrecs
      have HRB := Lib.hid hrecs2
      have HSA := Lib.hid hsub
      have HSB := Lib.hid hsub2
      have HSM := Lib.hid (Nat.le_trans hsc hsc2)
      have hrl : rs.length ≤ 9223372036854775807 := by unfold maxLen at hrc2; omega
      have hlA := lt_of_cell a0
      have hlB := lt_of_cell b0
      dsimp only at hlA hlB
      clear hek hsA hsB hok hrecs hrecs2 hsub hsub2 hrc hrd hsc hsd
      go_upto_region 6 with fail
      go_cut [6, 7] (fun p q wx => ∃ g6 g7 : Nat, p = .pointer (some ⟨g6, 0, none⟩) ∧ q = .pointer (some ⟨g7, 0, none⟩) ∧ Hid (Whole wx g6 48 #[.int .i64 kd, .string ⟨nam.toArray⟩, .int .u16 (ty : Int), .slice RA rs.length rc, .int .u64 (lf : Int), .int .u64 (n : Int), .slice SA sub.length sc, .int .i64 hw, .int .i64 cd]) ∧ Hid (Whole wx g7 48 #[.int .i64 kd, .string ⟨nam.toArray⟩, .int .u16 (ty : Int), .slice RB rs.length rd, .int .u64 (lf : Int), .int .u64 (n : Int), .slice SB sub.length sd, .int .i64 hw, .int .i64 cd]) ∧ Hid (Below wr.heap.size wr wx))
      case first =>
        go_region
        all_goals
          go_wp2_with fail
          go_meet
          refine ⟨_, _, rfl, rfl, Lib.hid ?_, Lib.hid ?_, Lib.hid ?_⟩
          all_goals first | exact two_fst _ _ _ _ _ | exact two_snd _ _ _ _ _ | exact ((((Below.refl _ _).alloc (Nat.le_refl _) _).alloc (by simp) _)).drew
      case rest =>
      obtain ⟨g6, g7, rfl, rfl, HW6, HW7, HBX⟩ := hcut
      have x0 := HW6.out.cell 0
      have x1 := HW6.out.cell 1
      have x2 := HW6.out.cell 2
      have x3 := HW6.out.cell 3
      have x4 := HW6.out.cell 4
      have x5 := HW6.out.cell 5
      have x6 := HW6.out.cell 6
      have x7 := HW6.out.cell 7
      have x8 := HW6.out.cell 8
      have y0 := HW7.out.cell 0
      have y1 := HW7.out.cell 1
      have y2 := HW7.out.cell 2
      have y3 := HW7.out.cell 3
      have y4 := HW7.out.cell 4
      have y5 := HW7.out.cell 5
      have y6 := HW7.out.cell 6
      have y7 := HW7.out.cell 7
      have y8 := HW7.out.cell 8
      dsimp at x0 x1 x2 x3 x4 x5 x6 x7 x8 y0 y1 y2 y3 y4 y5 y6 y7 y8
      clear a0 a1 a2 a3 a4 a5 a6 a7 a8 b0 b1 b2 b3 b4 b5 b6 b7 b8
      have HSC := Lib.hid (HS.out SA SB sc sd wc (OpdsAt.turn (Turn.below HBX.out) SA 0 sub HSA.out) (OpdsAt.turn (Turn.below HBX.out) SB 0 sub HSB.out) HSM.out)
      go_wp2_with fail
      refine HSC.out.mono ?_
      rintro e w2 ⟨rfl, hb2⟩
      have HB2 := Lib.hid (below_chain HBX.out hb2)
      have HW6 := Lib.hid ((hb2.block _ HW6.out.lt).trans HW6.out)
      have HW7 := Lib.hid ((hb2.block _ HW7.out.lt).trans HW7.out)
      clear x0 x1 x2 x3 x4 x5 x6 x7 x8 y0 y1 y2 y3 y4 y5 y6 y7 y8 hb2 HBX HSC HS HSM
      go_wp2_with fail
      go_loopw [8] (fun q wx => ∃ j : Nat, j ≤ rs.length ∧ q = .int .i64 j ∧ Hid (Below wr.heap.size wr wx) ∧ Hid (Whole wx g6 48 #[.int .i64 kd, .string ⟨nam.toArray⟩, .int .u16 (ty : Int), .slice RA rs.length rc, .int .u64 (lf : Int), .int .u64 (n : Int), .slice SA sub.length sc, .int .i64 hw, .int .i64 cd]) ∧ Hid (Whole wx g7 48 #[.int .i64 kd, .string ⟨nam.toArray⟩, .int .u16 (ty : Int), .slice RB rs.length rd, .int .u64 (lf : Int), .int .u64 (n : Int), .slice SB sub.length sd, .int .i64 hw, .int .i64 cd])) (fun q _ => rs.length - (intOf q).toNat)
      case atStart => exact ⟨0, Nat.zero_le _, rfl, HB2, HW6, HW7⟩
      case round =>
        obtain ⟨j, hj, rfl, HBJ, HJ6, HJ7⟩ := hrel
        have x3 := HJ6.out.cell 3
        have y3 := HJ7.out.cell 3
        dsimp at x3 y3
        by_cases hjl : j < rs.length
        · obtain ⟨b1, o1, A1, p1, rfl, _, hc1, hl1, hr1⟩ := RecsAt.turn (Turn.below HBJ.out) HRA.out j hjl
          obtain ⟨b2, o2, A2, p2, rfl, _, hc2, hl2, hr2⟩ := RecsAt.turn (Turn.below HBJ.out) HRB.out j hjl
          have ht1 : ∀ q, (convert 44 9 (.slice A1 rs[j].length p1)).run Tryz.prog (wr.drewN q) = .ok (.string ⟨rs[j].toArray⟩) (wr.drewN q) := fun q => run_text2 (P := Tryz.prog) Tryz.underlying44 Tryz.underlying5 _ A1 rs[j] p1 (hr1.row.drewN q) 9 Tryz.underlying9
          have ht2 : ∀ q, (convert 44 9 (.slice A2 rs[j].length p2)).run Tryz.prog (wr.drewN q) = .ok (.string ⟨rs[j].toArray⟩) (wr.drewN q) := fun q => run_text2 (P := Tryz.prog) Tryz.underlying44 Tryz.underlying5 _ A2 rs[j] p2 (hr2.row.drewN q) 9 Tryz.underlying9
          obtain ⟨X, hX⟩ : ∃ X : ByteArray, X = ⟨rs[j].toArray⟩ := ⟨_, rfl⟩
          obtain ⟨xl, hxl⟩ : ∃ q, q = rs[j].length := ⟨_, rfl⟩
          simp only [← hX, ← hxl] at ht1 ht2 hc1 hc2
          clear hX hxl hl1 hl2 hr1 hr2
          go_wp2_with fail
          go_quiet (fail)
          go_wp2_with fail
          go_roundw
          case rel => exact ⟨j + 1, by omega, by go_num, Lib.hid (below_drewN HBJ.out _), HJ6, HJ7⟩
          case measure => simp [intOf]; omega
        · go_wp2_with fail
          go_roundw
          case rel => exact ⟨k + 1, by omega, by go_num, Lib.hid (below_chain HC.out HBJ.out)⟩
          case measure => simp [intOf]; omega
    · go_wp2_with fail
      go_ret
      exact ⟨rfl, HC.out⟩
theorem same_all : ∀ (n : Nat) (l : List Opd), cntL l < n → SameOK l
  | 0, _, h => absurd h (by omega)
  | n + 1, l, h => same_step fun k hk hd sub e => same_all n sub (by
      have := cntL_get l k hk
      rw [e, cntS_sub] at this
      omega)
theorem same_any (l : List Opd) : SameOK l := same_all (cntL l + 1) l (by omega)
end Go.Proofs.YtifmgmiaeoiidaaGreatDoor
namespace Go.Scrp
/-- What a line's words come to: a step, or which line is wrong. -/
def stepR (L : List (List UInt8)) (f deep k : Nat) (ws : List (List UInt8)) : Rd :=
  match opL ws with
  | none => .bad (k + 1)
  | some h => if h.kind = 3 then (match stp L f (deep + 1) (k + 1) [] with
      | .bad b => .bad b
      | .ok sub k2 => .ok [.mk h sub] (k2 + 1))
    else .ok [.mk h []] (k + 1)
theorem stepR_none {L : List (List UInt8)} {f deep k : Nat} {ws : List (List UInt8)} (h : opL ws = none) : stepR L f deep k ws = .bad (k + 1) := by rw [stepR, h]
theorem stepR_one {L : List (List UInt8)} {f deep k : Nat} {ws : List (List UInt8)} {d : Hd} (h : opL ws = some d) (h3 : d.kind ≠ 3) : stepR L f deep k ws = .ok [.mk d []] (k + 1) := by
  rw [stepR, h]
  exact if_neg h3
theorem stepR_bad {L : List (List UInt8)} {f deep k b : Nat} {ws : List (List UInt8)} {d : Hd} (h : opL ws = some d) (h3 : d.kind = 3) (hs : stp L f (deep + 1) (k + 1) [] = .bad b) : stepR L f deep k ws = .bad b := by
  rw [stepR, h]
  simp only [if_pos h3, hs]
theorem stepR_view {L : List (List UInt8)} {f deep k k2 : Nat} {sub : List Opd} {ws : List (List UInt8)} {d : Hd} (h : opL ws = some d) (h3 : d.kind = 3) (hs : stp L f (deep + 1) (k + 1) [] = .ok sub k2) : stepR L f deep k ws = .ok [.mk d sub] (k2 + 1) := by
  rw [stepR, h]
  simp only [if_pos h3, hs]
theorem stp_stepR {L : List (List UInt8)} {f deep k : Nat} {out : List Opd} {ws : List (List UInt8)} (h : ¬ L.length ≤ k) (h2 : ¬ shut deep (L.getD k [])) (h3 : lineP deep (L.getD k []) = opL ws) :
    stp L (f + 1) deep k out = match stepR L f deep k ws with | .bad b => .bad b | .ok o k2 => stp L f deep k2 (out ++ o) := by
  cases ho : opL ws with
  | none => rw [stp_wrong h h2 (h3.trans ho), stepR_none ho]
  | some d =>
    by_cases hk : d.kind = 3
    · rw [stp_view h h2 (h3.trans ho) hk, stepR, ho]
      simp only [if_pos hk]
      cases stp L f (deep + 1) (k + 1) [] <;> rfl
    · rw [stp_one h h2 (h3.trans ho) hk, stepR_one ho hk]
theorem opq_0 {ws : List (List UInt8)} (hk : kindL ws = 0) : opL ws = none := by
  unfold opL
  rw [hk]
  rfl
theorem opq_1 {a b d f g : List UInt8} (hk : kindL [a, b, d, f, g] = 1) : (opL [a, b, d, f, g]).isSome = (((unwordL b).isSome && (numL d 65535).isSome) && (numL f mostL).isSome && (unsetL g).isSome) ∧
    ∀ h', opL [a, b, d, f, g] = some h' → h' = ⟨1, (unwordL b).getD [], (numL d 65535).getD 0, (unsetL g).getD [], (numL f mostL).getD 0, 0, 0, 0⟩ ∧ unsetL g = some ((unsetL g).getD []) := by
  have e : opL [a, b, d, f, g] = (match keyO [a, b, d, f, g], numL f mostL, unsetL g with | some k, some l, some r => some ⟨1, k.1, k.2, r, l, 0, 0, 0⟩ | _, _, _ => none) := by
    unfold opL
    rw [if_pos hk]
    rfl
  have ek : keyO [a, b, d, f, g] = (match unwordL b, numL d 65535 with | some a, some t => some (a, t) | _, _ => none) := rfl
  rw [e, ek]
  cases h1 : unwordL b <;> cases h2 : numL d 65535 <;> cases h3 : numL f mostL <;> cases h4 : unsetL g <;> simp
theorem opq_2 {a b d : List UInt8} (hk : kindL [a, b, d] = 2) : (opL [a, b, d]).isSome = ((unwordL b).isSome && (numL d 65535).isSome) ∧ ∀ h', opL [a, b, d] = some h' → h' = ⟨2, (unwordL b).getD [], (numL d 65535).getD 0, [], 0, 0, 0, 0⟩ := by
  have e : opL [a, b, d] = (match unwordL b, numL d 65535 with | some a, some t => some (a, t) | _, _ => none).map fun (k : List UInt8 × Nat) => ⟨2, k.1, k.2, [], 0, 0, 0, 0⟩ := by
    unfold opL
    rw [hk]
    rfl
  rw [e]
  cases h1 : unwordL b <;> cases h2 : numL d 65535 <;> simp
theorem opq_4 {a b d : List UInt8} (hk : kindL [a, b, d] = 4) : (opL [a, b, d]).isSome = ((unwordL b).isSome && (numL d 65535).isSome) ∧ ∀ h', opL [a, b, d] = some h' → h' = ⟨4, (unwordL b).getD [], (numL d 65535).getD 0, [], 0, 0, 0, 0⟩ := by
  have e : opL [a, b, d] = (match unwordL b, numL d 65535 with | some a, some t => some (a, t) | _, _ => none).map fun (k : List UInt8 × Nat) => ⟨4, k.1, k.2, [], 0, 0, 0, 0⟩ := by
    unfold opL
    rw [hk]
    rfl
  rw [e]
  cases h1 : unwordL b <;> cases h2 : numL d 65535 <;> simp
theorem end_how2 (f : List UInt8) : (f = endT (howL f)) ↔ (f = [114, 101, 116, 117, 114, 110] ∨ f = [112, 97, 110, 105, 99]) := by
  by_cases h : f = [112, 97, 110, 105, 99]
  · subst h
    decide
  · rw [howL, if_neg h]
    constructor
    · exact fun e => .inl e
    · rintro (e | e)
      · exact e
      · exact absurd e h
theorem opq_3 {a b d f g h : List UInt8} (hk : kindL [a, b, d, f, g, h] = 3) (v : Int) (hv : ∀ u, codeL g = some u → v = u) :
    (opL [a, b, d, f, g, h]).isSome = ((((unwordL b).isSome && (numL d 65535).isSome) && (codeL g).isSome) && (decide (f = [114, 101, 116, 117, 114, 110]) || decide (f = [112, 97, 110, 105, 99])) && decide (h = [123])) ∧
    ∀ h', opL [a, b, d, f, g, h] = some h' → h' = ⟨3, (unwordL b).getD [], (numL d 65535).getD 0, [], 0, 0, howL f, v⟩ := by
  have e : opL [a, b, d, f, g, h] = (match (match unwordL b, numL d 65535 with | some a, some t => some (a, t) | _, _ => none), codeL g with | some k, some c => if f = endT (howL f) ∧ h = [123] then some ⟨3, k.1, k.2, [], 0, 0, howL f, c⟩ else none | _, _ => none) := by
    unfold opL
    rw [hk]
    rfl
  rw [e]
  have hq : (decide (f = [114, 101, 116, 117, 114, 110]) || decide (f = [112, 97, 110, 105, 99])) = decide (f = endT (howL f)) := by
    rw [← Bool.decide_or]
    exact decide_eq_decide.2 (end_how2 f).symm
  rw [hq]
  cases h1 : unwordL b <;> cases h2 : numL d 65535 <;> cases h3 : codeL g <;> simp
  rename_i c
  have := hv c h3
  subst this
  refine ⟨?_, fun _ _ => rfl⟩
  by_cases c1 : f = endT (howL f)
  · rw [decide_eq_true c1]
    by_cases c2 : h = [123]
    · rw [decide_eq_true c2, if_pos ⟨c1, c2⟩]; rfl
    · rw [decide_eq_false c2, if_neg fun h => c2 h.2]; rfl
  · rw [decide_eq_false c1, if_neg fun h => c1 h.1]; rfl
theorem opq_5 {a b : List UInt8} (hk : kindL [a, b] = 5) : (opL [a, b]).isSome = (numL b mostL).isSome ∧ ∀ h', opL [a, b] = some h' → h' = ⟨5, [], 0, [], 0, (numL b mostL).getD 0, 0, 0⟩ := by
  have e : opL [a, b] = (numL b mostL).map fun n => ⟨5, [], 0, [], 0, n, 0, 0⟩ := by
    unfold opL
    rw [hk]
    rfl
  rw [e]
  cases h1 : numL b mostL <;> simp
theorem opq_6 {a b : List UInt8} (hk : kindL [a, b] = 6) : (opL [a, b]).isSome = (numL b mostL).isSome ∧ ∀ h', opL [a, b] = some h' → h' = ⟨6, [], 0, [], 0, (numL b mostL).getD 0, 0, 0⟩ := by
  have e : opL [a, b] = (numL b mostL).map fun n => ⟨6, [], 0, [], 0, n, 0, 0⟩ := by
    unfold opL
    rw [hk]
    rfl
  rw [e]
  cases h1 : numL b mostL <;> simp
theorem opq_7 {a : List UInt8} (hk : kindL [a] = 7) : opL [a] = some ⟨7, [], 0, [], 0, 0, 0, 0⟩ := op_7 hk.symm
theorem opq_8 {a : List UInt8} (hk : kindL [a] = 8) : opL [a] = some ⟨8, [], 0, [], 0, 0, 0, 0⟩ := op_8 hk.symm
end Go.Scrp
namespace Go.Proofs.YtifmgmiaeoiidaaGreatDoor
open Go.RowKit Go.Colm Go.Scrp
set_option linter.unusedVariables false

/-- What comes of reading steps. -/
def QReadIt (L : List (List UInt8)) (f deep k rb : Nat) (LA : Option Addr) (Lc : Nat) (w : World) (e : Ending) (w' : World) : Prop :=
  ∃ (A : Option Addr) (n c k' b : Nat), e = .returned (.slice A n c) ∧ Kept (fun j => j = rb) w w' ∧ Whole w' rb 83 (rdV LA L.length Lc k' b) ∧ k' + deep ≤ L.length + 21 ∧
    (∀ b', stp L f deep k [] = .bad b' → b = b') ∧ (∀ out k2, stp L f deep k [] = .ok out k2 → b = 0 ∧ k' = k2 ∧ n = out.length ∧ (n ≤ c ∧ c ≤ maxLen) ∧ OpdsAt (fun j => w.heap.size ≤ j) w' A 0 out)
def QReadOK (L : List (List UInt8)) (f : Nat) : Prop :=
  ∀ (deep k rb : Nat) (LA : Option Addr) (Lc : Nat) (w : World), Whole w rb 83 (rdV LA L.length Lc k 0) → RowN (fun j => j ≠ rb) w LA (txtV L) → 1 ≤ deep → deep ≤ 21 → k ≤ L.length → L.length - k < f → L.length ≤ 4294967296 → (∀ x ∈ L, x.length ≤ 2147483648) →
    Calls Tryz.prog 35 #[.pointer (some ⟨rb, 0, none⟩), .int .i64 (deep : Int)] w (QReadIt L f deep k rb LA Lc w)

/-- What the loop carries: v holds what was read. -/
structure QL (L : List (List UInt8)) (f0 deep k0 rb : Nat) (LA : Option Addr) (Lc : Nat) (w : World) (f k : Nat) (v : Value) (out : List Opd) (wr : World) : Prop where
  eq : stp L f0 deep k0 [] = stp L f deep k out
  fuel : L.length - k < f ∧ f ≤ f0
  kle : k ≤ L.length
  kept : Kept (fun j => j = rb) w wr
  rd : Whole wr rb 83 (rdV LA L.length Lc k 0)
  many : out.length ≤ k
  row : ∃ vs, wr.ownsRow w.heap.size 48 9 v out.length vs ∧ OpdsV (fun j => w.heap.size ≤ j ∧ v.ownBlock ≠ some j) wr out vs
theorem QL.drewN {L : List (List UInt8)} {f0 deep k0 rb : Nat} {LA : Option Addr} {Lc : Nat} {w : World} {f k : Nat} {v : Value} {out : List Opd} {wr : World} (h : QL L f0 deep k0 rb LA Lc w f k v out wr) (n : Nat) : QL L f0 deep k0 rb LA Lc w f k v out (wr.drewN n) :=
  ⟨h.eq, h.fuel, h.kle, h.kept.drewN n, h.rd, h.many, (by
    obtain ⟨vs, h1, h2⟩ := h.row
    exact ⟨vs, own_drewN h1 n, OpdsV.turn (w := wr) (w' := wr.drewN n) (fun b off u hb hc => ⟨hb, hc⟩) h2⟩)⟩
theorem QReadIt.no {L : List (List UInt8)} {f deep k rb : Nat} {LA : Option Addr} {Lc : Nat} {w w' : World} {A : Option Addr} {n c k' b : Nat} (h : stp L f deep k [] = .bad b) (hk : Kept (fun j => j = rb) w w') (hr : Whole w' rb 83 (rdV LA L.length Lc k' b)) (hd : k' + deep ≤ L.length + 21) :
    QReadIt L f deep k rb LA Lc w (.returned (.slice A n c)) w' := ⟨A, n, c, k', b, rfl, hk, hr, hd, fun b' e => (by rw [h] at e; cases e; rfl), fun out k2 e => (by rw [h] at e; cases e)⟩
theorem QL.yes {L : List (List UInt8)} {f0 deep k0 rb : Nat} {LA : Option Addr} {Lc : Nat} {w : World} {f k : Nat} {A : Option Addr} {n c : Nat} {out : List Opd} {wr : World} (h : QL L f0 deep k0 rb LA Lc w f k (.slice A n c) out wr) (hs : stp L f deep k out = .ok out k) (hd : deep ≤ 21) :
    QReadIt L f0 deep k0 rb LA Lc w (.returned (.slice A n c)) wr := by
  obtain ⟨vs, h1, h2⟩ := h.row
  obtain ⟨A', c', e, h3, h4⟩ := own_opds h1 rfl h2
  cases e
  have hk := h.kle
  exact ⟨_, _, _, k, 0, rfl, h.kept, h.rd, by omega, fun b' e => (by rw [h.eq, hs] at e; cases e), fun o k2 e => (by rw [h.eq, hs] at e; cases e; exact ⟨rfl, rfl, rfl, h3, h4⟩)⟩
theorem QL.form {L : List (List UInt8)} {f0 deep k0 rb : Nat} {LA : Option Addr} {Lc : Nat} {w : World} {f k : Nat} {v : Value} {out : List Opd} {wr : World} (h : QL L f0 deep k0 rb LA Lc w f k v out wr) : ∃ A c, v = .slice A out.length c := by
  obtain ⟨vs, h1, h2⟩ := h.row
  obtain ⟨A', c', e, _⟩ := own_opds h1 rfl h2
  exact ⟨A', c', e⟩
theorem QL.app {L : List (List UInt8)} {f0 deep k0 rb : Nat} {LA : Option Addr} {Lc : Nat} {w : World} {f k k' : Nat} {v v' : Value} {out : List Opd} {wr W w3 : World} {d : Hd} {sub : List Opd} {RA SA : Option Addr} {rc sc : Nat} {vs : List Value}
    (h : QL L f0 deep k0 rb LA Lc w (f + 1) k v out wr) (heq : stp L (f + 1) deep k out = stp L f deep k' (out ++ [.mk d sub])) (hk : k < k' ∧ k' ≤ L.length) (hW : Kept (fun j => j = rb) wr W) (hrd : Whole W rb 83 (rdV LA L.length Lc k' 0)) (hok : d.Ok)
    (h1 : d.recs.length ≤ rc ∧ rc ≤ maxLen) (h2 : sub.length ≤ sc ∧ sc ≤ maxLen) (h3 : RecsAt (fun j => wr.heap.size ≤ j) W RA d.recs) (h4 : OpdsAt (fun j => wr.heap.size ≤ j) W SA 0 sub) (hrb : rb < w.heap.size)
    (hvs : wr.ownsRow w.heap.size 48 9 v out.length vs) (hrv : OpdsV (fun j => w.heap.size ≤ j ∧ v.ownBlock ≠ some j) wr out vs)
    (hown : w3.ownsRow w.heap.size 48 9 v' (out.length + 1) (vs ++ (opC d (.slice RA d.recs.length rc) (.slice SA sub.length sc)).toList)) (hg : (W.alloc (.cells (opC d (.slice RA d.recs.length rc) (.slice SA sub.length sc)) 48)).grownBy w3 v.ownBlock)
    (hat : v'.ownBlock = v.ownBlock ∨ v'.ownBlock = some (W.alloc (.cells (opC d (.slice RA d.recs.length rc) (.slice SA sub.length sc)) 48)).heap.size) :
    QL L f0 deep k0 rb LA Lc w f k' v' (out ++ [.mk d sub]) w3 := by
  have hvl : ∀ j, v.ownBlock = some j → j < wr.heap.size := fun j e => own_at hvs e
  have hvf : ∀ j, v.ownBlock = some j → w.heap.size ≤ j := fun j e => own_from hvs e
  have hsz := hW.size
  have hsw := h.kept.size
  have hka : Kept (fun _ => False) W (W.alloc (.cells (opC d (.slice RA d.recs.length rc) (.slice SA sub.length sc)) 48)) := (Kept.refl _ _).alloc _
  have hk3 := Kept.grown hg
  have hne : ∀ j, j < W.heap.size → v.ownBlock ≠ some j → v'.ownBlock ≠ some j := by
    intro j hj h1 h2
    rcases hat with e | e
    · exact h1 (e.symm.trans h2)
    · rw [e] at h2
      have h3 := Option.some.inj h2
      simp at h3
      omega
  have hall : Kept (fun j => j = rb ∨ v.ownBlock = some j) wr w3 := ((hW.mono fun _ _ e => .inl e).trans (hka.mono fun _ _ e => e.elim)).trans (hk3.mono fun _ _ e => .inr e)
  have ho : ∀ j, wr.heap.size ≤ j → v.ownBlock ≠ some j := fun j hj e => by
    have := hvl j e
    omega
  refine ⟨h.eq.trans heq, ⟨by have := h.fuel; omega, by have := h.fuel; omega⟩, hk.2, ?_, ?_, by have := h.many; rw [List.length_append]; simp; omega, ⟨vs ++ (opC d (.slice RA d.recs.length rc) (.slice SA sub.length sc)).toList, by rw [List.length_append]; exact hown, OpdsV.snoc hok h1 h2 ?_ ?_ ?_⟩⟩
  · exact ⟨hall.os.trans h.kept.os, hall.tape.trans h.kept.tape, hall.output.trans h.kept.output, Nat.le_trans h.kept.size hall.size, fun j hj hjr => (hall.block j (by omega) (by
      rintro (e | e)
      · exact hjr e
      · have := hvf j e
        omega)).trans (h.kept.block j hj hjr)⟩
  · exact hk3.whole (hka.whole hrd id) (fun e => by
      have := hvf rb e
      omega)
  · exact RecsAt.turn (fun j i u hj hc => ⟨⟨by omega, hne j (lt_of_cell (a := ⟨j, i, none⟩) hc) (ho j hj)⟩, hk3.cell (hka.cell hc id) (ho j hj)⟩) h3
  · exact OpdsAt.turn (fun j i u hj hc => ⟨⟨by omega, hne j (lt_of_cell (a := ⟨j, i, none⟩) hc) (ho j hj)⟩, hk3.cell (hka.cell hc id) (ho j hj)⟩) SA 0 sub h4
  · refine OpdsV.turn ?_ hrv
    rintro j i u ⟨hj1, hj2⟩ hc
    have hjl := lt_of_cell (a := ⟨j, i, none⟩) hc
    dsimp only at hjl
    exact ⟨⟨hj1, hne j (by omega) hj2⟩, hall.cell hc (by
      rintro (e | e)
      · have e : j = rb := e
        omega
      · exact hj2 e)⟩
theorem QL.len {L : List (List UInt8)} {f0 deep k0 rb : Nat} {LA : Option Addr} {Lc : Nat} {w : World} {f k : Nat} {A : Option Addr} {c : Nat} {out : List Opd} {o : Opd} {wr : World} (h : QL L f0 deep k0 rb LA Lc w f k (.slice A (out ++ [o]).length c) (out ++ [o]) wr) : QL L f0 deep k0 rb LA Lc w f k (.slice A (out.length + 1) c) (out ++ [o]) wr := by
  rw [show (out ++ [o]).length = out.length + 1 by simp] at h
  exact h
/-- What comes of a step. -/
def QStepIt (L : List (List UInt8)) (f deep k rb : Nat) (LA : Option Addr) (Lc : Nat) (w : World) (ws : List (List UInt8)) (e : Ending) (w' : World) : Prop :=
  ∃ (d : Hd) (RA SA : Option Addr) (rn rc sn sc k' b : Nat), e = .returned (.agg (opC d (.slice RA rn rc) (.slice SA sn sc))) ∧ Kept (fun j => j = rb) w w' ∧ Whole w' rb 83 (rdV LA L.length Lc k' b) ∧ k' + deep ≤ L.length + 21 ∧
    (∀ b', stepR L f deep k ws = .bad b' → b = b') ∧ (∀ o k2, stepR L f deep k ws = .ok o k2 → b = 0 ∧ k' = k2 ∧ ∃ sub, o = [.mk d sub] ∧ d.Ok ∧ rn = d.recs.length ∧ sn = sub.length ∧ (d.recs.length ≤ rc ∧ rc ≤ maxLen) ∧ (sub.length ≤ sc ∧ sc ≤ maxLen) ∧
      RecsAt (fun j => w.heap.size ≤ j) w' RA d.recs ∧ OpdsAt (fun j => w.heap.size ≤ j) w' SA 0 sub)
abbrev kindsC : Array Value := #[.string ⟨#[112, 117, 116]⟩, .string ⟨#[103, 101, 116]⟩, .string ⟨#[118, 105, 101, 119]⟩, .string ⟨#[100, 101, 108, 101, 116, 101]⟩, .string ⟨#[116, 105, 99, 107]⟩, .string ⟨#[115, 119, 101, 101, 112]⟩, .string ⟨#[99, 111, 109, 112, 97, 99, 116]⟩, .string ⟨#[115, 116, 97, 116, 115]⟩]
abbrev manyC : Array Value := #[.int .i64 5, .int .i64 3, .int .i64 6, .int .i64 3, .int .i64 2, .int .i64 2, .int .i64 1, .int .i64 1]
abbrev opZ (K : Int) : Array Value := #[.int .i64 K, .string ⟨#[]⟩, .int .u16 0, .slice none 0 0, .int .u64 0, .int .u64 0, .slice none 0 0, .int .i64 0, .int .i64 0]
theorem kinds_at {n : Nat} (h : n < 8) : kindsC[n]? = some (.string ⟨(spellT ((n + 1 : Nat) : Int)).1.toArray⟩) ∧ manyC[n]? = some (.int .i64 (((spellT ((n + 1 : Nat) : Int)).2 : Nat) : Int)) := by
  have : n = 0 ∨ n = 1 ∨ n = 2 ∨ n = 3 ∨ n = 4 ∨ n = 5 ∨ n = 6 ∨ n = 7 := by omega
  rcases this with rfl | rfl | rfl | rfl | rfl | rfl | rfl | rfl <;> exact ⟨rfl, rfl⟩
/-- What the loop over the kinds carries. -/
structure KL (ws : List (List UInt8)) (w : World) (n : Nat) (W : World) : Prop where
  below : Below w.heap.size w W
  size : w.heap.size + 4 ≤ W.heap.size
  res : Whole W w.heap.size 48 (opZ 0)
  op : Whole W (w.heap.size + 1) 48 (opZ ((kindTo ws n : Nat) : Int))
  kinds : Whole W (w.heap.size + 2) 9 kindsC
  many : Whole W (w.heap.size + 3) 3 manyC
theorem KL.drewN {ws : List (List UInt8)} {w W : World} {n : Nat} (h : KL ws w n W) (m : Nat) : KL ws w n (W.drewN m) := ⟨below_drewN h.below m, h.size, h.res, h.op, h.kinds, h.many⟩
theorem KL.no {ws : List (List UInt8)} {w W : World} {n : Nat} (h : KL ws w n W) (hn : n < 8) (hm : matchK ws (n + 1) ≠ true) : KL ws w (n + 1) W := ⟨h.below, h.size, h.res, by rw [kindTo_no hn hm]; exact h.op, h.kinds, h.many⟩
theorem KL.yes {ws : List (List UInt8)} {w W : World} {n : Nat} (h : KL ws w n W) (hn : n < 8) (hm : matchK ws (n + 1) = true) : KL ws w (n + 1) (W.setCell ⟨w.heap.size + 1, 0, none⟩ (.int .i64 ((n : Int) + 1))) := by
  have hk : Kept (fun j => j = w.heap.size + 1) W (W.setCell ⟨w.heap.size + 1, 0, none⟩ (.int .i64 ((n : Int) + 1))) := (Kept.refl (fun j => j = w.heap.size + 1) _).setCell (p := ⟨w.heap.size + 1, 0, none⟩) (.inl rfl) _
  refine ⟨h.below.setCell (p := ⟨w.heap.size + 1, 0, none⟩) (Nat.le_succ _) _, Nat.le_trans h.size hk.size, hk.whole h.res (by omega), ?_, hk.whole h.kinds (by omega), hk.whole h.many (by omega)⟩
  rw [kindTo_yes hn hm]
  exact h.op.put 0 _
/-- A step that was read but for its steps. -/
structure St (ws : List (List UInt8)) (w : World) (d : Hd) (RA : Option Addr) (rn rc : Nat) (q : Bool) (W : World) : Prop where
  below : Below w.heap.size w W
  size : w.heap.size + 4 ≤ W.heap.size
  res : Whole W w.heap.size 48 (opZ 0)
  op : Whole W (w.heap.size + 1) 48 (opC d (.slice RA rn rc) (.slice none 0 0))
  is : q = (opL ws).isSome
  yes : ∀ h, opL ws = some h → h = d ∧ rn = h.recs.length ∧ (rn ≤ rc ∧ rc ≤ maxLen) ∧ RecsAt (fun j => w.heap.size + 4 ≤ j) W RA h.recs
theorem results_cell_row1 {P : Program} {fn : Func} {p : Tmp} {ty : TypeId} (h : fn.results = #[.cell p ty]) (tmps : Array Value) (w : World) (g : Nat) (t : TypeId) (cs : Array Value) (fr : Nat × Nat) (d : TypeDesc)
    (hp : tmps.getD p undef = .pointer (some ⟨g, 0, none⟩)) (hg : w.heap[g]? = some (.cells cs t fr))
    (hu : P.underlying ty = some d) (hd : (match d with | .struct _ | .array _ _ => true | _ => false) = true) (hi : (P.info? ty).map (·.size) = some cs.size) :
    (results fn tmps).run P w = .ok (.agg cs) w := by
  have e : (results fn tmps).run P w = ((asAddr (tmps.getD p undef)).run P w).andThen fun a w₁ => (loadVar ty a).run P w₁ := by
    simp only [results, h]
    simp [Sem.run_bind, Result.andThen]
  rw [e, hp]
  simp [asAddr, run_loadVar_row w g t ty cs fr d hg hu hd hi, Result.andThen]
abbrev opU (K : Int) (un : List UInt8) (nv : Nat) : Array Value := #[.int .i64 K, .string ⟨un.toArray⟩, .int .u16 (nv : Int), .slice none 0 0, .int .u64 0, .int .u64 0, .slice none 0 0, .int .i64 0, .int .i64 0]
/-- What the first words come to. -/
def KeyIt (ws : List (List UInt8)) (K : Nat) (un : List UInt8) (nv : Nat) (q : Bool) : Prop :=
  (keyT (K : Int) = true → un = (unwordL (ws.getD 1 [])).getD [] ∧ nv = (numL (ws.getD 2 []) 65535).getD 0 ∧ q = ((unwordL (ws.getD 1 [])).isSome && (numL (ws.getD 2 []) 65535).isSome)) ∧ (keyT (K : Int) = false → un = [] ∧ nv = 0 ∧ q = decide (0 < K))
/-- The result's block, and the step's. -/
structure S1 (w : World) (cs : Array Value) (W : World) : Prop where
  below : Below w.heap.size w W
  size : w.heap.size + 4 ≤ W.heap.size
  res : Whole W w.heap.size 48 (opZ 0)
  op : Whole W (w.heap.size + 1) 48 cs
theorem S1.next {w W W' : World} {cs : Array Value} (h : S1 w cs W) (hb : Below W.heap.size W W') : S1 w cs W' :=
  ⟨below_chain h.below hb, Nat.le_trans h.size hb.size, (hb.block _ h.res.lt).trans h.res, (hb.block _ h.op.lt).trans h.op⟩
theorem S1.put {w W : World} {cs : Array Value} (h : S1 w cs W) (i : Nat) (v : Value) : S1 w (cs.setIfInBounds i v) (W.setCell ⟨w.heap.size + 1, i, none⟩ v) := by
  have hk : Kept (fun j => j = w.heap.size + 1) W (W.setCell ⟨w.heap.size + 1, i, none⟩ v) := (Kept.refl (fun j => j = w.heap.size + 1) _).setCell (p := ⟨w.heap.size + 1, i, none⟩) (.inl rfl) _
  exact ⟨h.below.setCell (p := ⟨w.heap.size + 1, i, none⟩) (Nat.le_succ _) _, Nat.le_trans h.size hk.size, hk.whole h.res (by omega), h.op.put i v⟩
theorem S1.put2 {w W : World} {K : Int} {un : List UInt8} {nv : Nat} (h : S1 w (opZ K) W) : S1 w (opU K un nv) ((W.setCell ⟨w.heap.size + 1, 1, none⟩ (.string ⟨un.toArray⟩)).setCell ⟨w.heap.size + 1, 2, none⟩ (.int .u16 (nv : Int))) :=
  (h.put 1 (.string ⟨un.toArray⟩)).put 2 (.int .u16 (nv : Int))
theorem St.of {ws : List (List UInt8)} {w W W0 : World} {d : Hd} {RA : Option Addr} {rn rc : Nat} {q : Bool} (h : S1 w (opC d (.slice RA rn rc) (.slice none 0 0)) W) (hq : q = (opL ws).isSome) (hy : ∀ h', opL ws = some h' → h' = d ∧ rn = h'.recs.length ∧ (rn ≤ rc ∧ rc ≤ maxLen) ∧ RecsAt (fun j => w.heap.size + 4 ≤ j) W RA h'.recs) : St ws w d RA rn rc q W :=
  ⟨h.below, h.size, h.res, h.op, hq, hy⟩
theorem St.easy {ws : List (List UInt8)} {w W : World} {K : Int} {un : List UInt8} {nv n : Nat} {d : Hd} {q : Bool} (h : S1 w (opU K un nv) W) (hq : q = (opL ws).isSome) (hy : ∀ h', opL ws = some h' → h' = d) (hd : d = ⟨K, un, nv, [], 0, n, 0, 0⟩) :
    St ws w d none 0 0 q (W.setCell ⟨w.heap.size + 1, 5, none⟩ (.int .u64 (n : Int))) := by
  subst hd
  exact St.of (W0 := W) (h.put 5 (.int .u64 (n : Int))) hq fun h' e => by
    have := hy h' e
    subst this
    exact ⟨rfl, rfl, by unfold maxLen; omega, RecsAt.nil _ _ _⟩
theorem St.put {ws : List (List UInt8)} {w w3 W : World} {un gs : List UInt8} {nv lf : Nat} {RA : Option Addr} {rn rc : Nat} {q : Bool} (h : S1 w (opU 1 un nv) W) (hs : w.heap.size + 4 ≤ w3.heap.size) (hq : q = (opL ws).isSome)
    (hy : ∀ h', opL ws = some h' → h' = (⟨1, un, nv, (unsetL gs).getD [], lf, 0, 0, 0⟩ : Hd) ∧ unsetL gs = some ((unsetL gs).getD [])) (hrec : ∀ l, unsetL gs = some l → rn = l.length ∧ (rn ≤ rc ∧ rc ≤ maxLen) ∧ RecsAt (fun j => w3.heap.size ≤ j) W RA l) :
    St ws w (⟨1, un, nv, (unsetL gs).getD [], lf, 0, 0, 0⟩ : Hd) RA rn rc q ((W.setCell ⟨w.heap.size + 1, 4, none⟩ (.int .u64 (lf : Int))).setCell ⟨w.heap.size + 1, 3, none⟩ (.slice RA rn rc)) :=
  St.of (W0 := W) ((h.put 4 (.int .u64 (lf : Int))).put 3 (.slice RA rn rc)) hq fun h' e => by
    obtain ⟨h1, h2⟩ := hy h' e
    obtain ⟨g1, g2, g3⟩ := hrec _ h2
    subst h1
    refine ⟨rfl, g1, g2, RecsAt.turn (fun j i u hj hc => ⟨by omega, ?_⟩) g3⟩
    exact (((Kept.refl (fun j => j = w.heap.size + 1) _).setCell (p := ⟨w.heap.size + 1, 4, none⟩) (.inl rfl) _).setCell (p := ⟨w.heap.size + 1, 3, none⟩) (.inl rfl) _).cell hc (fun e => by
      have e : j = w.heap.size + 1 := e
      omega)
theorem St.view0 {ws : List (List UInt8)} {w W : World} {un : List UInt8} {nv : Nat} {v : Int} {q : Bool} (h : S1 w (opU 3 un nv) W) (hq : q = (opL ws).isSome) (hy : ∀ h', opL ws = some h' → h' = (⟨3, un, nv, [], 0, 0, 0, v⟩ : Hd)) :
    St ws w (⟨3, un, nv, [], 0, 0, 0, v⟩ : Hd) none 0 0 q (W.setCell ⟨w.heap.size + 1, 8, none⟩ (.int .i64 v)) :=
  St.of (W0 := W) (h.put 8 (.int .i64 v)) hq fun h' e => by
    have := hy h' e
    subst this
    exact ⟨rfl, rfl, by unfold maxLen; omega, RecsAt.nil _ _ _⟩
theorem St.view1 {ws : List (List UInt8)} {w W : World} {un : List UInt8} {nv : Nat} {v : Int} {q : Bool} (h : S1 w (opU 3 un nv) W) (hq : q = (opL ws).isSome) (hy : ∀ h', opL ws = some h' → h' = (⟨3, un, nv, [], 0, 0, 1, v⟩ : Hd)) :
    St ws w (⟨3, un, nv, [], 0, 0, 1, v⟩ : Hd) none 0 0 q ((W.setCell ⟨w.heap.size + 1, 8, none⟩ (.int .i64 v)).setCell ⟨w.heap.size + 1, 7, none⟩ (.int .i64 1)) :=
  St.of (W0 := W) ((h.put 8 (.int .i64 v)).put 7 (.int .i64 1)) hq fun h' e => by
    have := hy h' e
    subst this
    exact ⟨rfl, rfl, by unfold maxLen; omega, RecsAt.nil _ _ _⟩
theorem num_most {s : List UInt8} {most : Nat} (h : most ≤ 18446744073709551615) : (numL s most).getD 0 ≤ most := by
  cases hn : numL s most with
  | none => simp
  | some u => exact ((numL_iff h).1 hn).2.1
theorem getD_mem {ws : List (List UInt8)} {i : Nat} (h : i < ws.length) : ws.getD i [] ∈ ws := by
  rw [List.getD_eq_getElem?_getD, List.getElem?_eq_getElem h]
  exact List.getElem_mem h
theorem txt_at {ws : List (List UInt8)} {i : Nat} (h : i < ws.length) : (txtV ws)[i]? = some (.string ⟨(ws.getD i []).toArray⟩) := by
  simp [txtV, List.getD_eq_getElem?_getD, List.getElem?_eq_getElem h]
theorem rnumber_one (s : List UInt8) (most : Nat) (w : World) (h9 : 9 ≤ most) (hm : most ≤ 18446744073709551615) (hs : s.length ≤ 1099511627776) :
    Calls Tryz.prog 78 #[.string ⟨s.toArray⟩, .int .u64 (most : Int)] w fun e w' => e = .returned (.tuple #[.int .u64 ((numL s most).getD 0 : Nat), .bool (numL s most).isSome]) ∧ Below w.heap.size w w' := by
  have h := rnumber_any ⟨s.toArray⟩ most w h9 hm (by rw [str_size]; exact hs)
  exact h
theorem rsigned_one (s : List UInt8) (w : World) (hs : s.length ≤ 1099511627776) :
    Calls Tryz.prog 80 #[.string ⟨s.toArray⟩] w fun e w' => ∃ v : Int, e = .returned (.tuple #[.int .i64 v, .bool (codeL s).isSome]) ∧ (∀ u, codeL s = some u → v = u) ∧ Below w.heap.size w w' := by
  have h := rsigned_any ⟨s.toArray⟩ w (by rw [str_size]; exact hs)
  exact h
theorem rrecords_one (s : List UInt8) (w : World) (hs : s.length ≤ 1099511627776) :
    Calls Tryz.prog 79 #[.string ⟨s.toArray⟩] w fun e w' => ∃ (rq : Bool) (RA : Option Addr) (rn rc : Nat), e = .returned (.tuple #[.slice RA rn rc, .bool rq]) ∧ rq = (unsetL s).isSome ∧ (∀ l, unsetL s = some l → rn = l.length ∧ (rn ≤ rc ∧ rc ≤ maxLen) ∧ RecsAt (fun j => w.heap.size ≤ j) w' RA l) ∧ Below w.heap.size w w' := by
  have h : Calls Tryz.prog 79 #[.string ⟨s.toArray⟩] w (UnsetIt w s) := rrecords_any ⟨s.toArray⟩ w (by rw [str_size]; exact hs)
  refine h.mono ?_
  rintro e w' ⟨h1, h2, hb⟩
  cases hu : unsetL s with
  | none => exact ⟨false, none, 0, 0, h1 hu, rfl, fun l e => (by cases e), hb⟩
  | some l =>
    obtain ⟨A, c, he, hc, hr⟩ := h2 l hu
    exact ⟨true, A, _, c, he, rfl, fun l' e => (by cases e; exact ⟨rfl, hc, hr⟩), hb⟩
abbrev set9 (w : World) (g : Nat) (b0 b1 b2 b3 b4 b5 b6 b7 b8 : Value) : World := ((((((((w.setCell ⟨g, 0, none⟩ b0).setCell ⟨g, 1, none⟩ b1).setCell ⟨g, 2, none⟩ b2).setCell ⟨g, 3, none⟩ b3).setCell ⟨g, 4, none⟩ b4).setCell ⟨g, 5, none⟩ b5).setCell ⟨g, 6, none⟩ b6).setCell ⟨g, 7, none⟩ b7).setCell ⟨g, 8, none⟩ b8
theorem kept_set9 {S : Nat → Prop} {w0 w : World} (h : Kept S w0 w) {g : Nat} (hg : S g ∨ w0.heap.size ≤ g) (b0 b1 b2 b3 b4 b5 b6 b7 b8 : Value) : Kept S w0 (set9 w g b0 b1 b2 b3 b4 b5 b6 b7 b8) :=
  ((((((((h.setCell (p := ⟨g, 0, none⟩) hg b0).setCell (p := ⟨g, 1, none⟩) hg b1).setCell (p := ⟨g, 2, none⟩) hg b2).setCell (p := ⟨g, 3, none⟩) hg b3).setCell (p := ⟨g, 4, none⟩) hg b4).setCell (p := ⟨g, 5, none⟩) hg b5).setCell (p := ⟨g, 6, none⟩) hg b6).setCell (p := ⟨g, 7, none⟩) hg b7).setCell (p := ⟨g, 8, none⟩) hg b8
theorem fin9w {w : World} {g : Nat} {T : TypeId} {a0 a1 a2 a3 a4 a5 a6 a7 a8 : Value} (h : Whole w g T #[a0, a1, a2, a3, a4, a5, a6, a7, a8]) (b0 b1 b2 b3 b4 b5 b6 b7 b8 : Value) :
    Whole (set9 w g b0 b1 b2 b3 b4 b5 b6 b7 b8) g T #[b0, b1, b2, b3, b4, b5, b6, b7, b8] ∧ Kept (fun k => k = g) w (set9 w g b0 b1 b2 b3 b4 b5 b6 b7 b8) := by
  have h0 : Whole (w.setCell ⟨g, 0, none⟩ b0) g T #[b0, a1, a2, a3, a4, a5, a6, a7, a8] := h.put 0 b0
  have h1 : Whole _ g T #[b0, b1, a2, a3, a4, a5, a6, a7, a8] := h0.put 1 b1
  have h2 : Whole _ g T #[b0, b1, b2, a3, a4, a5, a6, a7, a8] := h1.put 2 b2
  have h3 : Whole _ g T #[b0, b1, b2, b3, a4, a5, a6, a7, a8] := h2.put 3 b3
  have h4 : Whole _ g T #[b0, b1, b2, b3, b4, a5, a6, a7, a8] := h3.put 4 b4
  have h5 : Whole _ g T #[b0, b1, b2, b3, b4, b5, a6, a7, a8] := h4.put 5 b5
  have h6 : Whole _ g T #[b0, b1, b2, b3, b4, b5, b6, a7, a8] := h5.put 6 b6
  have h7 : Whole _ g T #[b0, b1, b2, b3, b4, b5, b6, b7, a8] := h6.put 7 b7
  have h8 : Whole _ g T #[b0, b1, b2, b3, b4, b5, b6, b7, b8] := h7.put 8 b8
  exact ⟨h8, kept_set9 (Kept.refl (fun k => k = g) w) (.inl rfl) _ _ _ _ _ _ _ _ _⟩
theorem view_two {w2 : World} {g rb : Nat} {D Z : Array Value} {LA : Option Addr} {n c k b : Nat} (hO : Whole w2 (g + 1) 48 D) (hZ : Whole w2 g 48 Z) (hR : Whole w2 rb 83 (rdV LA n c k b)) (h1 : g + 1 ≠ rb) (h2 : g ≠ rb) (h3 : rb ≠ g) (S : Value) :
    Whole ((w2.setCell ⟨g + 1, 6, none⟩ S).setCell ⟨rb, 1, none⟩ (.int .i64 ((k : Int) + 1))) (g + 1) 48 (D.setIfInBounds 6 S) ∧ Whole ((w2.setCell ⟨g + 1, 6, none⟩ S).setCell ⟨rb, 1, none⟩ (.int .i64 ((k : Int) + 1))) g 48 Z ∧
      Whole ((w2.setCell ⟨g + 1, 6, none⟩ S).setCell ⟨rb, 1, none⟩ (.int .i64 ((k : Int) + 1))) rb 83 (rdV LA n c (k + 1) b) ∧ Kept (fun j => j = rb ∨ j = g + 1) w2 ((w2.setCell ⟨g + 1, 6, none⟩ S).setCell ⟨rb, 1, none⟩ (.int .i64 ((k : Int) + 1))) := by
  have ka : Kept (fun j => j = g + 1) w2 (w2.setCell ⟨g + 1, 6, none⟩ S) := (Kept.refl (fun j => j = g + 1) _).setCell (p := ⟨g + 1, 6, none⟩) (.inl rfl) _
  have kb : ∀ W : World, Kept (fun j => j = rb) W (W.setCell ⟨rb, 1, none⟩ (.int .i64 ((k : Int) + 1))) := fun W => (Kept.refl (fun j => j = rb) _).setCell (p := ⟨rb, 1, none⟩) (.inl rfl) _
  exact ⟨(kb _).whole (hO.put 6 S) h1, (kb _).whole (ka.whole hZ (by omega)) h2, (ka.whole hR (fun e => h1 e.symm)).put 1 _, (ka.mono fun _ _ e => .inr e).trans ((kb _).mono fun _ _ e => .inl e)⟩
theorem QStepIt.fails {L : List (List UInt8)} {f deep k rb : Nat} {LA : Option Addr} {Lc : Nat} {w wc w2 : World} {ws : List (List UInt8)} {d : Hd} {RA : Option Addr} {rn rc : Nat} {q : Bool} (hno : opL ws = none) (hst : St ws w d RA rn rc q wc) (hk : Kept (fun j => j = rb) wc w2) (hr : Whole w2 rb 83 (rdV LA L.length Lc k (k + 1)))
    (hz : Whole w2 w.heap.size 48 (opZ 0)) (hne : rb ≠ w.heap.size) (hd : k + deep ≤ L.length + 21) :
    QStepIt L f deep k rb LA Lc w ws (.returned (.agg (opC d (.slice RA rn rc) (.slice none 0 0)))) (set9 w2 w.heap.size (.int .i64 d.kind) (.string ⟨d.name.toArray⟩) (.int .u16 (d.typ : Int)) (.slice RA rn rc) (.int .u64 (d.life : Int)) (.int .u64 (d.n : Int)) (.slice none 0 0) (.int .i64 d.how) (.int .i64 d.code)) :=
  ⟨d, RA, none, rn, rc, 0, 0, k, k + 1, rfl, kept_set9 ((Kept.below hst.below (fun j => j = rb)).trans hk) (.inr (Nat.le_refl _)) _ _ _ _ _ _ _ _ _, (fin9w hz _ _ _ _ _ _ _ _ _).2.whole hr hne, hd,
    fun b' e => (by rw [stepR_none hno] at e; cases e; rfl), fun o k2 e => (by rw [stepR_none hno] at e; cases e)⟩
theorem QStepIt.one {L : List (List UInt8)} {f deep k rb : Nat} {LA : Option Addr} {Lc : Nat} {w wc W1 : World} {ws : List (List UInt8)} {d : Hd} {RA : Option Addr} {rc : Nat} {q : Bool} (ho : opL ws = some d) (h3 : d.kind ≠ 3) (hok : d.Ok) (hrc : d.recs.length ≤ rc ∧ rc ≤ maxLen) (hra : RecsAt (fun j => w.heap.size + 4 ≤ j) wc RA d.recs)
    (hst : St ws w d RA d.recs.length rc q wc) (hk : Kept (fun j => j = rb) wc W1) (hr : Whole W1 rb 83 (rdV LA L.length Lc (k + 1) 0)) (hz : Whole W1 w.heap.size 48 (opZ 0)) (hrl : rb < w.heap.size) (hd : k + 1 + deep ≤ L.length + 21) :
    QStepIt L f deep k rb LA Lc w ws (.returned (.agg (opC d (.slice RA d.recs.length rc) (.slice none 0 0)))) (set9 W1 w.heap.size (.int .i64 d.kind) (.string ⟨d.name.toArray⟩) (.int .u16 (d.typ : Int)) (.slice RA d.recs.length rc) (.int .u64 (d.life : Int)) (.int .u64 (d.n : Int)) (.slice none 0 0) (.int .i64 d.how) (.int .i64 d.code)) :=
  ⟨d, RA, none, _, rc, 0, 0, k + 1, 0, rfl, kept_set9 ((Kept.below hst.below (fun j => j = rb)).trans hk) (.inr (Nat.le_refl _)) _ _ _ _ _ _ _ _ _, (fin9w hz _ _ _ _ _ _ _ _ _).2.whole hr (by omega), hd,
    fun b' e => (by rw [stepR_one ho h3] at e; cases e), fun o k2 e => (by
      rw [stepR_one ho h3] at e
      cases e
      refine ⟨rfl, rfl, [], rfl, hok, rfl, rfl, hrc, by unfold maxLen; simp, RecsAt.turn (fun j i u hj hc => ⟨by omega, (fin9w hz _ _ _ _ _ _ _ _ _).2.cell (hk.cell hc ?_) ?_⟩) hra, opdsAt_nil⟩
      · intro e
        have e : j = rb := e
        omega
      · intro e
        have e : j = w.heap.size := e
        omega)⟩
theorem QStepIt.view {L : List (List UInt8)} {f deep k rb : Nat} {LA : Option Addr} {Lc : Nat} {w wc W1 w2 W3 : World} {ws : List (List UInt8)} {d : Hd} {RA A2 : Option Addr} {rc n2 c2 k' b : Nat} {q : Bool} {D : Array Value} (ho : opL ws = some d) (h3 : d.kind = 3) (hok : d.Ok) (hrc : d.recs.length ≤ rc ∧ rc ≤ maxLen) (hra : RecsAt (fun j => w.heap.size + 4 ≤ j) wc RA d.recs)
    (hst : St ws w d RA d.recs.length rc q wc) (hk1 : Kept (fun j => j = rb) wc W1) (hk2 : Kept (fun j => j = rb) W1 w2)
    (hv : Whole W3 (w.heap.size + 1) 48 D ∧ Whole W3 w.heap.size 48 (opZ 0) ∧ Whole W3 rb 83 (rdV LA L.length Lc (k' + 1) b) ∧ Kept (fun j => j = rb ∨ j = w.heap.size + 1) w2 W3) (hrl : rb < w.heap.size) (hkd : k' + (deep + 1) ≤ L.length + 21)
    (hbad : ∀ b', stp L f (deep + 1) (k + 1) [] = .bad b' → b = b') (hyes : ∀ out k2, stp L f (deep + 1) (k + 1) [] = .ok out k2 → b = 0 ∧ k' = k2 ∧ n2 = out.length ∧ (n2 ≤ c2 ∧ c2 ≤ maxLen) ∧ OpdsAt (fun j => W1.heap.size ≤ j) w2 A2 0 out) :
    QStepIt L f deep k rb LA Lc w ws (.returned (.agg (opC d (.slice RA d.recs.length rc) (.slice A2 n2 c2)))) (set9 W3 w.heap.size (.int .i64 d.kind) (.string ⟨d.name.toArray⟩) (.int .u16 (d.typ : Int)) (.slice RA d.recs.length rc) (.int .u64 (d.life : Int)) (.int .u64 (d.n : Int)) (.slice A2 n2 c2) (.int .i64 d.how) (.int .i64 d.code)) := by
  have hs1 := hst.size
  have hs2 := hk1.size
  have hall : Kept (fun j => j = rb ∨ j = w.heap.size + 1) wc W3 := ((hk1.trans hk2).mono fun _ _ e => .inl e).trans hv.2.2.2
  have hkw : Kept (fun j => j = rb) w W3 := by
    have h1 := (Kept.below hst.below (fun j => j = rb)).trans (hk1.trans hk2)
    exact ⟨hv.2.2.2.os.trans h1.os, hv.2.2.2.tape.trans h1.tape, hv.2.2.2.output.trans h1.output, Nat.le_trans h1.size hv.2.2.2.size, fun j hj hjr => (hv.2.2.2.block j (Nat.lt_of_lt_of_le hj h1.size) (by
      rintro (e | e)
      · exact hjr e
      · omega)).trans (h1.block j hj hjr)⟩
  have hsz := (fin9w hv.2.1 (.int .i64 d.kind) (.string ⟨d.name.toArray⟩) (.int .u16 (d.typ : Int)) (.slice RA d.recs.length rc) (.int .u64 (d.life : Int)) (.int .u64 (d.n : Int)) (.slice A2 n2 c2) (.int .i64 d.how) (.int .i64 d.code)).2
  refine ⟨d, RA, A2, _, rc, n2, c2, k' + 1, b, rfl, kept_set9 hkw (.inr (Nat.le_refl _)) _ _ _ _ _ _ _ _ _, hsz.whole hv.2.2.1 (by omega), by omega, fun b' e => ?_, fun o k2 e => ?_⟩
  · cases hs : stp L f (deep + 1) (k + 1) [] with
    | bad b2 =>
      rw [stepR_bad ho h3 hs] at e
      cases e
      exact hbad _ hs
    | ok sub k3 =>
      rw [stepR_view ho h3 hs] at e
      cases e
  · cases hs : stp L f (deep + 1) (k + 1) [] with
    | bad b2 =>
      rw [stepR_bad ho h3 hs] at e
      cases e
    | ok sub k3 =>
      rw [stepR_view ho h3 hs] at e
      cases e
      obtain ⟨e1, e2, e3, e4, e5⟩ := hyes _ _ hs
      refine ⟨e1, by rw [e2], sub, rfl, hok, rfl, e3, hrc, by rw [← e3]; exact e4, RecsAt.turn (fun j i u hj hc => ⟨by omega, hsz.cell (hall.cell hc ?_) ?_⟩) hra, OpdsAt.turn (fun j i u hj hc => ⟨by omega, hsz.cell (hv.2.2.2.cell hc ?_) ?_⟩) A2 0 sub e5⟩
      · rintro (e | e)
        · have e : j = rb := e
          omega
        · have e : j = w.heap.size + 1 := e
          omega
      · intro e
        have e : j = w.heap.size := e
        omega
      · rintro (e | e)
        · have e : j = rb := e
          omega
        · have e : j = w.heap.size + 1 := e
          omega
      · intro e
        have e : j = w.heap.size := e
        omega
theorem two_one (w : World) (T : TypeId) (x y : Array Value) : (w.alloc (.cells x T)).heap.size = w.heap.size + 1 := by simp
theorem KL.start {ws : List (List UInt8)} (w : World) : KL ws w 0 ((((w.alloc (.cells (opZ 0) 48)).alloc (.cells (opZ 0) 48)).alloc (.cells kindsC 9)).alloc (.cells manyC 3)) := by
  have s1 : (w.alloc (.cells (opZ 0) 48)).heap.size = w.heap.size + 1 := by simp
  have s2 : ((w.alloc (.cells (opZ 0) 48)).alloc (.cells (opZ 0) 48)).heap.size = w.heap.size + 2 := by simp
  have s3 : (((w.alloc (.cells (opZ 0) 48)).alloc (.cells (opZ 0) 48)).alloc (.cells kindsC 9)).heap.size = w.heap.size + 3 := by simp
  have h1 := Whole.new w 48 (opZ 0)
  have h2 := Whole.new (w.alloc (.cells (opZ 0) 48)) 48 (opZ 0)
  have h3 := Whole.new ((w.alloc (.cells (opZ 0) 48)).alloc (.cells (opZ 0) 48)) 9 kindsC
  have h4 := Whole.new (((w.alloc (.cells (opZ 0) 48)).alloc (.cells (opZ 0) 48)).alloc (.cells kindsC 9)) 3 manyC
  rw [s1] at h2
  rw [s2] at h3
  rw [s3] at h4
  have ka : ∀ (W : World) (ob : Obj), Kept (fun _ => False) W (W.alloc ob) := fun W ob => (Kept.refl _ _).alloc ob
  refine ⟨((((Below.refl _ _).alloc (Nat.le_refl _) _).alloc (by omega) _).alloc (by omega) _).alloc (by omega) _, by simp, ?_, ?_, (ka _ _).whole h3 id, h4⟩
  · exact (ka _ _).whole ((ka _ _).whole ((ka _ _).whole h1 id) id) id
  · rw [kindTo_zero]
    exact (ka _ _).whole ((ka _ _).whole h2 id) id
end Go.Proofs.YtifmgmiaeoiidaaGreatDoor
