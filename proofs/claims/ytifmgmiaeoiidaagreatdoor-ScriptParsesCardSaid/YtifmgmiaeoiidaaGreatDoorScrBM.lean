/-
  The walk of the reference's step (layer script), for lines of the kinds 3. Fewer than 2^32 lines of at most 2^31 bytes.
-/
import Derived.Test.YtifmgmiaeoiidaaGreatDoorScrCB
import Derived.Test.YtifmgmiaeoiidaaGreatDoorScrAF
import Derived.Deep.DeepCutAuto
import Derived.Deep.CutBlock
namespace Go.Proofs.YtifmgmiaeoiidaaGreatDoor
open Go.RowKit Go.Colm Go.Scrp
set_option linter.unusedVariables false

set_option maxRecDepth 100000 in
set_option maxHeartbeats 16000000 in
theorem qstep_c {L : List (List UInt8)} {f : Nat} (H : QReadOK L f) (deep k rb : Nat) (LA : Option Addr) (Lc : Nat) (ws : List (List UInt8)) (A : Option Addr) (c : Nat) (w : World) (hrd : Whole w rb 83 (rdV LA L.length Lc k 0)) (hrow : RowN (fun j => j ≠ rb) w LA (txtV L)) (hr : RowV w A (txtV ws)) (hc : ws.length ≤ c)
    (h0 : 0 < ws.length) (hlen : ∀ x ∈ ws, x.length ≤ 2147483648) (hd1 : 1 ≤ deep) (hd20 : deep ≤ 20) (hk : k < L.length) (hf : L.length - (k + 1) < f) (hLn : L.length ≤ 4294967296) (hLs : ∀ x ∈ L, x.length ≤ 2147483648) (hwl : ws.length ≤ 4294967296) (hkc : kindL ws = 3) :
    Calls Tryz.prog 56 #[.pointer (some ⟨rb, 0, none⟩), .slice A ws.length c, .int .i64 (deep : Int)] w (QStepIt L f deep k rb LA Lc w ws) := by
  obtain ⟨X0, hX0⟩ : ∃ x : ByteArray, x = ⟨(ws.getD 0 []).toArray⟩ := ⟨_, rfl⟩
  obtain ⟨bA, offA, rfl, hc0⟩ := hr 0 (.string X0) (by
    rw [hX0]
    cases ws with
    | nil => simp at h0
    | cons a r => rfl)
  rw [Nat.add_zero] at hc0
  have hq0 : ∀ t : List UInt8, (X0.toList == t) = decide (ws.getD 0 [] = t) := fun t => by rw [hX0]; exact str_beq2 _ _
  have hlA := lt_of_cell hc0
  dsimp only at hlA
  have HH := Lib.hid H
  have HRD := Lib.hid hrd
  have HROW := Lib.hid hrow
  have HR := Lib.hid hr
  have HL := Lib.hid hlen
  have HLS := Lib.hid hLs
  have HQ0 := Lib.hid hq0
  have HC0 := Lib.hid hc0
  have HK0 := Lib.hid (KL.start (ws := ws) w)
  have HKC := Lib.hid hkc
  clear H hrd hrow hr hlen hLs hX0 hq0 hc0 hkc
  go_enter Tryz.func56, Tryz.ntmps56
  go_wp2_with fail
  go_loopw [10] (fun i wr => ∃ n : Nat, n ≤ 8 ∧ i = .int .i64 n ∧ Hid (KL ws w n wr)) (fun i _ => 8 - (intOf i).toNat)
  case atStart => exact ⟨0, Nat.zero_le _, rfl, HK0⟩
  case round =>
    obtain ⟨n, hn, rfl, HC⟩ := hrel
    clear HK0
    by_cases hlt : n < 8
    · obtain ⟨ka, ma⟩ := kinds_at hlt
      obtain ⟨sn, hsn⟩ : ∃ s : ByteArray, s = ⟨(spellT ((n + 1 : Nat) : Int)).1.toArray⟩ := ⟨_, rfl⟩
      obtain ⟨sm, hsm⟩ : ∃ s : Nat, s = (spellT ((n + 1 : Nat) : Int)).2 := ⟨_, rfl⟩
      rw [← hsn] at ka
      rw [← hsm] at ma
      have x0 : wr.cell? ⟨bA, offA, none⟩ = some (.string X0) := (HC.out.below.cell (p := ⟨bA, offA, none⟩) hlA).trans HC0.out
      have x1 : wr.cell? ⟨w.heap.size + 2, n, none⟩ = some (.string sn) := (HC.out.kinds.cell n).trans ka
      have x2 : wr.cell? ⟨w.heap.size + 3, n, none⟩ = some (.int .i64 (sm : Int)) := (HC.out.many.cell n).trans ma
      have hsnl : sn.toList = (spellT ((n + 1 : Nat) : Int)).1 := by rw [hsn, ByteArray.toList_mk]
      have hsq : (X0.toList == sn.toList) = decide (ws.getD 0 [] = (spellT ((n + 1 : Nat) : Int)).1) := by rw [hsnl]; exact HQ0.out _
      have hmk : matchK ws (n + 1) = (decide (ws.getD 0 [] = (spellT ((n + 1 : Nat) : Int)).1) && decide (sm = ws.length)) := by
        rw [matchK, hsm]
        congr 1
        exact decide_eq_decide.2 eq_comm
      have HMK := Lib.hid hmk
      clear ka ma hsnl hsn hsm hmk
      by_cases e1 : ws.getD 0 [] = (spellT ((n + 1 : Nat) : Int)).1
      · rw [decide_eq_true e1] at hsq
        by_cases e2 : sm = ws.length
        · have t2 : ((ws.length : Int) == (sm : Int)) = true := by rw [beq_iff_eq]; omega
          have HN := Lib.hid (HC.out.yes hlt (by rw [HMK.out, decide_eq_true e1, decide_eq_true e2]; rfl))
          have HKD := Lib.hid fun m => (HC.out.drewN m).yes hlt (by rw [HMK.out, decide_eq_true e1, decide_eq_true e2]; rfl)
          have y0 := fun m => (HC.out.drewN m).op.cell 0
          have y1 := fun m => (HC.out.drewN m).op.frozen 0
          clear e1 e2
          go_wp2_with fail
          go_quiet (fail)
          go_wp2_with fail
          go_roundw
          case rel => exact ⟨n + 1, by omega, by go_num, HKD.out _⟩
          case measure => simp [intOf]; omega
        · have t2 : ((ws.length : Int) == (sm : Int)) = false := by rw [beq_eq_false_iff_ne]; omega
          have HKD := Lib.hid fun m => (HC.out.drewN m).no hlt (by rw [HMK.out, decide_eq_false e2]; simp)
          clear e1 e2
          go_wp2_with fail
          go_quiet (fail)
          go_wp2_with fail
          go_roundw
          case rel => exact ⟨n + 1, by omega, by go_num, HKD.out _⟩
          case measure => simp [intOf]; omega
      · rw [decide_eq_false e1] at hsq
        have HKD := Lib.hid fun m => (HC.out.drewN m).no hlt (by rw [HMK.out, decide_eq_false e1]; simp)
        clear e1
        go_wp2_with fail
        go_quiet (fail)
        go_wp2_with fail
        go_roundw
        case rel => exact ⟨n + 1, by omega, by go_num, HKD.out _⟩
        case measure => simp [intOf]; omega
    · have hn8 : n = 8 := by omega
      subst hn8
      obtain ⟨K, hK⟩ : ∃ K, K = kindL ws := ⟨_, rfl⟩
      have hk8 := kindL_le ws
      have hop := HC.out.op
      rw [kindTo_all, ← hK] at hop
      rw [← hK] at hk8
      have HOP := Lib.hid hop
      have hWA : ∀ W i v, Below w.heap.size w W → (txtV ws)[i]? = some v → W.cell? ⟨bA, offA + i, none⟩ = some v := fun W i v hb hv => by
        obtain ⟨b', off', e, hcc⟩ := HR.out i v hv
        cases e
        exact (hb.cell (p := ⟨bA, offA + i, none⟩) (lt_of_cell hcc)).trans hcc
      have HWA := Lib.hid hWA
      have HK := Lib.hid hK
      have HB0 := Lib.hid HC.out.below
      have HS0 := Lib.hid HC.out.size
      have HRS := Lib.hid HC.out.res
      clear hop hK hWA HC HQ0 HC0
      have x0 : wr.cell? ⟨w.heap.size + 1, 0, none⟩ = some (.int .i64 (K : Int)) := HOP.out.cell 0
      go_upto_region 10 with fail
      go_cut [62] (fun q wx => q = .bool (keyT (K : Int)) ∧ wr = wx)
      case first =>
        by_cases k1 : 1 ≤ K
        · by_cases k4 : K ≤ 4
          · have hkt : keyT (K : Int) = true := by
              unfold keyT
              rw [decide_eq_true (by omega), decide_eq_true (by omega)]
              rfl
            have HKT := Lib.hid hkt
            clear hkt
            go_wp2_with fail
            go_meet
            exact ⟨by rw [HKT.out]; try first | rfl | exact congrArg Value.bool (decide_eq_true (by omega)) | exact congrArg Value.bool (decide_eq_false (by omega)), rfl⟩
          · have hkt : keyT (K : Int) = false := by
              unfold keyT
              rw [decide_eq_false (p := (K : Int) ≤ 4) (by omega), Bool.and_false]
            have HKT := Lib.hid hkt
            clear hkt
            go_wp2_with fail
            go_meet
            exact ⟨by rw [HKT.out]; try first | rfl | exact congrArg Value.bool (decide_eq_true (by omega)) | exact congrArg Value.bool (decide_eq_false (by omega)), rfl⟩
        · have hkt : keyT (K : Int) = false := by
            unfold keyT
            rw [decide_eq_false (p := 1 ≤ (K : Int)) (by omega), Bool.false_and]
          have HKT := Lib.hid hkt
          clear hkt
          go_wp2_with fail
          go_meet
          exact ⟨by rw [HKT.out]; try first | rfl | exact congrArg Value.bool (decide_eq_true (by omega)) | exact congrArg Value.bool (decide_eq_false (by omega)), rfl⟩
      case rest =>
      obtain ⟨rfl, rfl⟩ := hcut
      obtain ⟨kq, hkq⟩ : ∃ q, q = keyT (K : Int) := ⟨_, rfl⟩
      rw [← hkq]
      have HKQ := Lib.hid hkq
      clear hkq
      go_upto_if 62 with fail
      go_cut [11, 12, 13, 14, 15] (fun ok _ _ _ _ wx => ∃ (un : List UInt8) (nv : Nat) (q : Bool), ok = .bool q ∧ nv ≤ 65535 ∧ Hid (KeyIt ws K un nv q) ∧ Hid (S1 w (opU (K : Int) un nv) wx))
      case first =>
        cases kq
        · go_wp2_with fail
          go_meet
          exact ⟨[], 0, _, rfl, by omega, Lib.hid ⟨fun h => Bool.noConfusion (HKQ.out.trans h), fun _ => ⟨rfl, rfl, by first | rfl | (exact decide_eq_decide.2 (by omega))⟩⟩, Lib.hid ⟨HB0.out, HS0.out, HRS.out, HOP.out⟩⟩
        · have hk14 : 1 ≤ K ∧ K ≤ 4 := by
            have := HKQ.out
            unfold keyT at this
            simp at this
            omega
          have hwn : 3 ≤ ws.length := by
            have h := (kind_many (ws := ws) (by rw [← HK.out]; omega)).1
            rw [← HK.out] at h
            have hh : K = 1 ∨ K = 2 ∨ K = 3 ∨ K = 4 := by omega
            rcases hh with rfl | rfl | rfl | rfl <;> (have h : _ = ws.length := h; simp [spellT] at h; omega)
          have hl1 := HL.out (ws.getD 1 []) (getD_mem (by omega))
          have hl2 := HL.out (ws.getD 2 []) (getD_mem (by omega))
          obtain ⟨un, hun⟩ : ∃ q, q = (unwordL (ws.getD 1 [])).getD [] := ⟨_, rfl⟩
          obtain ⟨uq, huq⟩ : ∃ q, q = (unwordL (ws.getD 1 [])).isSome := ⟨_, rfl⟩
          obtain ⟨nv, hnv⟩ : ∃ q, q = (numL (ws.getD 2 []) 65535).getD 0 := ⟨_, rfl⟩
          obtain ⟨nq, hnq⟩ : ∃ q, q = (numL (ws.getD 2 []) 65535).isSome := ⟨_, rfl⟩
          have hnv6 : nv ≤ 65535 := by rw [hnv]; exact num_most (by omega)
          have HUW := Lib.hid fun W => runword_one (ws.getD 1 []) W (by omega)
          have HNM := Lib.hid fun W => rnumber_one (ws.getD 2 []) 65535 W (by omega) (by omega) (by omega)
          simp only [← hun, ← huq] at HUW
          simp only [← hnv, ← hnq] at HNM
          rw [show ((65535 : Nat) : Int) = 65535 from rfl] at HNM
          have HKI : Hid (KeyIt ws K un nv (uq && nq)) := Lib.hid ⟨fun _ => ⟨hun, hnv, by rw [huq, hnq]⟩, fun h => (by rw [← HKQ.out] at h; cases h)⟩
          obtain ⟨B1, hB1⟩ : ∃ x : ByteArray, x = ⟨(ws.getD 1 []).toArray⟩ := ⟨_, rfl⟩
          obtain ⟨B2, hB2⟩ : ∃ x : ByteArray, x = ⟨(ws.getD 2 []).toArray⟩ := ⟨_, rfl⟩
          rw [← hB1] at HUW
          rw [← hB2] at HNM
          have y1 : wr.cell? ⟨bA, offA + 1, none⟩ = some (.string B1) := HWA.out wr 1 _ HB0.out (by rw [hB1]; exact txt_at (by omega))
          have HY2 : Hid (∀ W, Below w.heap.size w W → W.cell? ⟨bA, offA + 2, none⟩ = some (.string B2)) := Lib.hid fun W hb => HWA.out W 2 _ hb (by rw [hB2]; exact txt_at (by omega))
          clear hun huq hnv hnq hl1 hl2 hB1 hB2
          go_wp2_with fail
          refine (HUW.out _).mono ?_
          rintro e w2 ⟨rfl, hb2⟩
          have HB2 := Lib.hid (below_chain HB0.out hb2)
          have y2 := HY2.out _ HB2.out
          have hz2 := Nat.le_trans HS0.out hb2.size
          have HO2 : Hid (Whole w2 (w.heap.size + 1) 48 (opZ (K : Int))) := Lib.hid ((hb2.block _ HOP.out.lt).trans HOP.out)
          have HR2 : Hid (Whole w2 w.heap.size 48 (opZ 0)) := Lib.hid ((hb2.block _ HRS.out.lt).trans HRS.out)
          clear hb2 x0 y1
          go_wp2_with fail
          refine (HNM.out _).mono ?_
          rintro e w3 ⟨rfl, hb3⟩
          have HB3 := Lib.hid (below_chain HB2.out hb3)
          have hz3 := Nat.le_trans hz2 hb3.size
          have HO3 : Hid (Whole w3 (w.heap.size + 1) 48 (opZ (K : Int))) := Lib.hid ((hb3.block _ HO2.out.lt).trans HO2.out)
          have HR3 : Hid (Whole w3 w.heap.size 48 (opZ 0)) := Lib.hid ((hb3.block _ HR2.out.lt).trans HR2.out)
          have x1 : w3.cell? ⟨w.heap.size + 1, 1, none⟩ = some (.string ⟨#[]⟩) := HO3.out.cell 1
          have f1 := HO3.out.frozen 1
          have x2 : w3.cell? ⟨w.heap.size + 1, 2, none⟩ = some (.int .u16 0) := HO3.out.cell 2
          have f2 := HO3.out.frozen 2
          have HS1 : Hid (S1 w (opU (K : Int) un nv) ((w3.setCell ⟨w.heap.size + 1, 1, none⟩ (.string ⟨un.toArray⟩)).setCell ⟨w.heap.size + 1, 2, none⟩ (.int .u16 (nv : Int)))) := Lib.hid (S1.put2 ⟨HB3.out, hz3, HR3.out, HO3.out⟩)
          clear hb3 y2
          cases uq
          · go_wp2_with fail
            go_meet
            exact ⟨un, nv, _, rfl, hnv6, HKI, HS1⟩
          · go_wp2_with fail
            go_meet
            exact ⟨un, nv, _, rfl, hnv6, HKI, HS1⟩
      case rest =>
      obtain ⟨un, nv, q, rfl, hnv6, HKI, HS1⟩ := hcut
      clear x0 HB0 HS0 HRS HOP
      have x0 : wc.cell? ⟨w.heap.size + 1, 0, none⟩ = some (.int .i64 (K : Int)) := HS1.out.op.cell 0
      go_upto_block 2 with fail
      go_cut [11, 16, 17, 18, 19, 20, 21, 22, 23, 89, 116, 154] (fun ok _ _ _ _ _ _ _ _ _ _ _ wx => ∃ (d : Hd) (RA : Option Addr) (rn rc : Nat) (q : Bool), ok = .bool q ∧ Hid (St ws w d RA rn rc q wx))
      case first =>
        clear x0
        have hk9 : K = 0 ∨ K = 1 ∨ K = 2 ∨ K = 3 ∨ K = 4 ∨ K = 5 ∨ K = 6 ∨ K = 7 ∨ K = 8 := by omega
        rcases hk9 with rfl | rfl | rfl | rfl | rfl | rfl | rfl | rfl | rfl
        · -- kind 0
          exact absurd HKC.out (by rw [← HK.out]; decide)
        · -- kind 1
          exact absurd HKC.out (by rw [← HK.out]; decide)
        · -- kind 2
          exact absurd HKC.out (by rw [← HK.out]; decide)
        · -- kind 3
          obtain ⟨a, b, d, f, g, h, rfl⟩ := list6 (α := List UInt8) (l := ws) (by have h := (kind_many (ws := ws) (by rw [← HK.out]; decide)).1; rw [← HK.out] at h; exact h)
          obtain ⟨hun0, hnv0, hq0⟩ := HKI.out.1 (by decide)
          have hun : un = (unwordL b).getD [] := hun0
          have hnv : nv = (numL d 65535).getD 0 := hnv0
          have hq : q = ((unwordL b).isSome && (numL d 65535).isSome) := hq0
          clear hun0 hnv0 hq0
          have hlg := HL.out g (by simp)
          obtain ⟨F3, hF3⟩ : ∃ x : ByteArray, x = ⟨f.toArray⟩ := ⟨_, rfl⟩
          obtain ⟨H5, hH5⟩ : ∃ x : ByteArray, x = ⟨h.toArray⟩ := ⟨_, rfl⟩
          have e1 : (F3.toList == [114, 101, 116, 117, 114, 110]) = decide (f = [114, 101, 116, 117, 114, 110]) := by rw [hF3]; exact str_beq2 _ _
          have e2 : (F3.toList == [112, 97, 110, 105, 99]) = decide (f = [112, 97, 110, 105, 99]) := by rw [hF3]; exact str_beq2 _ _
          have e3 : (H5.toList == [123]) = decide (h = [123]) := by rw [hH5]; exact str_beq2 _ _
          have HSG := Lib.hid fun W => rsigned_one g W (by omega)
          have HY : Hid (∀ W, Below w.heap.size w W → W.cell? ⟨bA, offA + 3, none⟩ = some (.string F3) ∧ W.cell? ⟨bA, offA + 5, none⟩ = some (.string H5)) := Lib.hid fun W hb => ⟨HWA.out W 3 _ hb (by rw [hF3]; rfl), HWA.out W 5 _ hb (by rw [hH5]; rfl)⟩
          have y4 : wc.cell? ⟨bA, offA + 4, none⟩ = some (.string ⟨g.toArray⟩) := HWA.out wc 4 _ HS1.out.below rfl
          have x0 : wc.cell? ⟨w.heap.size + 1, 0, none⟩ = some (.int .i64 3) := HS1.out.op.cell 0
          have hop3 := fun v hv => opq_3 (a := a) (b := b) (d := d) (f := f) (g := g) (h := h) HK.out.symm v hv
          rw [← hun, ← hnv, ← hq] at hop3
          have HOP3 := Lib.hid hop3
          have hhow : howL f = if decide (f = [112, 97, 110, 105, 99]) = true then 1 else 0 := by
            unfold howL
            by_cases hh : f = [112, 97, 110, 105, 99]
            · rw [if_pos hh, if_pos (decide_eq_true hh)]
            · rw [if_neg hh, if_neg (by rw [decide_eq_true_eq]; exact hh)]
          have hne : ¬ (decide (f = [114, 101, 116, 117, 114, 110]) = true ∧ decide (f = [112, 97, 110, 105, 99]) = true) := by
            rintro ⟨h1, h2⟩
            rw [decide_eq_true_eq] at h1 h2
            rw [h1] at h2
            cases h2
          obtain ⟨r1, hr1⟩ : ∃ r, r = decide (f = [114, 101, 116, 117, 114, 110]) := ⟨_, rfl⟩
          obtain ⟨r2, hr2⟩ : ∃ r, r = decide (f = [112, 97, 110, 105, 99]) := ⟨_, rfl⟩
          obtain ⟨r3, hr3⟩ : ∃ r, r = decide (h = [123]) := ⟨_, rfl⟩
          rw [← hr1] at e1 hne
          rw [← hr2] at e2 hne hhow
          rw [← hr3] at e3
          rw [← hr1, ← hr2, ← hr3, hhow] at HOP3
          clear hop3 hq hun hnv hF3 hH5 hr1 hr2 hr3 hhow
          go_wp2_with fail
          refine (HSG.out _).mono ?_
          rintro e w3 ⟨v, rfl, hv, hb3⟩
          have HS3 := Lib.hid (HS1.out.next hb3)
          obtain ⟨y3, y5⟩ := HY.out w3 HS3.out.below
          have HOPV := Lib.hid (HOP3.out v hv)
          obtain ⟨sq, hsq⟩ : ∃ s, s = (codeL g).isSome := ⟨_, rfl⟩
          rw [← hsq] at HOPV ⊢
          clear hb3 y4 x0 hv hsq
          have x7 : w3.cell? ⟨w.heap.size + 1, 7, none⟩ = some (.int .i64 0) := HS3.out.op.cell 7
          have f7 := HS3.out.op.frozen 7
          have x8 : w3.cell? ⟨w.heap.size + 1, 8, none⟩ = some (.int .i64 0) := HS3.out.op.cell 8
          have f8 := HS3.out.op.frozen 8
          have hneA : bA ≠ w.heap.size + 1 := by omega
          have hneB : w.heap.size + 1 ≠ bA := by omega
          have HST1 : Hid (r2 = false → St [a, b, d, f, g, h] w (⟨3, un, nv, [], 0, 0, 0, v⟩ : Hd) none 0 0 (((q && sq) && (r1 || r2)) && r3) (w3.setCell ⟨w.heap.size + 1, 8, none⟩ (.int .i64 v))) := Lib.hid fun hr => St.view0 HS3.out HOPV.out.1.symm (fun h' e => by have := HOPV.out.2 h' e; rw [hr, if_neg (by simp)] at this; exact this)
          have HST2 : Hid (r2 = true → St [a, b, d, f, g, h] w (⟨3, un, nv, [], 0, 0, 1, v⟩ : Hd) none 0 0 (((q && sq) && (r1 || r2)) && r3) ((w3.setCell ⟨w.heap.size + 1, 8, none⟩ (.int .i64 v)).setCell ⟨w.heap.size + 1, 7, none⟩ (.int .i64 1))) := Lib.hid fun hr => St.view1 HS3.out HOPV.out.1.symm (fun h' e => by have := HOPV.out.2 h' e; rw [hr, if_pos rfl] at this; exact this)
          clear HOPV HOP3
          go_upto_region 24 with fail
          go_cut [11] (fun ok wx => ok = .bool (((q && sq) && (r1 || r2)) && r3) ∧ w3 = wx)
          case first =>
            clear HST1 HST2
            cases q
            · go_wp2_with fail
              go_meet
              exact ⟨by simp, rfl⟩
            · cases sq
              · go_wp2_with fail
                go_meet
                exact ⟨by simp, rfl⟩
              · cases r1
                · cases r2
                  · go_wp2_with fail
                    go_meet
                    exact ⟨by simp, rfl⟩
                  · go_wp2_with fail
                    go_meet
                    exact ⟨by simp, rfl⟩
                · go_wp2_with fail
                  go_meet
                  exact ⟨by simp, rfl⟩
          case rest =>
          obtain ⟨rfl, rfl⟩ := hcut
          obtain ⟨zz, hzz⟩ : ∃ z, z = (((q && sq) && (r1 || r2)) && r3) := ⟨_, rfl⟩
          rw [← hzz] at HST1 HST2 ⊢
          clear hzz e1 e3 y5 hne
          cases r2
          · have HST := Lib.hid (HST1.out rfl)
            clear HST1 HST2
            go_wp2_with fail
            go_meet
            exact ⟨_, _, _, _, _, rfl, HST⟩
          · have HST := Lib.hid (HST2.out rfl)
            clear HST1 HST2
            go_wp2_with fail
            go_meet
            exact ⟨_, _, _, _, _, rfl, HST⟩
        · -- kind 4
          exact absurd HKC.out (by rw [← HK.out]; decide)
        · -- kind 5
          exact absurd HKC.out (by rw [← HK.out]; decide)
        · -- kind 6
          exact absurd HKC.out (by rw [← HK.out]; decide)
        · -- kind 7
          exact absurd HKC.out (by rw [← HK.out]; decide)
        · -- kind 8
          exact absurd HKC.out (by rw [← HK.out]; decide)
      case rest =>
      obtain ⟨d, RA, rn, rc, q, rfl, HST⟩ := hcut
      clear x0 HS1 HKI hnv6 HWA HL
      have hrl := HRD.out.lt
      have hne1 : rb ≠ w.heap.size := by omega
      have hne2 : rb ≠ w.heap.size + 1 := by omega
      have hne3 : w.heap.size ≠ rb := by omega
      have hne4 : w.heap.size + 1 ≠ rb := by omega
      have HRB : Hid (Whole wc rb 83 (rdV LA L.length Lc k 0)) := Lib.hid ((HST.out.below.block rb hrl).trans HRD.out)
      cases q
      · have HF := Lib.hid (rfail_any rb LA L.length Lc k wc HRB.out (by omega))
        go_wp2_with fail
        refine HF.out.mono ?_
        rintro e w2 ⟨rfl, hr2, hk2⟩
        have HR2 := Lib.hid hr2
        have HK2 := Lib.hid hk2
        have HO2 := Lib.hid (hk2.whole HST.out.op hne4)
        have HZ2 := Lib.hid (hk2.whole HST.out.res hne3)
        clear hr2 hk2
        have hnone : opL ws = none := Option.isNone_iff_eq_none.1 (by rw [← Option.not_isSome, ← HST.out.is]; rfl)
        have HNO := Lib.hid hnone
        clear hnone
        have x0 : w2.cell? ⟨w.heap.size + 1, 0, none⟩ = some (.int .i64 d.kind) := HO2.out.cell 0
        have x1 : w2.cell? ⟨w.heap.size + 1, 1, none⟩ = some (.string ⟨d.name.toArray⟩) := HO2.out.cell 1
        have x2 : w2.cell? ⟨w.heap.size + 1, 2, none⟩ = some (.int .u16 (d.typ : Int)) := HO2.out.cell 2
        have x3 : w2.cell? ⟨w.heap.size + 1, 3, none⟩ = some (.slice RA rn rc) := HO2.out.cell 3
        have x4 : w2.cell? ⟨w.heap.size + 1, 4, none⟩ = some (.int .u64 (d.life : Int)) := HO2.out.cell 4
        have x5 : w2.cell? ⟨w.heap.size + 1, 5, none⟩ = some (.int .u64 (d.n : Int)) := HO2.out.cell 5
        have x6 : w2.cell? ⟨w.heap.size + 1, 6, none⟩ = some (.slice none 0 0) := HO2.out.cell 6
        have x7 : w2.cell? ⟨w.heap.size + 1, 7, none⟩ = some (.int .i64 d.how) := HO2.out.cell 7
        have x8 : w2.cell? ⟨w.heap.size + 1, 8, none⟩ = some (.int .i64 d.code) := HO2.out.cell 8
        have z0 : w2.cell? ⟨w.heap.size, 0, none⟩ = some (.int .i64 0) := HZ2.out.cell 0
        have g0 := HZ2.out.frozen 0
        have z1 : w2.cell? ⟨w.heap.size, 1, none⟩ = some (.string ⟨#[]⟩) := HZ2.out.cell 1
        have g1 := HZ2.out.frozen 1
        have z2 : w2.cell? ⟨w.heap.size, 2, none⟩ = some (.int .u16 0) := HZ2.out.cell 2
        have g2 := HZ2.out.frozen 2
        have z3 : w2.cell? ⟨w.heap.size, 3, none⟩ = some (.slice none 0 0) := HZ2.out.cell 3
        have g3 := HZ2.out.frozen 3
        have z4 : w2.cell? ⟨w.heap.size, 4, none⟩ = some (.int .u64 0) := HZ2.out.cell 4
        have g4 := HZ2.out.frozen 4
        have z5 : w2.cell? ⟨w.heap.size, 5, none⟩ = some (.int .u64 0) := HZ2.out.cell 5
        have g5 := HZ2.out.frozen 5
        have z6 : w2.cell? ⟨w.heap.size, 6, none⟩ = some (.slice none 0 0) := HZ2.out.cell 6
        have g6 := HZ2.out.frozen 6
        have z7 : w2.cell? ⟨w.heap.size, 7, none⟩ = some (.int .i64 0) := HZ2.out.cell 7
        have g7 := HZ2.out.frozen 7
        have z8 : w2.cell? ⟨w.heap.size, 8, none⟩ = some (.int .i64 0) := HZ2.out.cell 8
        have g8 := HZ2.out.frozen 8
        go_wp2_with fail
        refine bodyPost_ret (results_cell_row1 rfl _ _ w.heap.size 48 #[.int .i64 d.kind, .string ⟨d.name.toArray⟩, .int .u16 (d.typ : Int), .slice RA rn rc, .int .u64 (d.life : Int), .int .u64 (d.n : Int), .slice none 0 0, .int .i64 d.how, .int .i64 d.code] (0, 0) _ rfl (fin9w HZ2.out _ _ _ _ _ _ _ _ _).1 Tryz.underlying48 rfl (by kernel_rfl)) rfl ?_
        exact QStepIt.fails HNO.out HST.out HK2.out HR2.out HZ2.out hne1 (by omega)
      · obtain ⟨d', hd'⟩ := Option.isSome_iff_exists.1 HST.out.is.symm
        obtain ⟨rfl, rfl, hrc, hra⟩ := HST.out.yes d' hd'
        have HOPD := Lib.hid hd'
        have HRC := Lib.hid hrc
        have HRA := Lib.hid hra
        clear hd' hrc hra
        have x0 : wc.cell? ⟨w.heap.size + 1, 0, none⟩ = some (.int .i64 d'.kind) := HST.out.op.cell 0
        have r1 : wc.cell? ⟨rb, 1, none⟩ = some (.int .i64 (k : Int)) := HRB.out.cell 1
        have s1 := HRB.out.frozen 1
        have hkp1 : Kept (fun j => j = rb) wc (wc.setCell ⟨rb, 1, none⟩ (.int .i64 ((k : Int) + 1))) := (Kept.refl (fun j => j = rb) _).setCell (p := ⟨rb, 1, none⟩) (.inl rfl) _
        have HR1 : Hid (Whole (wc.setCell ⟨rb, 1, none⟩ (.int .i64 ((k : Int) + 1))) rb 83 (rdV LA L.length Lc (k + 1) 0)) := Lib.hid (HRB.out.put 1 _)
        have HK1 := Lib.hid hkp1
        have HO1 := Lib.hid (hkp1.whole HST.out.op hne4)
        have HZ1 := Lib.hid (hkp1.whole HST.out.res hne3)
        have x10 : (wc.setCell ⟨rb, 1, none⟩ (.int .i64 ((k : Int) + 1))).cell? ⟨w.heap.size + 1, 0, none⟩ = some (.int .i64 d'.kind) := HO1.out.cell 0
        clear hkp1
        by_cases hk3 : d'.kind = 3
        · have t3 : (d'.kind == 3) = true := by rw [hk3]; rfl
          have hrec := HH.out (deep + 1) (k + 1) rb LA Lc _ HR1.out (RowN.turn (fun j i u hj hcc => ⟨hj, HK1.out.cell ((HST.out.below.cell (p := ⟨j, i, none⟩) (lt_of_cell hcc)).trans hcc) hj⟩) HROW.out) (by omega) (by omega) (by omega) (by omega) hLn HLS.out
          rw [show ((deep + 1 : Nat) : Int) = (deep : Int) + 1 by omega] at hrec
          have HREC := Lib.hid hrec
          have hk3' := Lib.hid hk3
          clear hrec hk3
          go_wp2_with fail
          refine HREC.out.mono ?_
          rintro e w2 ⟨A2, n2, c2, k', b, rfl, hk2, hr2, hkd, hbad, hyes⟩
          have HO2 := Lib.hid (hk2.whole HO1.out hne4)
          have HZ2 := Lib.hid (hk2.whole HZ1.out hne3)
          have HR2 := Lib.hid hr2
          have HK2 := Lib.hid hk2
          have HBAD := Lib.hid hbad
          have HYES := Lib.hid hyes
          have z6 : w2.cell? ⟨w.heap.size + 1, 6, none⟩ = some (.slice none 0 0) := HO2.out.cell 6
          have f6 := HO2.out.frozen 6
          have r2 : w2.cell? ⟨rb, 1, none⟩ = some (.int .i64 (k' : Int)) := HR2.out.cell 1
          have s2 := HR2.out.frozen 1
          have HV := Lib.hid (view_two HO2.out HZ2.out HR2.out hne4 hne3 hne1 (.slice A2 n2 c2))
          clear hk2 hr2 hbad hyes x0 x10 r1 s1
          have x0 : ((w2.setCell ⟨w.heap.size + 1, 6, none⟩ (.slice A2 n2 c2)).setCell ⟨rb, 1, none⟩ (.int .i64 ((k' : Int) + 1))).cell? ⟨w.heap.size + 1, 0, none⟩ = some (.int .i64 d'.kind) := HV.out.1.cell 0
          have y0 : ((w2.setCell ⟨w.heap.size + 1, 6, none⟩ (.slice A2 n2 c2)).setCell ⟨rb, 1, none⟩ (.int .i64 ((k' : Int) + 1))).cell? ⟨w.heap.size, 0, none⟩ = some (.int .i64 0) := HV.out.2.1.cell 0
          have g0 := HV.out.2.1.frozen 0
          have x1 : ((w2.setCell ⟨w.heap.size + 1, 6, none⟩ (.slice A2 n2 c2)).setCell ⟨rb, 1, none⟩ (.int .i64 ((k' : Int) + 1))).cell? ⟨w.heap.size + 1, 1, none⟩ = some (.string ⟨d'.name.toArray⟩) := HV.out.1.cell 1
          have y1 : ((w2.setCell ⟨w.heap.size + 1, 6, none⟩ (.slice A2 n2 c2)).setCell ⟨rb, 1, none⟩ (.int .i64 ((k' : Int) + 1))).cell? ⟨w.heap.size, 1, none⟩ = some (.string ⟨#[]⟩) := HV.out.2.1.cell 1
          have g1 := HV.out.2.1.frozen 1
          have x2 : ((w2.setCell ⟨w.heap.size + 1, 6, none⟩ (.slice A2 n2 c2)).setCell ⟨rb, 1, none⟩ (.int .i64 ((k' : Int) + 1))).cell? ⟨w.heap.size + 1, 2, none⟩ = some (.int .u16 (d'.typ : Int)) := HV.out.1.cell 2
          have y2 : ((w2.setCell ⟨w.heap.size + 1, 6, none⟩ (.slice A2 n2 c2)).setCell ⟨rb, 1, none⟩ (.int .i64 ((k' : Int) + 1))).cell? ⟨w.heap.size, 2, none⟩ = some (.int .u16 0) := HV.out.2.1.cell 2
          have g2 := HV.out.2.1.frozen 2
          have x3 : ((w2.setCell ⟨w.heap.size + 1, 6, none⟩ (.slice A2 n2 c2)).setCell ⟨rb, 1, none⟩ (.int .i64 ((k' : Int) + 1))).cell? ⟨w.heap.size + 1, 3, none⟩ = some (.slice RA d'.recs.length rc) := HV.out.1.cell 3
          have y3 : ((w2.setCell ⟨w.heap.size + 1, 6, none⟩ (.slice A2 n2 c2)).setCell ⟨rb, 1, none⟩ (.int .i64 ((k' : Int) + 1))).cell? ⟨w.heap.size, 3, none⟩ = some (.slice none 0 0) := HV.out.2.1.cell 3
          have g3 := HV.out.2.1.frozen 3
          have x4 : ((w2.setCell ⟨w.heap.size + 1, 6, none⟩ (.slice A2 n2 c2)).setCell ⟨rb, 1, none⟩ (.int .i64 ((k' : Int) + 1))).cell? ⟨w.heap.size + 1, 4, none⟩ = some (.int .u64 (d'.life : Int)) := HV.out.1.cell 4
          have y4 : ((w2.setCell ⟨w.heap.size + 1, 6, none⟩ (.slice A2 n2 c2)).setCell ⟨rb, 1, none⟩ (.int .i64 ((k' : Int) + 1))).cell? ⟨w.heap.size, 4, none⟩ = some (.int .u64 0) := HV.out.2.1.cell 4
          have g4 := HV.out.2.1.frozen 4
          have x5 : ((w2.setCell ⟨w.heap.size + 1, 6, none⟩ (.slice A2 n2 c2)).setCell ⟨rb, 1, none⟩ (.int .i64 ((k' : Int) + 1))).cell? ⟨w.heap.size + 1, 5, none⟩ = some (.int .u64 (d'.n : Int)) := HV.out.1.cell 5
          have y5 : ((w2.setCell ⟨w.heap.size + 1, 6, none⟩ (.slice A2 n2 c2)).setCell ⟨rb, 1, none⟩ (.int .i64 ((k' : Int) + 1))).cell? ⟨w.heap.size, 5, none⟩ = some (.int .u64 0) := HV.out.2.1.cell 5
          have g5 := HV.out.2.1.frozen 5
          have x6 : ((w2.setCell ⟨w.heap.size + 1, 6, none⟩ (.slice A2 n2 c2)).setCell ⟨rb, 1, none⟩ (.int .i64 ((k' : Int) + 1))).cell? ⟨w.heap.size + 1, 6, none⟩ = some (.slice A2 n2 c2) := HV.out.1.cell 6
          have y6 : ((w2.setCell ⟨w.heap.size + 1, 6, none⟩ (.slice A2 n2 c2)).setCell ⟨rb, 1, none⟩ (.int .i64 ((k' : Int) + 1))).cell? ⟨w.heap.size, 6, none⟩ = some (.slice none 0 0) := HV.out.2.1.cell 6
          have g6 := HV.out.2.1.frozen 6
          have x7 : ((w2.setCell ⟨w.heap.size + 1, 6, none⟩ (.slice A2 n2 c2)).setCell ⟨rb, 1, none⟩ (.int .i64 ((k' : Int) + 1))).cell? ⟨w.heap.size + 1, 7, none⟩ = some (.int .i64 d'.how) := HV.out.1.cell 7
          have y7 : ((w2.setCell ⟨w.heap.size + 1, 6, none⟩ (.slice A2 n2 c2)).setCell ⟨rb, 1, none⟩ (.int .i64 ((k' : Int) + 1))).cell? ⟨w.heap.size, 7, none⟩ = some (.int .i64 0) := HV.out.2.1.cell 7
          have g7 := HV.out.2.1.frozen 7
          have x8 : ((w2.setCell ⟨w.heap.size + 1, 6, none⟩ (.slice A2 n2 c2)).setCell ⟨rb, 1, none⟩ (.int .i64 ((k' : Int) + 1))).cell? ⟨w.heap.size + 1, 8, none⟩ = some (.int .i64 d'.code) := HV.out.1.cell 8
          have y8 : ((w2.setCell ⟨w.heap.size + 1, 6, none⟩ (.slice A2 n2 c2)).setCell ⟨rb, 1, none⟩ (.int .i64 ((k' : Int) + 1))).cell? ⟨w.heap.size, 8, none⟩ = some (.int .i64 0) := HV.out.2.1.cell 8
          have g8 := HV.out.2.1.frozen 8
          go_wp2_with fail

          refine bodyPost_ret (results_cell_row1 rfl _ _ w.heap.size 48 #[.int .i64 d'.kind, .string ⟨d'.name.toArray⟩, .int .u16 (d'.typ : Int), .slice RA d'.recs.length rc, .int .u64 (d'.life : Int), .int .u64 (d'.n : Int), .slice A2 n2 c2, .int .i64 d'.how, .int .i64 d'.code] (0, 0) _ rfl (fin9w HV.out.2.1 _ _ _ _ _ _ _ _ _).1 Tryz.underlying48 rfl (by kernel_rfl)) rfl ?_
          exact QStepIt.view HOPD.out hk3'.out (op_ok HOPD.out) HRC.out HRA.out HST.out HK1.out HK2.out HV.out hrl hkd HBAD.out HYES.out
        · have t3 : (d'.kind == 3) = false := by rw [beq_eq_false_iff_ne]; exact hk3
          have HK3 := Lib.hid hk3
          clear hk3 x0
          have x0 : (wc.setCell ⟨rb, 1, none⟩ (.int .i64 ((k : Int) + 1))).cell? ⟨w.heap.size + 1, 0, none⟩ = some (.int .i64 d'.kind) := HO1.out.cell 0
          have y0 : (wc.setCell ⟨rb, 1, none⟩ (.int .i64 ((k : Int) + 1))).cell? ⟨w.heap.size, 0, none⟩ = some (.int .i64 0) := HZ1.out.cell 0
          have g0 := HZ1.out.frozen 0
          have x1 : (wc.setCell ⟨rb, 1, none⟩ (.int .i64 ((k : Int) + 1))).cell? ⟨w.heap.size + 1, 1, none⟩ = some (.string ⟨d'.name.toArray⟩) := HO1.out.cell 1
          have y1 : (wc.setCell ⟨rb, 1, none⟩ (.int .i64 ((k : Int) + 1))).cell? ⟨w.heap.size, 1, none⟩ = some (.string ⟨#[]⟩) := HZ1.out.cell 1
          have g1 := HZ1.out.frozen 1
          have x2 : (wc.setCell ⟨rb, 1, none⟩ (.int .i64 ((k : Int) + 1))).cell? ⟨w.heap.size + 1, 2, none⟩ = some (.int .u16 (d'.typ : Int)) := HO1.out.cell 2
          have y2 : (wc.setCell ⟨rb, 1, none⟩ (.int .i64 ((k : Int) + 1))).cell? ⟨w.heap.size, 2, none⟩ = some (.int .u16 0) := HZ1.out.cell 2
          have g2 := HZ1.out.frozen 2
          have x3 : (wc.setCell ⟨rb, 1, none⟩ (.int .i64 ((k : Int) + 1))).cell? ⟨w.heap.size + 1, 3, none⟩ = some (.slice RA d'.recs.length rc) := HO1.out.cell 3
          have y3 : (wc.setCell ⟨rb, 1, none⟩ (.int .i64 ((k : Int) + 1))).cell? ⟨w.heap.size, 3, none⟩ = some (.slice none 0 0) := HZ1.out.cell 3
          have g3 := HZ1.out.frozen 3
          have x4 : (wc.setCell ⟨rb, 1, none⟩ (.int .i64 ((k : Int) + 1))).cell? ⟨w.heap.size + 1, 4, none⟩ = some (.int .u64 (d'.life : Int)) := HO1.out.cell 4
          have y4 : (wc.setCell ⟨rb, 1, none⟩ (.int .i64 ((k : Int) + 1))).cell? ⟨w.heap.size, 4, none⟩ = some (.int .u64 0) := HZ1.out.cell 4
          have g4 := HZ1.out.frozen 4
          have x5 : (wc.setCell ⟨rb, 1, none⟩ (.int .i64 ((k : Int) + 1))).cell? ⟨w.heap.size + 1, 5, none⟩ = some (.int .u64 (d'.n : Int)) := HO1.out.cell 5
          have y5 : (wc.setCell ⟨rb, 1, none⟩ (.int .i64 ((k : Int) + 1))).cell? ⟨w.heap.size, 5, none⟩ = some (.int .u64 0) := HZ1.out.cell 5
          have g5 := HZ1.out.frozen 5
          have x6 : (wc.setCell ⟨rb, 1, none⟩ (.int .i64 ((k : Int) + 1))).cell? ⟨w.heap.size + 1, 6, none⟩ = some (.slice none 0 0) := HO1.out.cell 6
          have y6 : (wc.setCell ⟨rb, 1, none⟩ (.int .i64 ((k : Int) + 1))).cell? ⟨w.heap.size, 6, none⟩ = some (.slice none 0 0) := HZ1.out.cell 6
          have g6 := HZ1.out.frozen 6
          have x7 : (wc.setCell ⟨rb, 1, none⟩ (.int .i64 ((k : Int) + 1))).cell? ⟨w.heap.size + 1, 7, none⟩ = some (.int .i64 d'.how) := HO1.out.cell 7
          have y7 : (wc.setCell ⟨rb, 1, none⟩ (.int .i64 ((k : Int) + 1))).cell? ⟨w.heap.size, 7, none⟩ = some (.int .i64 0) := HZ1.out.cell 7
          have g7 := HZ1.out.frozen 7
          have x8 : (wc.setCell ⟨rb, 1, none⟩ (.int .i64 ((k : Int) + 1))).cell? ⟨w.heap.size + 1, 8, none⟩ = some (.int .i64 d'.code) := HO1.out.cell 8
          have y8 : (wc.setCell ⟨rb, 1, none⟩ (.int .i64 ((k : Int) + 1))).cell? ⟨w.heap.size, 8, none⟩ = some (.int .i64 0) := HZ1.out.cell 8
          have g8 := HZ1.out.frozen 8
          go_wp2_with fail
          refine bodyPost_ret (results_cell_row1 rfl _ _ w.heap.size 48 #[.int .i64 d'.kind, .string ⟨d'.name.toArray⟩, .int .u16 (d'.typ : Int), .slice RA d'.recs.length rc, .int .u64 (d'.life : Int), .int .u64 (d'.n : Int), .slice none 0 0, .int .i64 d'.how, .int .i64 d'.code] (0, 0) _ rfl (fin9w HZ1.out _ _ _ _ _ _ _ _ _).1 Tryz.underlying48 rfl (by kernel_rfl)) rfl ?_
          exact QStepIt.one HOPD.out HK3.out (op_ok HOPD.out) HRC.out HRA.out HST.out HK1.out HR1.out HZ1.out hrl (by omega)
end Go.Proofs.YtifmgmiaeoiidaaGreatDoor
