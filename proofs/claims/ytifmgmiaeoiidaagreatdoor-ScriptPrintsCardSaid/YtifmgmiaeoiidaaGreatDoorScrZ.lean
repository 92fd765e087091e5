/-
  The walks of layer script's view and put: what else a view's line, a put's line has. Fewer than 2^32 - 15 bytes a word.
-/
import Derived.Test.YtifmgmiaeoiidaaGreatDoorScrY
namespace Go.Scrp
/-- How a view ends, by its word. -/
def howL (x : List UInt8) : Int := if x = [112, 97, 110, 105, 99] then 1 else 0
def viewB (x y z : List UInt8) : Bool := (codeL y).isSome && (decide (x = endT (howL x)) && decide (z = [123]))
def mostL : Nat := 18446744073709551615
end Go.Scrp
namespace Go.Proofs.YtifmgmiaeoiidaaGreatDoor
open Go.RowKit Go.Colm Go.Scrp
set_option linter.unusedVariables false

theorem codeV_in (s : List UInt8) : -9223372036854775808 ≤ codeV s ∧ codeV s ≤ 9223372036854775807 := by
  unfold codeV
  split
  · rename_i e
    exact Lib.atoiAll_bounds e
  · unfold Lib.atoiSat
    split <;> omega
  · omega

set_option maxRecDepth 100000 in
set_option maxHeartbeats 8000000 in
theorem view_any (b : Nat) (v0 v1 v2 v3 v4 v5 v6 v8 : Value) (x y z : List UInt8) (A : Option Addr) (n c : Nat) (w : World) (E : Env w) (hb : Whole w b 48 #[v0, v1, v2, v3, v4, v5, v6, .int .i64 0, v8]) (hn : n = 3) (hy : y.length ≤ 4294967296)
    (hr : RowN (fun k => k ≠ b) w A (txtV [x, y, z])) :
    Calls Tryz.prog 76 #[.pointer (some ⟨b, 0, none⟩), .slice A n c] w fun e w' => e = .returned (.bool (viewB x y z)) ∧ Whole w' b 48 #[v0, v1, v2, v3, v4, v5, v6, .int .i64 (howL x), .int .i64 (codeV y)] ∧ Kept (fun k => k = b) w w' := by
  obtain ⟨bA, offA, rfl, hnb, c0⟩ := hr 0 (.string ⟨x.toArray⟩) rfl
  obtain ⟨bA', offA', e1, _, c1⟩ := hr 1 (.string ⟨y.toArray⟩) rfl
  cases e1
  obtain ⟨bA', offA', e1, _, c2⟩ := hr 2 (.string ⟨z.toArray⟩) rfl
  cases e1
  rw [Nat.add_zero] at c0
  subst hn
  have hlb := lt_of_cell c0
  dsimp only at hlb
  have hco : ∀ W, Env W → Calls Tryz.prog 97 #[.string ⟨y.toArray⟩] W fun e w' => e = .returned (.tuple #[.int .i64 (codeV y), .bool (codeL y).isSome]) ∧ Below W.heap.size W w' := fun W E' => code_any y W E' (by omega)
  obtain ⟨X, hX⟩ : ∃ X : ByteArray, X = ⟨x.toArray⟩ := ⟨_, rfl⟩
  obtain ⟨Z, hZ⟩ : ∃ Z : ByteArray, Z = ⟨z.toArray⟩ := ⟨_, rfl⟩
  obtain ⟨P1, hP1⟩ : ∃ P : ByteArray, P = ⟨(endT 1).toArray⟩ := ⟨_, rfl⟩
  obtain ⟨P2, hP2⟩ : ∃ P : ByteArray, P = ⟨(endT (howL x)).toArray⟩ := ⟨_, rfl⟩
  have g1 : (X.toList == P1.toList) = decide (x = [112, 97, 110, 105, 99]) := by rw [hX, hP1, str_beq]; rfl
  have g2 : (X.toList == P2.toList) = decide (x = endT (howL x)) := by rw [hX, hP2, str_beq]
  have g3 : (Z.toList == [123]) = decide (z = [123]) := by rw [hZ]; exact str_beq2 z [123]
  have he1 := fun W => ended_any 1 W
  have he2 := fun W => ended_any (howL x) W
  simp only [← hP1] at he1
  simp only [← hP2] at he2
  rw [← hX] at c0
  rw [← hZ] at c2
  obtain ⟨cv, hcv⟩ : ∃ x, x = codeV y := ⟨_, rfl⟩
  obtain ⟨q1, hq1⟩ : ∃ x, x = (codeL y).isSome := ⟨_, rfl⟩
  obtain ⟨vb, hvb⟩ : ∃ q, q = viewB x y z := ⟨_, rfl⟩
  have hvb2 : vb = (q1 && ((X.toList == P2.toList) && (Z.toList == [123]))) := by rw [hvb, g2, g3, hq1]; rfl
  obtain ⟨hw, hhw⟩ : ∃ q, q = howL x := ⟨_, rfl⟩
  rw [← hvb, ← hcv, ← hhw]
  simp only [← hcv, ← hq1] at hco
  rw [← hhw] at he2
  have hhw2 : hw = if (X.toList == P1.toList) = true then 1 else 0 := by rw [hhw, g1]; unfold howL; simp
  have HCO := Lib.hid (hco w E)
  have HE1 := Lib.hid he1
  have HE2 := Lib.hid he2
  have HV := Lib.hid hvb2
  have HHW := Lib.hid hhw2
  have HBW := Lib.hid hb
  have hbl := hb.lt
  have HC0 : Hid (∀ W, Kept (fun k => k = b) w W → W.cell? ⟨bA, offA, none⟩ = some (.string X)) := Lib.hid fun W hk => hk.cell c0 hnb
  have HC2 : Hid (∀ W, Kept (fun k => k = b) w W → W.cell? ⟨bA, offA + 2, none⟩ = some (.string Z)) := Lib.hid fun W hk => hk.cell c2 hnb
  clear hco he1 he2 hvb hvb2 g1 g2 g3 hX hZ hP1 hP2 hhw hhw2 hcv hq1 hr E hb c0 c2
  go_enter Tryz.func76, Tryz.ntmps76
  go_wp2_with fail
  refine HCO.out.mono ?_
  rintro e w2 ⟨rfl, hb2⟩
  have hx2 : Whole w2 b 48 #[v0, v1, v2, v3, v4, v5, v6, .int .i64 0, v8] := (hb2.block _ hbl).trans HBW.out
  have hk3 : Kept (fun k => k = b) w (w2.setCell ⟨b, 8, none⟩ (.int .i64 cv)) := (Kept.below hb2 (fun k => k = b)).setCell (p := ⟨b, 8, none⟩) (.inl rfl) _
  have hx3 : Whole (w2.setCell ⟨b, 8, none⟩ (.int .i64 cv)) b 48 #[v0, v1, v2, v3, v4, v5, v6, .int .i64 0, .int .i64 cv] := hx2.put 8 _
  have hk4 : Kept (fun k => k = b) w ((w2.setCell ⟨b, 8, none⟩ (.int .i64 cv)).setCell ⟨b, 7, none⟩ (.int .i64 1)) := hk3.setCell (p := ⟨b, 7, none⟩) (.inl rfl) _
  have hx4 : Whole ((w2.setCell ⟨b, 8, none⟩ (.int .i64 cv)).setCell ⟨b, 7, none⟩ (.int .i64 1)) b 48 #[v0, v1, v2, v3, v4, v5, v6, .int .i64 1, .int .i64 cv] := hx3.put 7 _
  have f8 := hx2.frozen 8
  have x8 := hx2.cell 8
  have f7 := hx2.frozen 7
  have x7 := hx2.cell 7
  have g7 := hx3.cell 7
  have k7 := hx4.cell 7
  have d0 := HC0.out _ hk3
  have d2 := HC2.out _ hk3
  have d4 := HC0.out _ hk4
  have d5 := HC2.out _ hk4
  have HX3 := Lib.hid hx3
  have HK3 := Lib.hid hk3
  have HX4 := Lib.hid hx4
  have HK4 := Lib.hid hk4
  clear hx3 hk3 hx4 hk4 hx2 hb2 c1
  cases hp1 : (X.toList == P1.toList)
  · have h0 : hw = 0 := by rw [HHW.out, hp1]; rfl
    subst h0
    cases q1
    · have hv : vb = false := by rw [HV.out]; rfl
      subst hv
      go_wp2_with fail
      go_quiet ((go_at_call 42; exact Calls.quiet_of_same (HE1.out _)))
      go_wp2_with fail
      rename_i nq K4 hK4
      generalize hW4 : World.drewN (w2.setCell ⟨b, 8, none⟩ (.int .i64 cv)) nq = W4
      have y0 : W4.cell? ⟨bA, offA, none⟩ = some (.string X) := by rw [← hW4]; exact d0
      have y2 : W4.cell? ⟨bA, offA + 2, none⟩ = some (.string Z) := by rw [← hW4]; exact d2
      have y7 : W4.cell? ⟨b, 7, none⟩ = some (.int .i64 0) := by rw [← hW4]; exact g7
      have HF : Hid (Whole W4 b 48 #[v0, v1, v2, v3, v4, v5, v6, .int .i64 0, .int .i64 cv] ∧ Kept (fun k => k = b) w W4) := Lib.hid (by rw [← hW4]; exact ⟨HX3.out, HK3.out.drewN _⟩)
      clear hW4
      go_quiet ((go_at_call 42; exact Calls.quiet_of_same (HE2.out _)))
      go_wp2_with fail
      go_ret
      exact ⟨rfl, HF.out.1, HF.out.2.drewN _⟩
    · cases hp2 : (X.toList == P2.toList)
      · have hv : vb = false := by rw [HV.out, hp2]; rfl
        subst hv
        go_wp2_with fail
        go_quiet ((go_at_call 42; exact Calls.quiet_of_same (HE1.out _)))
        go_wp2_with fail
        rename_i nq K4 hK4
        generalize hW4 : World.drewN (w2.setCell ⟨b, 8, none⟩ (.int .i64 cv)) nq = W4
        have y0 : W4.cell? ⟨bA, offA, none⟩ = some (.string X) := by rw [← hW4]; exact d0
        have y2 : W4.cell? ⟨bA, offA + 2, none⟩ = some (.string Z) := by rw [← hW4]; exact d2
        have y7 : W4.cell? ⟨b, 7, none⟩ = some (.int .i64 0) := by rw [← hW4]; exact g7
        have HF : Hid (Whole W4 b 48 #[v0, v1, v2, v3, v4, v5, v6, .int .i64 0, .int .i64 cv] ∧ Kept (fun k => k = b) w W4) := Lib.hid (by rw [← hW4]; exact ⟨HX3.out, HK3.out.drewN _⟩)
        clear hW4
        go_quiet ((go_at_call 42; exact Calls.quiet_of_same (HE2.out _)))
        go_wp2_with fail
        go_ret
        exact ⟨rfl, HF.out.1, HF.out.2.drewN _⟩
      · cases hz : (Z.toList == [123])
        · have hv : vb = false := by rw [HV.out, hp2, hz]; rfl
          subst hv
          go_wp2_with fail
          go_quiet ((go_at_call 42; exact Calls.quiet_of_same (HE1.out _)))
          go_wp2_with fail
          rename_i nq K4 hK4
          generalize hW4 : World.drewN (w2.setCell ⟨b, 8, none⟩ (.int .i64 cv)) nq = W4
          have y0 : W4.cell? ⟨bA, offA, none⟩ = some (.string X) := by rw [← hW4]; exact d0
          have y2 : W4.cell? ⟨bA, offA + 2, none⟩ = some (.string Z) := by rw [← hW4]; exact d2
          have y7 : W4.cell? ⟨b, 7, none⟩ = some (.int .i64 0) := by rw [← hW4]; exact g7
          have HF : Hid (Whole W4 b 48 #[v0, v1, v2, v3, v4, v5, v6, .int .i64 0, .int .i64 cv] ∧ Kept (fun k => k = b) w W4) := Lib.hid (by rw [← hW4]; exact ⟨HX3.out, HK3.out.drewN _⟩)
          clear hW4
          go_quiet ((go_at_call 42; exact Calls.quiet_of_same (HE2.out _)))
          go_wp2_with fail
          go_ret
          exact ⟨rfl, HF.out.1, HF.out.2.drewN _⟩
        · have hv : vb = true := by rw [HV.out, hp2, hz]; rfl
          subst hv
          go_wp2_with fail
          go_quiet ((go_at_call 42; exact Calls.quiet_of_same (HE1.out _)))
          go_wp2_with fail
          rename_i nq K4 hK4
          generalize hW4 : World.drewN (w2.setCell ⟨b, 8, none⟩ (.int .i64 cv)) nq = W4
          have y0 : W4.cell? ⟨bA, offA, none⟩ = some (.string X) := by rw [← hW4]; exact d0
          have y2 : W4.cell? ⟨bA, offA + 2, none⟩ = some (.string Z) := by rw [← hW4]; exact d2
          have y7 : W4.cell? ⟨b, 7, none⟩ = some (.int .i64 0) := by rw [← hW4]; exact g7
          have HF : Hid (Whole W4 b 48 #[v0, v1, v2, v3, v4, v5, v6, .int .i64 0, .int .i64 cv] ∧ Kept (fun k => k = b) w W4) := Lib.hid (by rw [← hW4]; exact ⟨HX3.out, HK3.out.drewN _⟩)
          clear hW4
          go_quiet ((go_at_call 42; exact Calls.quiet_of_same (HE2.out _)))
          go_wp2_with fail
          go_ret
          exact ⟨rfl, HF.out.1, HF.out.2.drewN _⟩
  · have h0 : hw = 1 := by rw [HHW.out, hp1]; rfl
    subst h0
    cases q1
    · have hv : vb = false := by rw [HV.out]; rfl
      subst hv
      go_wp2_with fail
      go_quiet ((go_at_call 42; exact Calls.quiet_of_same (HE1.out _)))
      go_wp2_with fail
      rename_i nq K4 hK4
      generalize hW4 : World.setCell (World.drewN (w2.setCell ⟨b, 8, none⟩ (.int .i64 cv)) nq) ⟨b, 7, none⟩ (.int .i64 1) = W4
      have y0 : W4.cell? ⟨bA, offA, none⟩ = some (.string X) := by rw [← hW4]; exact d4
      have y2 : W4.cell? ⟨bA, offA + 2, none⟩ = some (.string Z) := by rw [← hW4]; exact d5
      have y7 : W4.cell? ⟨b, 7, none⟩ = some (.int .i64 1) := by rw [← hW4]; exact k7
      have HF : Hid (Whole W4 b 48 #[v0, v1, v2, v3, v4, v5, v6, .int .i64 1, .int .i64 cv] ∧ Kept (fun k => k = b) w W4) := Lib.hid (by rw [← hW4]; exact ⟨HX4.out, (HK3.out.drewN nq).setCell (p := ⟨b, 7, none⟩) (.inl rfl) _⟩)
      clear hW4
      go_quiet ((go_at_call 42; exact Calls.quiet_of_same (HE2.out _)))
      go_wp2_with fail
      go_ret
      exact ⟨rfl, HF.out.1, HF.out.2.drewN _⟩
    · cases hp2 : (X.toList == P2.toList)
      · have hv : vb = false := by rw [HV.out, hp2]; rfl
        subst hv
        go_wp2_with fail
        go_quiet ((go_at_call 42; exact Calls.quiet_of_same (HE1.out _)))
        go_wp2_with fail
        rename_i nq K4 hK4
        generalize hW4 : World.setCell (World.drewN (w2.setCell ⟨b, 8, none⟩ (.int .i64 cv)) nq) ⟨b, 7, none⟩ (.int .i64 1) = W4
        have y0 : W4.cell? ⟨bA, offA, none⟩ = some (.string X) := by rw [← hW4]; exact d4
        have y2 : W4.cell? ⟨bA, offA + 2, none⟩ = some (.string Z) := by rw [← hW4]; exact d5
        have y7 : W4.cell? ⟨b, 7, none⟩ = some (.int .i64 1) := by rw [← hW4]; exact k7
        have HF : Hid (Whole W4 b 48 #[v0, v1, v2, v3, v4, v5, v6, .int .i64 1, .int .i64 cv] ∧ Kept (fun k => k = b) w W4) := Lib.hid (by rw [← hW4]; exact ⟨HX4.out, (HK3.out.drewN nq).setCell (p := ⟨b, 7, none⟩) (.inl rfl) _⟩)
        clear hW4
        go_quiet ((go_at_call 42; exact Calls.quiet_of_same (HE2.out _)))
        go_wp2_with fail
        go_ret
        exact ⟨rfl, HF.out.1, HF.out.2.drewN _⟩
      · cases hz : (Z.toList == [123])
        · have hv : vb = false := by rw [HV.out, hp2, hz]; rfl
          subst hv
          go_wp2_with fail
          go_quiet ((go_at_call 42; exact Calls.quiet_of_same (HE1.out _)))
          go_wp2_with fail
          rename_i nq K4 hK4
          generalize hW4 : World.setCell (World.drewN (w2.setCell ⟨b, 8, none⟩ (.int .i64 cv)) nq) ⟨b, 7, none⟩ (.int .i64 1) = W4
          have y0 : W4.cell? ⟨bA, offA, none⟩ = some (.string X) := by rw [← hW4]; exact d4
          have y2 : W4.cell? ⟨bA, offA + 2, none⟩ = some (.string Z) := by rw [← hW4]; exact d5
          have y7 : W4.cell? ⟨b, 7, none⟩ = some (.int .i64 1) := by rw [← hW4]; exact k7
          have HF : Hid (Whole W4 b 48 #[v0, v1, v2, v3, v4, v5, v6, .int .i64 1, .int .i64 cv] ∧ Kept (fun k => k = b) w W4) := Lib.hid (by rw [← hW4]; exact ⟨HX4.out, (HK3.out.drewN nq).setCell (p := ⟨b, 7, none⟩) (.inl rfl) _⟩)
          clear hW4
          go_quiet ((go_at_call 42; exact Calls.quiet_of_same (HE2.out _)))
          go_wp2_with fail
          go_ret
          exact ⟨rfl, HF.out.1, HF.out.2.drewN _⟩
        · have hv : vb = true := by rw [HV.out, hp2, hz]; rfl
          subst hv
          go_wp2_with fail
          go_quiet ((go_at_call 42; exact Calls.quiet_of_same (HE1.out _)))
          go_wp2_with fail
          rename_i nq K4 hK4
          generalize hW4 : World.setCell (World.drewN (w2.setCell ⟨b, 8, none⟩ (.int .i64 cv)) nq) ⟨b, 7, none⟩ (.int .i64 1) = W4
          have y0 : W4.cell? ⟨bA, offA, none⟩ = some (.string X) := by rw [← hW4]; exact d4
          have y2 : W4.cell? ⟨bA, offA + 2, none⟩ = some (.string Z) := by rw [← hW4]; exact d5
          have y7 : W4.cell? ⟨b, 7, none⟩ = some (.int .i64 1) := by rw [← hW4]; exact k7
          have HF : Hid (Whole W4 b 48 #[v0, v1, v2, v3, v4, v5, v6, .int .i64 1, .int .i64 cv] ∧ Kept (fun k => k = b) w W4) := Lib.hid (by rw [← hW4]; exact ⟨HX4.out, (HK3.out.drewN nq).setCell (p := ⟨b, 7, none⟩) (.inl rfl) _⟩)
          clear hW4
          go_quiet ((go_at_call 42; exact Calls.quiet_of_same (HE2.out _)))
          go_wp2_with fail
          go_ret
          exact ⟨rfl, HF.out.1, HF.out.2.drewN _⟩

set_option maxRecDepth 100000 in
set_option maxHeartbeats 8000000 in
theorem put_any (b : Nat) (v0 v1 v2 v3 v4 v5 v6 v7 v8 : Value) (x y : List UInt8) (A : Option Addr) (n c : Nat) (w : World) (E : Env w) (hb : Whole w b 48 #[v0, v1, v2, v3, v4, v5, v6, v7, v8]) (hn : n = 2) (hx : x.length ≤ 4294967296) (hy : y.length < 4294967281)
    (hr : RowN (fun k => k ≠ b) w A (txtV [x, y])) :
    Calls Tryz.prog 75 #[.pointer (some ⟨b, 0, none⟩), .slice A n c] w fun e w' => e = .returned (.bool ((numL x mostL).isSome && (unsetL y).isSome)) ∧ Kept (fun k => k = b) w w' ∧
      ∃ RA rn rc, Whole w' b 48 #[v0, v1, v2, .slice RA rn rc, .int .u64 (numV x : Nat), v5, v6, v7, v8] ∧ (∀ l, unsetL y = some l → rn = l.length ∧ (rn ≤ rc ∧ rc ≤ maxLen) ∧ RecsAt (fun k => w.heap.size ≤ k) w' RA l) := by
  obtain ⟨bA, offA, rfl, hnb, c0⟩ := hr 0 (.string ⟨x.toArray⟩) rfl
  obtain ⟨bA', offA', e1, _, c1⟩ := hr 1 (.string ⟨y.toArray⟩) rfl
  cases e1
  rw [Nat.add_zero] at c0
  subst hn
  have hlb := lt_of_cell c0
  dsimp only at hlb
  have hbl := hb.lt
  have HNU := Lib.hid (number_any x mostL w E (by omega))
  have HUN := Lib.hid fun W E' => unset_any y W E' hy
  obtain ⟨nv, hnv⟩ : ∃ q, q = numV x := ⟨_, rfl⟩
  obtain ⟨q1, hq1⟩ : ∃ q, q = (numL x mostL).isSome := ⟨_, rfl⟩
  obtain ⟨q2, hq2⟩ : ∃ q, q = (unsetL y).isSome := ⟨_, rfl⟩
  rw [← hq1, ← hq2, ← hnv]
  rw [← hq1, ← hnv] at HNU
  have HE := Lib.hid E
  have HBW := Lib.hid hb
  have HQ2 := Lib.hid hq2
  have HC1 : Hid (∀ W, Below w.heap.size w W → W.cell? ⟨bA, offA + 1, none⟩ = some (.string ⟨y.toArray⟩)) := Lib.hid fun W hk => (hk.cell (p := ⟨bA, offA + 1, none⟩) hlb).trans c1
  clear hr E hb c1 hq1 hq2 hnv
  have hm : ((mostL : Nat) : Int) = 18446744073709551615 := by decide
  rw [hm] at HNU
  clear hm
  go_enter Tryz.func75, Tryz.ntmps75
  go_wp2_with fail
  refine HNU.out.mono ?_
  rintro e w2 ⟨rfl, hb2⟩
  have d1 := HC1.out _ hb2
  have HB2 := Lib.hid hb2
  clear hb2
  go_wp2_with fail
  refine (HUN.out _ (HE.out.below HB2.out)).mono ?_
  rintro e w3 ⟨hno, hyes, hb3⟩
  have HB3 := Lib.hid (below_chain HB2.out hb3)
  have hx3 : Whole w3 b 48 #[v0, v1, v2, v3, v4, v5, v6, v7, v8] := (HB3.out.block _ hbl).trans HBW.out
  have f3 := hx3.frozen 3
  have x3 := hx3.cell 3
  have f4 := hx3.frozen 4
  have x4 := hx3.cell 4
  have HX3 := Lib.hid hx3
  have hsz2 := HB2.out.size
  clear hx3 hb3 d1
  cases hu : unsetL y with
  | none =>
    have he := hno hu
    subst he
    have h2 : q2 = false := by rw [HQ2.out, hu]; rfl
    subst h2
    have HU := Lib.hid hu
    clear hno hyes hu
    have HF : Hid (Whole ((w3.setCell ⟨b, 4, none⟩ (.int .u64 (nv : Int))).setCell ⟨b, 3, none⟩ (.slice none 0 0)) b 48 #[v0, v1, v2, .slice none 0 0, .int .u64 (nv : Nat), v5, v6, v7, v8] ∧ Kept (fun k => k = b) w ((w3.setCell ⟨b, 4, none⟩ (.int .u64 (nv : Int))).setCell ⟨b, 3, none⟩ (.slice none 0 0))) :=
      Lib.hid ⟨(HX3.out.put 4 _).put 3 _, ((Kept.below HB3.out (fun k => k = b)).setCell (p := ⟨b, 4, none⟩) (.inl rfl) _).setCell (p := ⟨b, 3, none⟩) (.inl rfl) _⟩
    cases q1
    · go_wp2_with fail
      go_ret
      exact ⟨rfl, HF.out.2, none, 0, 0, HF.out.1, fun l h => by rw [HU.out] at h; cases h⟩
    · go_wp2_with fail
      go_ret
      exact ⟨rfl, HF.out.2, none, 0, 0, HF.out.1, fun l h => by rw [HU.out] at h; cases h⟩
  | some l =>
    obtain ⟨RA, rc, he, hl, hra⟩ := hyes l hu
    subst he
    have h2 : q2 = true := by rw [HQ2.out, hu]; rfl
    subst h2
    have HF : Hid (Whole ((w3.setCell ⟨b, 4, none⟩ (.int .u64 (nv : Int))).setCell ⟨b, 3, none⟩ (.slice RA l.length rc)) b 48 #[v0, v1, v2, .slice RA l.length rc, .int .u64 (nv : Nat), v5, v6, v7, v8] ∧ Kept (fun k => k = b) w ((w3.setCell ⟨b, 4, none⟩ (.int .u64 (nv : Int))).setCell ⟨b, 3, none⟩ (.slice RA l.length rc)) ∧
        RecsAt (fun k => w.heap.size ≤ k) ((w3.setCell ⟨b, 4, none⟩ (.int .u64 (nv : Int))).setCell ⟨b, 3, none⟩ (.slice RA l.length rc)) RA l) :=
      Lib.hid ⟨(HX3.out.put 4 _).put 3 _, ((Kept.below HB3.out (fun k => k = b)).setCell (p := ⟨b, 4, none⟩) (.inl rfl) _).setCell (p := ⟨b, 3, none⟩) (.inl rfl) _, hra.turn fun j i u hj hc => by
        have hjb : j ≠ b := by omega
        exact ⟨by omega, (((Kept.refl (fun k => k = b) w3).setCell (p := ⟨b, 4, none⟩) (.inl rfl) _).setCell (p := ⟨b, 3, none⟩) (.inl rfl) _).cell hc hjb⟩⟩
    have HL := Lib.hid hl
    have HU := Lib.hid hu
    clear hno hyes hu hra hl
    cases q1
    · go_wp2_with fail
      go_ret
      exact ⟨rfl, HF.out.2.1, RA, l.length, rc, HF.out.1, fun l2 h => by rw [HU.out] at h; cases h; exact ⟨rfl, HL.out, HF.out.2.2⟩⟩
    · go_wp2_with fail
      go_ret
      exact ⟨rfl, HF.out.2.1, RA, l.length, rc, HF.out.1, fun l2 h => by rw [HU.out] at h; cases h; exact ⟨rfl, HL.out, HF.out.2.2⟩⟩
end Go.Proofs.YtifmgmiaeoiidaaGreatDoor
