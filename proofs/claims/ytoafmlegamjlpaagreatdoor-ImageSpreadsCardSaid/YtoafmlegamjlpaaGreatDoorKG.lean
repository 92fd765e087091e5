/-
  The walks of a new cache: index.Begin, lend.New, cache.Of, New, Memory, Lent. No condition but what the mirrors ask.
  The walks of a new cache: lend.New, cache.Of, New, Memory, Lent. No condition but what the mirrors ask.
  The walks of looks at a cache: none, Memory, Lent; a memory's Image. No condition but what lies there.
-/
import Derived.Test.YtoafmlegamjlpaaGreatDoorKF
namespace Go.Proofs.YtoafmlegamjlpaaGreatDoor
open Go.RowKit Go.Colm Go.Cap Go.Maps
set_option linter.unusedVariables false
set_option linter.unusedSimpArgs false
section
variable {Λ : MLay} {μ : Mm} {w : World}
set_option maxHeartbeats 1600000 in
theorem iof_any (h : HasM Λ μ w) : Calls Tryz.prog 88 #[.pointer (some ⟨Λ.mb, 0, none⟩)] w fun e w' => e = .returned (.agg #[.pointer (some ⟨Λ.mb, 0, none⟩), .int .i64 (μ.slots : Int)]) ∧ Below w.heap.size w w' := by
  obtain ⟨w0, hw0⟩ : ∃ w0, w0 = w.alloc (.cells #[.pointer none, .int .i64 0] 133) := ⟨_, rfl⟩
  have hb0 : Below w.heap.size w w0 := by rw [hw0]; exact (Below.refl _ w).alloc (Nat.le_refl _) _
  have hr0 : Whole w0 w.heap.size 133 #[.pointer none, .int .i64 0] := by rw [hw0]; exact Whole.new w _ _
  have HC := Lib.hid (config_any (h.below hb0))
  have HB0 := Lib.hid hb0
  have HR0 := Lib.hid hr0
  clear h hb0 hr0
  go_enter Tryz.func88, Tryz.ntmps88
  go_upto_region 1 with fail
  rw [← hw0]
  clear hw0
  go_wp2_with fail
  refine HC.out.mono ?_
  rintro e w1 ⟨rfl, hb1⟩
  have hr1 := (hb1.block _ HR0.out.lt).trans HR0.out
  have hr1' : Whole w1 w.heap.size 133 #[.pointer none, .int .i64 0] := hr1
  have x0 := hr1'.cell 0
  have x1 := hr1'.cell 1
  simp only [List.getElem?_toArray, List.getElem?_cons_zero, List.getElem?_cons_succ] at x0 x1
  have f0 := hr1'.frozen 0
  have f1 := hr1'.frozen 1
  have HB1 := Lib.hid (below_chain HB0.out hb1)
  have HR1 := Lib.hid hr1'
  clear hr1 hr1' hb1
  go_wp2_with fail
  refine bodyPost_ret (results_cell_row rfl _ _ w.heap.size 133 _ (0, 0) _ rfl (place2m HR1.out _ _) Tryz.underlying133 rfl (by kernel_rfl)) rfl ?_
  exact ⟨rfl, Kept.to_below (S := fun k => k = w.heap.size) ((((Kept.below HB1.out (fun k => k = w.heap.size))).setCell (p := ⟨w.heap.size, 0, none⟩) (.inl rfl) _).setCell (p := ⟨w.heap.size, 1, none⟩) (.inl rfl) _) (Nat.le_refl _) (fun i hi e => by omega)⟩
theorem heldS {S : Nat → Prop} {w W W2 : World} {p q : Addr} {u v : Value} (h : Kept S w W ∧ W.cell? p = some u ∧ W.cell? q = some v) (k : Below W.heap.size W W2) : Kept S w W2 ∧ W2.cell? p = some u ∧ W2.cell? q = some v :=
  ⟨h.1.trans (Kept.below k _), (k.cell (lt_of_cell h.2.1)).trans h.2.1, (k.cell (lt_of_cell h.2.2)).trans h.2.2⟩
theorem heldT {S : Nat → Prop} {b : Nat} {w W W2 : World} {i j : Nat} {u v : Value} (hb : ¬ S b) (h : Kept S w W ∧ W.cell? ⟨b, i, none⟩ = some u ∧ W.cell? ⟨b, j, none⟩ = some v) (k : Kept S W W2) : Kept S w W2 ∧ W2.cell? ⟨b, i, none⟩ = some u ∧ W2.cell? ⟨b, j, none⟩ = some v :=
  ⟨h.1.trans k, k.cell h.2.1 hb, k.cell h.2.2 hb⟩
set_option maxHeartbeats 3200000 in
theorem ibegin_ok (h : HasM Λ μ w) (μ' : Mm) (hv : indexBeginM μ = some μ') : Calls Tryz.prog 48 #[.pointer (some ⟨Λ.mb, 0, none⟩)] w fun e w' => e = .returned (.int .i64 0) ∧ MG Λ w μ' w' := by
  unfold indexBeginM at hv
  have hc := h.cf
  have HOF := Lib.hid (iof_any h)
  have HH := Lib.hid h
  have HC := Lib.hid (fun W (hb : Below w.heap.size w W) => config_any (h.below hb))
  have hs := fun W (hb : Below w.heap.size w W) => slotAt_any μ.slabs μ.slots 0 W (h.env.below hb).szs h.ok (by omega)
  simp only [show ((slotsC μ.slabs + 0 * 4 : Nat) : Int) = (slotsC μ.slabs : Int) by omega, show ((0 : Nat) : Int) = 0 from rfl] at hs
  have hz := fun W (hb : Below w.heap.size w W) => mzero_ok (h.below hb) (slotsC μ.slabs) (μ.slots * 4) 4 μ' (by omega) hv
  simp only [show ((μ.slots * 4 : Nat) : Int) = (μ.slots : Int) * 4 by omega, show ((4 : Nat) : Int) = 4 from rfl] at hz
  obtain ⟨z, hz0⟩ : ∃ z, z = slotsC μ.slabs := ⟨_, rfl⟩
  rw [← hz0] at hs hz
  obtain ⟨n, hn⟩ : ∃ n, n = μ.slots := ⟨_, rfl⟩
  rw [← hn] at hs hz HOF HC hc
  have HS := Lib.hid hs
  have HZ := Lib.hid hz
  have hn0 : ¬ ((n : Int) = 0) := by omega
  have hn1 : n ≤ 8192 := hc.2.2.1
  have e1 : ((n : Int) == 0) = false := by rw [beq_eq_false_iff_ne]; exact hn0
  have e2 : ¬ (n = 0) := by omega
  clear h hv hc hs hz hz0 hn
  go_enter Tryz.func48, Tryz.ntmps48
  go_wp2_with fail
  refine HOF.out.mono ?_
  rintro e w1 ⟨rfl, hb1⟩
  have HB1 := Lib.hid hb1
  obtain ⟨w2, hw2⟩ : ∃ w2, w2 = w1.alloc (.cells #[.pointer (some ⟨Λ.mb, 0, none⟩), .int .i64 (n : Int)] 133) := ⟨_, rfl⟩
  have hb2 : Below w1.heap.size w1 w2 := by rw [hw2]; exact (Below.refl _ _).alloc (Nat.le_refl _) _
  have hwh : Whole w2 w1.heap.size 133 #[.pointer (some ⟨Λ.mb, 0, none⟩), .int .i64 (n : Int)] := by rw [hw2]; exact Whole.new _ _ _
  have HB2 := Lib.hid (below_chain HB1.out hb2)
  have hb2d : Below w.heap.size w w2.drew := below_chain HB2.out (Below.refl _ w2).drew
  have HC2 := Lib.hid (HC.out w2.drew hb2d)
  have HS2 : Hid (∀ W, Below w2.drew.heap.size w2.drew W → _) := Lib.hid (fun W (hb : Below w2.drew.heap.size w2.drew W) => HS.out W (below_chain hb2d hb))
  have HZ2 : Hid (∀ W3 W4, Below w2.drew.heap.size w2.drew W3 → Below W3.heap.size W3 W4 → _) := Lib.hid (fun W3 W4 (h3 : Below w2.drew.heap.size w2.drew W3) (h4 : Below W3.heap.size W3 W4) => HZ.out W4 (below_chain hb2d (below_chain h3 h4)))
  have y0 := hwh.cell 0
  have y1 := hwh.cell 1
  simp only [List.getElem?_toArray, List.getElem?_cons_zero, List.getElem?_cons_succ] at y0 y1
  have HNB : Hid (∀ k, MOwn Λ k → k < w1.heap.size) := Lib.hid (fun k hk => by
    have h1 := HH.out.below HB1.out
    rcases hk with rfl | rfl | rfl
    · exact h1.lt (.inr (.inl rfl))
    · exact h1.lt (.inr (.inr (.inr (.inl rfl))))
    · exact h1.lt (.inr (.inr (.inr (.inr (.inl rfl))))))
  have HHD := Lib.hid hb2d
  have hw1 : IntKind.i64.wrap ((n : Int) * 4) = (n : Int) * 4 := IntWalk.i64_in _ (by omega)
  have HW2 := Lib.hid hw2
  clear hb1 hb2 hwh hb2d HC HOF HS HZ
  go_upto_region 4 with fail
  rw [← HW2.out]
  clear hw2
  have hs0 : Kept (MOwn Λ) w2 w2.drew ∧ w2.drew.cell? ⟨w1.heap.size, 0, none⟩ = some (.pointer (some ⟨Λ.mb, 0, none⟩)) ∧ w2.drew.cell? ⟨w1.heap.size, 1, none⟩ = some (.int .i64 (n : Int)) := ⟨(Kept.refl _ _).drew, y0, y1⟩
  have hnb : ¬ MOwn Λ w1.heap.size := fun h => absurd (HNB.out _ h) (Nat.lt_irrefl _)
  go_region_held3 (fun w' => Kept (MOwn Λ) w2 w' ∧ w'.cell? ⟨w1.heap.size, 0, none⟩ = some (.pointer (some ⟨Λ.mb, 0, none⟩)) ∧ w'.cell? ⟨w1.heap.size, 1, none⟩ = some (.int .i64 (n : Int)))
    (first | exact hs0 | assumption | exact heldS (by assumption) (by assumption) | exact heldT hnb (by assumption) (MG.kept (by assumption)))
    (first
      | ((go_at_call 61; with_reducible refine HC2.out.mono ?_); rintro e w3 ⟨rfl, hb3⟩)
      | ((go_at_call 90; with_reducible refine (HS2.out _ (by assumption)).mono ?_); rintro e w4 ⟨rfl, hb4⟩)
      | ((go_at_call 89; with_reducible refine (HZ2.out _ _ (by assumption) (by assumption)).mono ?_); rintro e w5 ⟨rfl, hg5⟩))
  go_wp2_with fail
  go_ret
  exact ⟨rfl, MG.after HHD.out (MG.after (below_chain hb3 hb4) hg5)⟩
end
end Go.Proofs.YtoafmlegamjlpaaGreatDoor
namespace Go.Proofs.YtoafmlegamjlpaaGreatDoor
open Go.RowKit Go.Colm Go.Cap Go.Maps
set_option linter.unusedVariables false
set_option linter.unusedSimpArgs false
/-- A cache where it lies: its own block, its book's (so much is lent), its memory. -/
structure HasC (cb bk : Nat) (Λ : MLay) (μ : Mm) (d : Nat) (w : World) : Prop where
  c : Whole w cb 75 #[.pointer (some ⟨Λ.mb, 0, none⟩), .pointer (some ⟨bk, 0, none⟩)]
  b : ∃ most : Int, Whole w bk 165 #[.int .i64 (d : Int), .int .i64 most]
  m : HasM Λ μ w
section
variable {Λ : MLay} {μ : Mm} {w : World} {cb bk d : Nat}
theorem HasC.below {w' : World} (h : HasC cb bk Λ μ d w) (hb : Below w.heap.size w w') : HasC cb bk Λ μ d w' := by
  obtain ⟨most, hm⟩ := h.b
  exact ⟨(hb.block _ h.c.lt).trans h.c, ⟨most, (hb.block _ hm.lt).trans hm⟩, h.m.below hb⟩
set_option maxHeartbeats 1600000 in
theorem lnew_any (w : World) : Calls Tryz.prog 62 #[] w fun e w' => e = .returned (.pointer (some ⟨w.heap.size, 0, none⟩)) ∧ w' = w.alloc (.cells #[.int .i64 0, .int .i64 0] 165) := by
  go_enter Tryz.func62, Tryz.ntmps62
  go_wp2
  go_ret
  exact ⟨rfl, rfl⟩
set_option maxHeartbeats 1600000 in
theorem cof_ok (h : HasM Λ μ w) : Calls Tryz.prog 37 #[.pointer (some ⟨Λ.mb, 0, none⟩)] w fun e w' => ∃ cb bk, e = .returned (.pointer (some ⟨cb, 0, none⟩)) ∧ HasC cb bk Λ μ 0 w' ∧ w.heap.size ≤ cb ∧ w.heap.size ≤ bk ∧ Below w.heap.size w w' := by
  have HC := Lib.hid (config_any h)
  have hc1 := h.cf.1
  have z : ¬ ((μ.slabs : Int) = 0) := by omega
  have z2 : ¬ (μ.slabs = 0) := by omega
  have HH := Lib.hid h
  clear h hc1
  go_enter Tryz.func37, Tryz.ntmps37
  go_wp2_with fail
  refine HC.out.mono ?_
  rintro e w1 ⟨rfl, hb1⟩
  have HB1 := Lib.hid hb1
  clear hb1
  go_wp2_with fail
  refine (lnew_any _).mono ?_
  rintro e w2 ⟨rfl, hw2⟩
  have hb2 : Below w1.heap.size w1 w2 := by rw [hw2]; exact (Below.refl _ _).alloc (Nat.le_refl _) _
  have hbk : Whole w2 w1.heap.size 165 #[.int .i64 0, .int .i64 0] := by rw [hw2]; exact Whole.new _ _ _
  have HB2 := Lib.hid hb2
  have HBK := Lib.hid hbk
  clear hw2 hb2 hbk
  go_wp2_with fail
  go_ret
  have hb3 := (Below.refl w2.heap.size w2).alloc (Nat.le_refl _) (.cells #[.pointer (some ⟨Λ.mb, 0, none⟩), .pointer (some ⟨w1.heap.size, 0, none⟩)] 75)
  have hall := below_chain HB1.out (below_chain HB2.out hb3)
  exact ⟨_, w1.heap.size, rfl, ⟨Whole.new _ _ _, ⟨0, (hb3.block _ HBK.out.lt).trans HBK.out⟩, HH.out.below hall⟩, (below_chain HB1.out HB2.out).size, HB1.out.size, hall⟩
set_option maxHeartbeats 6400000 in
theorem cnew_ok (s n : Nat) (w : World) (he : EnvC w) (ok : okC s n = true) (μ' : Mm) (hv : cacheBeginM (newMm s n) = some μ') : Calls Tryz.prog 19 #[.agg #[.int .i64 (s : Int), .int .i64 (n : Int)]] w fun e w' => ∃ cb bk Λ, e = .returned (.tuple #[.pointer (some ⟨cb, 0, none⟩), .int .i64 0]) ∧ HasC cb bk Λ μ' 0 w' ∧ MFrom w.heap.size Λ ∧ w.heap.size ≤ cb ∧ w.heap.size ≤ bk ∧ Below w.heap.size w w' := by
  unfold cacheBeginM at hv
  obtain ⟨μ1, h1, hv⟩ := Option.bind_eq_some_iff.1 hv
  obtain ⟨μ2, h2, hv⟩ := Option.bind_eq_some_iff.1 hv
  obtain ⟨μ3, h3, hv⟩ := Option.bind_eq_some_iff.1 hv
  obtain ⟨μ4, h4, h5⟩ := Option.bind_eq_some_iff.1 hv
  obtain ⟨w0, hw0, hb0, x0, x1⟩ := cfg_box s n w
  have HN := Lib.hid (memNew_ok s n w0 (he.below hb0) ok)
  have HB0 := Lib.hid hb0
  have H1 := Lib.hid h1
  have H2 := Lib.hid h2
  have H3 := Lib.hid h3
  have H4 := Lib.hid h4
  have H5 := Lib.hid h5
  clear hb0 he ok hv h1 h2 h3 h4 h5
  go_enter Tryz.func19, Tryz.ntmps19
  go_upto_region 1 with fail
  rw [← hw0]
  clear hw0
  go_wp2_with fail
  refine HN.out.mono ?_
  rintro e w1 ⟨Λ, rfl, hm, hfr, hb1⟩
  obtain ⟨w2, hw2⟩ : ∃ w2, w2 = w1.alloc (.cells #[.func (.func 46) #[] #[], .func (.func 47) #[] #[], .func (.func 48) #[] #[], .func (.func 49) #[] #[], .func (.func 50) #[] #[]] 85) := ⟨_, rfl⟩
  have hb2 : Below w1.heap.size w1 w2 := by rw [hw2]; exact (Below.refl _ _).alloc (Nat.le_refl _) _
  obtain ⟨fb, hfb⟩ : ∃ fb, fb = w1.heap.size := ⟨_, rfl⟩
  have hwh : Whole w2 fb 85 #[.func (.func 46) #[] #[], .func (.func 47) #[] #[], .func (.func 48) #[] #[], .func (.func 49) #[] #[], .func (.func 50) #[] #[]] := by rw [hw2, hfb]; exact Whole.new _ _ _
  have HG0 : Hid (MG Λ w2 (newMm s n) w2) := Lib.hid (MG.refl (hm.below hb2))
  have HNB : Hid (¬ MOwn Λ fb) := Lib.hid (fun hk => by
    have : fb < w1.heap.size := by
      rcases hk with e | e | e
      · rw [e]; exact hm.lt (.inr (.inl rfl))
      · rw [e]; exact hm.lt (.inr (.inr (.inr (.inl rfl))))
      · rw [e]; exact hm.lt (.inr (.inr (.inr (.inr (.inl rfl)))))
    omega)
  have HB2 := Lib.hid (below_chain HB0.out (below_chain hb1 hb2))
  have HWH := Lib.hid hwh
  have HFR := Lib.hid hfr
  have HS0 := Lib.hid HB0.out.size
  have HW2 := Lib.hid hw2
  have HFB := Lib.hid hfb
  have hst : ∃ stageM : Nat → Mm, stageM 0 = newMm s n ∧ stageM 1 = μ1 ∧ stageM 2 = μ2 ∧ stageM 3 = μ3 ∧ stageM 4 = μ4 ∧ stageM 5 = μ' := ⟨fun i => [newMm s n, μ1, μ2, μ3, μ4, μ'].getD i μ', rfl, rfl, rfl, rfl, rfl, rfl⟩
  obtain ⟨T, t0, t1, t2, t3, t4, t5⟩ := hst
  rw [← t0] at HG0 H1
  rw [← t1] at H1 H2
  rw [← t2] at H2 H3
  rw [← t3] at H3 H4
  rw [← t4] at H4 H5
  rw [← t5] at H5
  have HT5 := Lib.hid t5
  clear hm hfr hb1 hb2 hwh hw2 hfb t0 t1 t2 t3 t4 t5 HN x0 x1
  go_wp2_with fail
  rw [← HW2.out, ← HFB.out]
  go_loopw [2, 3, 6, 7, 14] (fun s2 s3 _ _ s14 wr => ∃ i : Nat, i ≤ 5 ∧ s2 = .pointer none ∧ s3 = .int .i64 0 ∧ s14 = .int .i64 i ∧ Hid (MG Λ w2 (T i) wr)) (fun _ _ _ _ s14 _ => match s14 with | .int _ m => 5 - m.toNat | _ => 0)
  case atStart => exact ⟨0, by omega, rfl, rfl, rfl, HG0⟩
  case round =>
    obtain ⟨i, hi, rfl, rfl, rfl, HG⟩ := hrel
    have hw := HG.out.kept.whole HWH.out HNB.out
    have hcs : i = 0 ∨ i = 1 ∨ i = 2 ∨ i = 3 ∨ i = 4 ∨ i = 5 := by omega
    rcases hcs with rfl | rfl | rfl | rfl | rfl | rfl
    · have d0 := hw.cell 0
      simp only [List.getElem?_toArray, List.getElem?_cons_zero, List.getElem?_cons_succ] at d0
      have HP := Lib.hid (sbegin_ok HG.out.has _ H1.out)
      clear hw
      go_wp2_with fail
      refine HP.out.mono ?_
      rintro e w4 ⟨rfl, hg4⟩
      have HG4 := Lib.hid (HG.out.trans hg4)
      clear hg4
      go_wp2_with fail
      go_roundw
      case rel => exact ⟨1, by omega, rfl, rfl, rfl, HG4⟩
      case measure => simp
    · have d0 := hw.cell 1
      simp only [List.getElem?_toArray, List.getElem?_cons_zero, List.getElem?_cons_succ] at d0
      have HP := Lib.hid (rbegin_ok HG.out.has _ H2.out)
      clear hw
      go_wp2_with fail
      refine HP.out.mono ?_
      rintro e w4 ⟨rfl, hg4⟩
      have HG4 := Lib.hid (HG.out.trans hg4)
      clear hg4
      go_wp2_with fail
      go_roundw
      case rel => exact ⟨2, by omega, rfl, rfl, rfl, HG4⟩
      case measure => simp
    · have d0 := hw.cell 2
      simp only [List.getElem?_toArray, List.getElem?_cons_zero, List.getElem?_cons_succ] at d0
      have HP := Lib.hid (ibegin_ok HG.out.has _ H3.out)
      clear hw
      go_wp2_with fail
      refine HP.out.mono ?_
      rintro e w4 ⟨rfl, hg4⟩
      have HG4 := Lib.hid (HG.out.trans hg4)
      clear hg4
      go_wp2_with fail
      go_roundw
      case rel => exact ⟨3, by omega, rfl, rfl, rfl, HG4⟩
      case measure => simp
    · have d0 := hw.cell 3
      simp only [List.getElem?_toArray, List.getElem?_cons_zero, List.getElem?_cons_succ] at d0
      have HP := Lib.hid (nbegin_ok HG.out.has _ H4.out)
      clear hw
      go_wp2_with fail
      refine HP.out.mono ?_
      rintro e w4 ⟨rfl, hg4⟩
      have HG4 := Lib.hid (HG.out.trans hg4)
      clear hg4
      go_wp2_with fail
      go_roundw
      case rel => exact ⟨4, by omega, rfl, rfl, rfl, HG4⟩
      case measure => simp
    · have d0 := hw.cell 4
      simp only [List.getElem?_toArray, List.getElem?_cons_zero, List.getElem?_cons_succ] at d0
      have HP := Lib.hid (cbegin_ok HG.out.has _ H5.out)
      clear hw
      go_wp2_with fail
      refine HP.out.mono ?_
      rintro e w4 ⟨rfl, hg4⟩
      have HG4 := Lib.hid (HG.out.trans hg4)
      clear hg4
      go_wp2_with fail
      go_roundw
      case rel => exact ⟨5, by omega, rfl, rfl, rfl, HG4⟩
      case measure => simp
    · have HOF := Lib.hid (cof_ok HG.out.has)
      have HBR : Hid (Below w.heap.size w wr) := Lib.hid (HB2.out.trans (HG.out.kept.to_below HB2.out.size fun k hk h => by
        have := HFR.out
        have := HS0.out
        rcases h with e | e | e
        · have := HFR.out.wb; omega
        · have := HFR.out.gb; omega
        · have := HFR.out.kb; omega))
      clear hw
      go_wp2_with fail
      refine HOF.out.mono ?_
      rintro e w5 ⟨cb, bk, rfl, hc, hcb, hbk, hb5⟩
      have HC := Lib.hid hc
      have HLE : Hid (w.heap.size ≤ cb ∧ w.heap.size ≤ bk) := Lib.hid (by have := HBR.out.size; omega)
      have HB5 := Lib.hid (below_chain HBR.out hb5)
      clear hc hcb hbk hb5
      go_wp2_with fail
      go_ret2
      refine ⟨cb, bk, Λ, rfl, by rw [← HT5.out]; exact HC.out, ?_, HLE.out.1, HLE.out.2, HB5.out⟩
      have h := HFR.out
      have := HS0.out
      exact ⟨Nat.le_trans this h.mb, Nat.le_trans this h.wb, Nat.le_trans this h.ab, Nat.le_trans this h.gb, Nat.le_trans this h.kb⟩
end
end Go.Proofs.YtoafmlegamjlpaaGreatDoor
namespace Go.Proofs.YtoafmlegamjlpaaGreatDoor
open Go.RowKit Go.Colm Go.Cap Go.Maps
set_option linter.unusedVariables false
set_option linter.unusedSimpArgs false
section
variable {Λ : MLay} {μ : Mm} {w : World} {cb bk d : Nat}
theorem HasC.cc (h : HasC cb bk Λ μ d w) : w.cell? ⟨cb, 0, none⟩ = some (.pointer (some ⟨Λ.mb, 0, none⟩)) ∧ w.cell? ⟨cb, 1, none⟩ = some (.pointer (some ⟨bk, 0, none⟩)) := ⟨h.c.cell 0, h.c.cell 1⟩
set_option maxHeartbeats 800000 in
theorem cnone_any (h : HasC cb bk Λ μ d w) : Calls Tryz.prog 42 #[.pointer (some ⟨cb, 0, none⟩)] w fun e w' => e = .returned (.bool false) ∧ w' = w := by
  obtain ⟨c0, _⟩ := h.cc
  clear h
  go_enter Tryz.func42, Tryz.ntmps42
  go_wp2
  go_ret
  exact ⟨rfl, rfl⟩
set_option maxHeartbeats 800000 in
theorem cmem_any (h : HasC cb bk Λ μ d w) : Calls Tryz.prog 17 #[.pointer (some ⟨cb, 0, none⟩)] w fun e w' => e = .returned (.pointer (some ⟨Λ.mb, 0, none⟩)) ∧ w' = w := by
  obtain ⟨c0, _⟩ := h.cc
  have HN := Lib.hid (cnone_any h)
  clear h
  go_enter Tryz.func17, Tryz.ntmps17
  go_wp2_with fail
  refine HN.out.mono ?_
  rintro e w1 ⟨rfl, rfl⟩
  go_wp2
  go_ret
  exact ⟨rfl, rfl⟩
set_option maxHeartbeats 800000 in
theorem depth_any (most : Int) (hb : Whole w bk 165 #[.int .i64 (d : Int), .int .i64 most]) : Calls Tryz.prog 145 #[.pointer (some ⟨bk, 0, none⟩)] w fun e w' => e = .returned (.int .i64 (d : Int)) ∧ w' = w := by
  have c0 := hb.cell 0
  simp only [List.getElem?_toArray, List.getElem?_cons_zero] at c0
  clear hb
  go_enter Tryz.func145, Tryz.ntmps145
  go_wp2
  go_ret
  exact ⟨rfl, rfl⟩
set_option maxHeartbeats 800000 in
theorem busy_any (h : HasC cb bk Λ μ d w) : Calls Tryz.prog 76 #[.pointer (some ⟨bk, 0, none⟩)] w fun e w' => e = .returned (.bool (decide (0 < d))) ∧ w' = w := by
  obtain ⟨most, hb⟩ := h.b
  have HD := Lib.hid (depth_any most hb)
  clear h hb
  go_enter Tryz.func76, Tryz.ntmps76
  rcases Nat.eq_zero_or_pos d with h0 | hp
  · subst h0
    go_wp2_with fail
    refine HD.out.mono ?_
    rintro e w1 ⟨rfl, rfl⟩
    go_wp2
    go_ret
    exact ⟨rfl, rfl⟩
  · have e1 : decide ((0 : Int) < (d : Int)) = true := by simp; omega
    have e2 : decide (0 < d) = true := by simp; omega
    go_wp2_with fail
    refine HD.out.mono ?_
    rintro e w1 ⟨rfl, rfl⟩
    go_wp2
    go_ret
    exact ⟨ret_bool (by simp; exact hp), rfl⟩
set_option maxHeartbeats 800000 in
theorem clent_any (h : HasC cb bk Λ μ d w) : Calls Tryz.prog 41 #[.pointer (some ⟨cb, 0, none⟩)] w fun e w' => e = .returned (.bool (decide (0 < d))) ∧ w' = w := by
  obtain ⟨_, c1⟩ := h.cc
  have HN := Lib.hid (cnone_any h)
  have HB := Lib.hid (busy_any h)
  obtain ⟨b, hb⟩ : ∃ b, b = decide (0 < d) := ⟨_, rfl⟩
  rw [← hb] at HB ⊢
  clear h hb
  go_enter Tryz.func41, Tryz.ntmps41
  cases b
  all_goals
    go_wp2_with fail
    refine HN.out.mono ?_
    rintro e w1 ⟨rfl, rfl⟩
    go_wp2_with fail
    refine HB.out.mono ?_
    rintro e w1 ⟨rfl, rfl⟩
    go_wp2
    go_ret
    exact ⟨rfl, rfl⟩
/-- All of a memory's bytes. -/
def imgL (μ : Mm) : List UInt8 := (List.range μ.size).map fun i => UInt8.ofNat (μ.b.get i)
theorem imgL_length (μ : Mm) : (imgL μ).length = μ.size := by simp [imgL]
theorem HasM.row (h : HasM Λ μ w) : RowV w (some ⟨Λ.gb, 0, none⟩) (bytesV (imgL μ)) := fun i v hv => by
  have hi := (List.getElem?_eq_some_iff.1 hv).1
  rw [bytesV_length, imgL_length] at hi
  refine ⟨_, 0, rfl, ?_⟩
  rw [Nat.zero_add, h.by_.cell hi]
  simp only [bytesV, imgL, List.getElem?_map, List.getElem?_range hi, Option.map_some, Option.some.injEq] at hv
  rw [← hv]
  have := Tr.get_lt μ.b i
  simp only [UInt8.toNat_ofNat', Option.some.injEq, Value.int.injEq, true_and]
  omega
set_option maxHeartbeats 1600000 in
theorem aimage_any (h : HasM Λ μ w) : Calls Tryz.prog 44 #[.pointer (some ⟨Λ.ab, 0, none⟩)] w fun e w' => ∃ u, e = .returned u ∧ w'.ownsRow w.heap.size 5 1 u μ.size (bytesV (imgL μ)) ∧ Below w.heap.size w w' := by
  have HN := Lib.hid (anone_any h)
  have hcl := bclone_any (some ⟨Λ.gb, 0, none⟩) Λ.gc (imgL μ) w (by rw [imgL_length]; have := h.sz.1; omega) h.row
  rw [imgL_length] at hcl
  have HCL := Lib.hid hcl
  have c0 := h.ar.cell 0
  simp only [List.getElem?_toArray, List.getElem?_cons_zero] at c0
  clear h hcl
  go_enter Tryz.func44, Tryz.ntmps44
  go_wp2_with fail
  refine HN.out.mono ?_
  rintro e w1 ⟨rfl, rfl⟩
  go_wp2_with fail
  refine HCL.out.mono ?_
  rintro e w2 ⟨u, rfl, hu, hb⟩
  go_wp2_with fail
  go_ret
  exact ⟨u, rfl, hu, hb⟩
set_option maxHeartbeats 1600000 in
theorem mimage_any (h : HasM Λ μ w) : Calls Tryz.prog 18 #[.pointer (some ⟨Λ.mb, 0, none⟩)] w fun e w' => ∃ u, e = .returned u ∧ w'.ownsRow w.heap.size 5 1 u μ.size (bytesV (imgL μ)) ∧ Below w.heap.size w w' := by
  have HN := Lib.hid (mnone_any h)
  have HI := Lib.hid (aimage_any h)
  obtain ⟨_, c1, _, _⟩ := h.mc
  clear h
  go_enter Tryz.func18, Tryz.ntmps18
  go_wp2_with fail
  refine HN.out.mono ?_
  rintro e w1 ⟨rfl, rfl⟩
  go_wp2_with fail
  refine HI.out.mono ?_
  rintro e w2 ⟨u, rfl, hu, hb⟩
  go_wp2_with fail
  go_ret
  exact ⟨u, rfl, hu, hb⟩
end
end Go.Proofs.YtoafmlegamjlpaaGreatDoor
