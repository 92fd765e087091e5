/-
  The walk of names(): the page's example. internal/bytealg.MaxLen holds some number.
-/
import Derived.Test.YtfnpjcfaabbejaaDoorNamE
namespace Go.Proofs.YtfnpjcfaabbejaaDoor
open Go.RowKit Go.Foldp Go.Colm Go.Wirep
set_option linter.unusedVariables false

theorem parse_1 : parseL [87, 87, 87, 46, 97, 46] = ([[119, 119, 119], [97]], 0) := by decide +kernel
theorem parse_2 : parseL [97, 46, 46, 98] = ([], 20) := by decide +kernel
theorem parse_3 : parseL [46] = ([], 0) := by decide +kernel
theorem wire_1 : wireL [[119, 119, 119], [97]] = 7 := by decide +kernel
theorem shared_1 : sharedL [[119, 119, 119], [97]] [[98], [65]] = 1 := by decide +kernel
theorem shared_2 : sharedL [[119, 119, 119], [97]] [[97]] = 1 := by decide +kernel

set_option maxRecDepth 100000 in
set_option maxHeartbeats 4000000 in
theorem names_any (w : World) (hm : MaxL w) : Calls Tryd.prog 7 #[] w fun e w' => e = .returned (.bool true) ∧ Below w.heap.size w w' := by
  have HM := Lib.hid hm
  have HP1 : Hid (∀ W, MaxL W → Calls Tryd.prog 8 #[.string ⟨#[87, 87, 87, 46, 97, 46]⟩] W (ParseIt W ([[119, 119, 119], [97]], 0))) := Lib.hid (fun W h => by
    have := parse_any [87, 87, 87, 46, 97, 46] W h (by decide)
    rwa [parse_1] at this)
  have HP2 : Hid (∀ W, MaxL W → Calls Tryd.prog 8 #[.string ⟨#[97, 46, 46, 98]⟩] W (ParseIt W ([], 20))) := Lib.hid (fun W h => by
    have := parse_any [97, 46, 46, 98] W h (by decide)
    rwa [parse_2] at this)
  have HP3 : Hid (∀ W, MaxL W → Calls Tryd.prog 8 #[.string ⟨#[46]⟩] W (ParseIt W ([], 0))) := Lib.hid (fun W h => by
    have := parse_any [46] W h (by decide)
    rwa [parse_3] at this)
  have HT : Hid (∀ W, Calls Tryd.prog 12 #[.slice none 0 0] W (TextIt W ([46], 0))) := Lib.hid (fun W => text_any [] none 0 W (RowV.nil _ _) (Nat.le_refl _) (by decide))
  have HR2 : Hid (∀ W : World, RowV (W.alloc (.cells #[.string ⟨#[119, 119, 119]⟩, .string ⟨#[97]⟩] 9)) (some ⟨W.heap.size, 0, none⟩) (labV [[119, 119, 119], [97]])) := Lib.hid (fun W => RowV.new W 9 #[.string ⟨#[119, 119, 119]⟩, .string ⟨#[97]⟩])
  have HR3 : Hid (∀ W : World, RowV (W.alloc (.cells #[.string ⟨#[98]⟩, .string ⟨#[65]⟩] 9)) (some ⟨W.heap.size, 0, none⟩) (labV [[98], [65]])) := Lib.hid (fun W => RowV.new W 9 #[.string ⟨#[98]⟩, .string ⟨#[65]⟩])
  have HR4 : Hid (∀ W : World, RowV (W.alloc (.cells #[.string ⟨#[97]⟩] 9)) (some ⟨W.heap.size, 0, none⟩) (labV [[97]])) := Lib.hid (fun W => RowV.new W 9 #[.string ⟨#[97]⟩])
  have HS : Hid (∀ (A : Option Addr) (c : Nat) (W : World), RowV W A (labV [[119, 119, 119], [97]]) → Calls Tryd.prog 10 #[.slice A 2 c, .slice (some ⟨W.heap.size, 0, none⟩) 2 2] (W.alloc (.cells #[.string ⟨#[119, 119, 119]⟩, .string ⟨#[97]⟩] 9)) fun e w' => e = .returned (.bool true) ∧ Below W.heap.size W w') := Lib.hid (fun A c W hr => by
    have hb := (Below.refl W.heap.size W).alloc (Nat.le_refl _) (.cells #[.string ⟨#[119, 119, 119]⟩, .string ⟨#[97]⟩] 9)
    have := same_strs [[119, 119, 119], [97]] [[119, 119, 119], [97]] A (some ⟨W.heap.size, 0, none⟩) c 2 _ (hr.below hb) (HR2.out W) (by decide) (by decide)
    rw [beq_self_eq_true] at this
    exact this.mono fun e w' ⟨h1, h2⟩ => ⟨h1, below_chain hb h2⟩)
  have HW : Hid (∀ (A : Option Addr) (c : Nat) (W : World), RowV W A (labV [[119, 119, 119], [97]]) → Calls Tryd.prog 16 #[.slice A 2 c] W fun e w' => e = .returned (.int .i64 7) ∧ w' = W) := Lib.hid (fun A c W hr => wire_any [[119, 119, 119], [97]] A c W hr (by decide))
  have HSH : Hid (∀ (A : Option Addr) (c : Nat) (W : World), RowV W A (labV [[119, 119, 119], [97]]) → Calls Tryd.prog 19 #[.slice A 2 c, .slice (some ⟨W.heap.size, 0, none⟩) 2 2] (W.alloc (.cells #[.string ⟨#[98]⟩, .string ⟨#[65]⟩] 9)) fun e w' => e = .returned (.int .i64 1) ∧ Below W.heap.size W w') := Lib.hid (fun A c W hr => by
    have hb := (Below.refl W.heap.size W).alloc (Nat.le_refl _) (.cells #[.string ⟨#[98]⟩, .string ⟨#[65]⟩] 9)
    have := shared_any [[119, 119, 119], [97]] [[98], [65]] A (some ⟨W.heap.size, 0, none⟩) c 2 _ (hr.below hb) (HR3.out W) (by decide) (by decide)
    rw [shared_1] at this
    exact this.mono fun e w' ⟨h1, h2⟩ => ⟨h1, below_chain hb h2⟩)
  have HBL : Hid (∀ (A : Option Addr) (c : Nat) (W : World), RowV W A (labV [[119, 119, 119], [97]]) → Calls Tryd.prog 20 #[.slice A 2 c, .slice (some ⟨W.heap.size, 0, none⟩) 1 1] (W.alloc (.cells #[.string ⟨#[97]⟩] 9)) fun e w' => e = .returned (.bool true) ∧ Below W.heap.size W w') := Lib.hid (fun A c W hr => by
    have hb := (Below.refl W.heap.size W).alloc (Nat.le_refl _) (.cells #[.string ⟨#[97]⟩] 9)
    have := below_any [[119, 119, 119], [97]] [[97]] A (some ⟨W.heap.size, 0, none⟩) c 1 _ (hr.below hb) (HR4.out W) (by decide) (by decide)
    rw [shared_2] at this
    exact this.mono fun e w' ⟨h1, h2⟩ => ⟨h1, below_chain hb h2⟩)
  clear hm HR2 HR3 HR4
  go_enter Tryd.func7, Tryd.ntmps7
  go_wp2_with fail
  refine (HP1.out _ HM.out).mono ?_
  rintro e w1 ⟨A1, c1, rfl, hr1, hc1, hb1⟩
  have HR1 := Lib.hid hr1
  have HB1 := Lib.hid hb1
  clear hr1 hb1 hc1
  go_wp2_with fail
  refine (HP2.out _ (HM.out.below HB1.out)).mono ?_
  rintro e w2 ⟨A2, c2, rfl, hr2, hc2, hb2⟩
  have HB2 := Lib.hid (below_chain HB1.out hb2)
  have HRA := Lib.hid (HR1.out.below hb2)
  clear hr2 hb2 hc2
  go_wp2_with fail
  refine (HP3.out _ (HM.out.below HB2.out)).mono ?_
  rintro e w3 ⟨A3, c3, rfl, hr3, hc3, hb3⟩
  have HB3 := Lib.hid (below_chain HB2.out hb3)
  have HRB := Lib.hid (HRA.out.below hb3)
  clear hr3 hb3 hc3
  go_wp2_with fail
  refine (HT.out _).mono ?_
  rintro e w4 ⟨rfl, hb4⟩
  have HB4 := Lib.hid (below_chain HB3.out hb4)
  have HRC := Lib.hid (HRB.out.below hb4)
  clear hb4
  go_wp2_with fail
  refine (HS.out _ _ _ HRC.out).mono ?_
  rintro e w5 ⟨rfl, hb5⟩
  have HB5 := Lib.hid (below_chain HB4.out hb5)
  have HRD := Lib.hid (HRC.out.below hb5)
  clear hb5
  go_wp2_with fail
  refine (HW.out _ _ _ HRD.out).mono ?_
  rintro e w6 ⟨rfl, hw6⟩
  rw [hw6]
  clear hw6 w6
  go_wp2_with fail
  refine (HSH.out _ _ _ HRD.out).mono ?_
  rintro e w6 ⟨rfl, hb6⟩
  have HB6 := Lib.hid (below_chain HB5.out hb6)
  have HRE := Lib.hid (HRD.out.below hb6)
  clear hb6
  go_wp2_with fail
  refine (HBL.out _ _ _ HRE.out).mono ?_
  rintro e w7 ⟨rfl, hb7⟩
  go_wp2_with fail
  go_ret
  exact ⟨rfl, below_chain HB6.out hb7⟩
end Go.Proofs.YtfnpjcfaabbejaaDoor
