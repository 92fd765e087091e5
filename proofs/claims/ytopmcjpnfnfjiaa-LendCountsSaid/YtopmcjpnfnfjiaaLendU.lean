/-
  The walks of Most and Busy, and of the example that every law of layer lend ends with: it holds. No condition.
-/
import Derived.Test.YtopmcjpnfnfjiaaLendK
import Derived.Test.YtopmcjpnfnfjiaaLendS
namespace Go.Proofs.Ytopmcjpnfnfjiaa
open Go.RowKit Go.Colm Go.Lendp
set_option linter.unusedVariables false

set_option maxHeartbeats 400000 in
theorem most_nil (w : World) : Calls Try.prog 15 #[.pointer none] w fun e w' => e = .returned (.int .i64 0) ∧ w' = w := by
  go_enter Try.func15, Try.ntmps15
  go_wp2
  go_ret
  exact ⟨rfl, rfl⟩
set_option maxHeartbeats 400000 in
theorem most_some (b d m : Nat) (w : World) (h : Whole w b 48 #[.int .i64 (d : Int), .int .i64 (m : Int)]) : Calls Try.prog 15 #[.pointer (some ⟨b, 0, none⟩)] w fun e w' => e = .returned (.int .i64 (m : Int)) ∧ w' = w := by
  have c1 : w.cell? ⟨b, 1, none⟩ = some (.int .i64 (m : Int)) := h.cell 1
  have H := Lib.hid h
  clear h
  go_enter Try.func15, Try.ntmps15
  go_wp2
  go_ret
  exact ⟨rfl, rfl⟩
set_option maxHeartbeats 400000 in
theorem busy_nil (w : World) : Calls Try.prog 18 #[.pointer none] w fun e w' => e = .returned (.bool false) ∧ w' = w := by
  go_enter Try.func18, Try.ntmps18
  go_wp2_with fail
  refine (depth_nil _).mono ?_
  rintro e w1 ⟨rfl, rfl⟩
  go_wp2_with fail
  go_ret
  exact ⟨rfl, rfl⟩
set_option maxHeartbeats 400000 in
theorem busy_some (b d m : Nat) (w : World) (h : Whole w b 48 #[.int .i64 (d : Int), .int .i64 (m : Int)]) : Calls Try.prog 18 #[.pointer (some ⟨b, 0, none⟩)] w fun e w' => e = .returned (.bool (decide (0 < d))) ∧ w' = w := by
  have H := Lib.hid h
  clear h
  go_enter Try.func18, Try.ntmps18
  go_wp2_with fail
  refine (depth_some b d m _ H.out).mono ?_
  rintro e w1 ⟨rfl, rfl⟩
  go_wp2_with fail
  go_ret
  exact ⟨ret_bool (by simp), rfl⟩

/-- The example's steps. -/
abbrev exL : List Stp := [.mk 1 0 [], .mk 2 0 [.mk 1 0 [], .mk 3 7 []], .mk 1 0 []]
theorem exL_comes : doL false 0 1 exL = ([0, 1], 1, some 7) := by
  simp [doL, doS]
theorem exL_steps (w : World) : StpsAt (fun k => k = w.heap.size ∨ k = w.heap.size + 1)
    ((w.alloc (.cells #[.int .i64 1, .int .i64 0, .slice none 0 0, .int .i64 3, .int .i64 7, .slice none 0 0] 42)).alloc
      (.cells #[.int .i64 1, .int .i64 0, .slice none 0 0, .int .i64 2, .int .i64 0, .slice (some ⟨w.heap.size, 0, none⟩) 2 2, .int .i64 1, .int .i64 0, .slice none 0 0] 42)) (some ⟨w.heap.size + 1, 0, none⟩) 0 exL := by
  have h1 := Kept.whole (S := fun _ => False) ((Kept.refl _ _).alloc (.cells #[.int .i64 1, .int .i64 0, .slice none 0 0, .int .i64 2, .int .i64 0, .slice (some ⟨w.heap.size, 0, none⟩) 2 2, .int .i64 1, .int .i64 0, .slice none 0 0] 42)) (Whole.new w 42 #[.int .i64 1, .int .i64 0, .slice none 0 0, .int .i64 3, .int .i64 7, .slice none 0 0]) id
  have h2 := Whole.new (w.alloc (.cells #[.int .i64 1, .int .i64 0, .slice none 0 0, .int .i64 3, .int .i64 7, .slice none 0 0] 42)) 42 #[.int .i64 1, .int .i64 0, .slice none 0 0, .int .i64 2, .int .i64 0, .slice (some ⟨w.heap.size, 0, none⟩) 2 2, .int .i64 1, .int .i64 0, .slice none 0 0]
  rw [World.size_alloc] at h2
  generalize (w.alloc (.cells #[.int .i64 1, .int .i64 0, .slice none 0 0, .int .i64 3, .int .i64 7, .slice none 0 0] 42)).alloc
      (.cells #[.int .i64 1, .int .i64 0, .slice none 0 0, .int .i64 2, .int .i64 0, .slice (some ⟨w.heap.size, 0, none⟩) 2 2, .int .i64 1, .int .i64 0, .slice none 0 0] 42) = W at h1 h2 ⊢
  refine stpsAt_cons.2 ⟨⟨_, 0, rfl, .inr rfl, stpAt_mk.2 ⟨h2.cell 0, h2.cell 1, none, 0, h2.cell 2, stpsAt_nil⟩⟩, stpsAt_cons.2 ⟨⟨_, 0, rfl, .inr rfl, stpAt_mk.2 ⟨h2.cell 3, h2.cell 4, _, 2, h2.cell 5, ?_⟩⟩, stpsAt_cons.2 ⟨⟨_, 0, rfl, .inr rfl, stpAt_mk.2 ⟨h2.cell 6, h2.cell 7, none, 0, h2.cell 8, stpsAt_nil⟩⟩, stpsAt_nil⟩⟩⟩
  exact stpsAt_cons.2 ⟨⟨_, 0, rfl, .inl rfl, stpAt_mk.2 ⟨h1.cell 0, h1.cell 1, none, 0, h1.cell 2, stpsAt_nil⟩⟩, stpsAt_cons.2 ⟨⟨_, 0, rfl, .inl rfl, stpAt_mk.2 ⟨h1.cell 3, h1.cell 4, none, 0, h1.cell 5, stpsAt_nil⟩⟩, stpsAt_nil⟩⟩

set_option maxHeartbeats 2000000 in
theorem lends_any (w : World) : Calls Try.prog 9 #[] w fun e w' => e = .returned (.bool true) ∧ Below w.heap.size w w' := by
  go_enter Try.func9, Try.ntmps9
  go_wp2_with fail
  refine (new_any _).mono ?_
  rintro e w1 ⟨b, rfl, hb, hb1, hbk⟩
  go_wp2_with fail
  have kW : Kept (fun _ => False) w1 ((w1.alloc (.cells #[.int .i64 1, .int .i64 0, .slice none 0 0, .int .i64 3, .int .i64 7, .slice none 0 0] 42)).alloc
      (.cells #[.int .i64 1, .int .i64 0, .slice none 0 0, .int .i64 2, .int .i64 0, .slice (some ⟨w1.heap.size, 0, none⟩) 2 2, .int .i64 1, .int .i64 0, .slice none 0 0] 42)) := ((Kept.refl _ _).alloc _).alloc _
  have hst := exL_steps w1
  have hlt := (hbk b rfl).lt
  have hplay := play_any (some b) 0 0 (some ⟨w1.heap.size + 1, 0, none⟩) 3 exL _ (hbk.kept kW fun _ _ => id) hst (by
    intro k hk
    have h2 : k < w1.heap.size + 2 := by omega
    refine ⟨by simpa using h2, fun e => ?_⟩
    cases e
    omega) (by simp [cntL, cntS]) (by omega)
  rw [show (some b).isNone = false from rfl, exL_comes] at hplay
  have HPLAY := Lib.hid hplay
  clear hplay hst
  subst hb
  refine HPLAY.out.mono ?_
  rintro e w2 ⟨v', rfl, hrow, hb2, hk2⟩
  obtain ⟨A2, c2, rfl, hr2⟩ := own_row hrow
  have hbel2 : Below w.heap.size w w2 := (hk2.to_below (B := w.heap.size) (by
    have := kW.size
    omega) (fun k hk e => by
    cases e
    omega)) |> fun h => (hb1.trans (kW.to_below (by omega) fun _ _ => id)).trans h
  have HB2 := Lib.hid hb2
  have HR2 := Lib.hid hr2
  have HBEL := Lib.hid hbel2
  clear HPLAY hrow hb2 hk2 hr2 hbel2 kW hbk hb1
  go_wp2_with fail
  have k3 : Kept (fun _ => False) w2 ((w2.alloc (.cells #[.slice A2 2 c2, .int .i64 7, .bool true] 30)).alloc (.cells #[.int .i64 0, .int .i64 1] 3)) := ((Kept.refl _ _).alloc _).alloc _
  have g1 : Whole ((w2.alloc (.cells #[.slice A2 2 c2, .int .i64 7, .bool true] 30)).alloc (.cells #[.int .i64 0, .int .i64 1] 3)) w2.heap.size 30 #[.slice A2 2 c2, .int .i64 7, .bool true] :=
    Kept.whole (S := fun _ => False) ((Kept.refl _ _).alloc _) (Whole.new w2 _ _) id
  have r3 := RowV.new (w2.alloc (.cells #[.slice A2 2 c2, .int .i64 7, .bool true] 30)) 3 #[.int .i64 0, .int .i64 1]
  rw [World.size_alloc] at r3
  have hbel3 : Below w2.heap.size w2 ((w2.alloc (.cells #[.slice A2 2 c2, .int .i64 7, .bool true] 30)).alloc (.cells #[.int .i64 0, .int .i64 1] 3)) := k3.to_below (Nat.le_refl _) fun _ _ => id
  have hsame := same_any [0, 1] [0, 1] A2 (some ⟨w2.heap.size + 1, 0, none⟩) c2 2 _ (HR2.out.below hbel3) r3 (by decide) (by decide)
  rw [show (([0, 1] : List Int) == [0, 1]) = true from by decide] at hsame
  have HK3 := Lib.hid k3
  have HG1 := Lib.hid g1
  have HSAME := Lib.hid hsame
  clear k3 g1 r3 hbel3 hsame
  refine HSAME.out.mono ?_
  rintro e w4 ⟨rfl, hb4⟩
  have k4 : Kept (fun _ => False) _ w4 := Kept.below hb4 (fun _ => False)
  have s1 : w4.cell? ⟨w2.heap.size, 1, none⟩ = some (.int .i64 7) := k4.cell (HG1.out.cell 1) id
  have s2 : w4.cell? ⟨w2.heap.size, 2, none⟩ = some (.bool true) := k4.cell (HG1.out.cell 2) id
  have hbk4 : Whole w4 w.heap.size 48 #[.int .i64 ((0 : Nat) : Int), .int .i64 ((1 : Nat) : Int)] := k4.whole (HK3.out.whole (HB2.out _ rfl) id) id
  have hbel4 : Below w.heap.size w w4 := HBEL.out.trans ((HK3.out.trans k4).to_below (by
    have := HBEL.out.size
    omega) fun _ _ => id)
  have HBK4 := Lib.hid hbk4
  have HBEL4 := Lib.hid hbel4
  clear hb4 k4 hbk4 hbel4 HSAME
  go_wp2_with fail
  refine (depth_some _ 0 1 _ HBK4.out).mono ?_
  rintro e w5 ⟨rfl, rfl⟩
  go_wp2_with fail
  refine (busy_some _ 0 1 _ HBK4.out).mono ?_
  rintro e w5 ⟨rfl, rfl⟩
  go_wp2_with fail
  refine (most_some _ 0 1 _ HBK4.out).mono ?_
  rintro e w5 ⟨rfl, rfl⟩
  go_wp2_with fail
  go_ret
  exact ⟨rfl, HBEL4.out⟩

end Go.Proofs.Ytopmcjpnfnfjiaa
