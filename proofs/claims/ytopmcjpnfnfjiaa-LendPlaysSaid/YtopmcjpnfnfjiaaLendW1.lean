/-
  The walk of the law LendPlays: it answers true. No condition.
-/
import Derived.Test.YtopmcjpnfnfjiaaLendW
import Derived.Deep.RegionHeld3
namespace Go.Proofs.Ytopmcjpnfnfjiaa
open Go.RowKit Go.Colm Go.Lendp
set_option linter.unusedVariables false

set_option maxRecDepth 100000 in
set_option maxHeartbeats 4000000 in
theorem lendPlays_walk (A : Option Addr) (l : List Stp) (cp : Nat) (hlc : l.length ≤ cp) (hcm : cp ≤ maxLen) (hlim : Lim l) (w : World) (hs : StpsAt (fun _ => True) w A 0 l) :
    Calls Try.prog 3 #[.slice A l.length cp] w fun e w' => e = .returned (.bool true) ∧ Below w.heap.size w w' := by
  have HF := Lib.hid fun x => few_any (A := A) (cp := cp) x w hs hlim
  have HS := Lib.hid hs
  clear hs hlim hlc hcm
  go_enter Try.func3, Try.ntmps3
  go_wp2_with fail
  refine (HF.out _).mono ?_
  rintro e w1 ⟨q, rfl, hq, rfl⟩
  rcases q with _ | _
  · clear hq
    go_wp2_with fail
    refine (lends_any _).mono ?_
    rintro e w2 ⟨rfl, hb2⟩
    go_wp2_with fail
    go_ret
    exact ⟨rfl, hb2⟩
  · obtain ⟨hcnt, _, _⟩ := hq rfl
    clear hq HF
    go_wp2_with fail
    refine (new_any _).mono ?_
    rintro e w2 ⟨b, rfl, hb, hb2, hbk2⟩
    have hlt2 := (hbk2 b rfl).lt
    have HBK2 := Lib.hid hbk2
    have HB2 := Lib.hid hb2
    clear hbk2 hb2
    subst hb
    go_wp2_with fail
    refine (given_pack HS.out (Kept.below HB2.out _) (by omega)).mono ?_
    rintro e w3 ⟨A3, c3, rfl, hs3, hb3⟩
    have hsz3 := hb3.size
    have hplay := play_pack (d := 0) (m := 0) (c' := c3) (HBK2.out.kept (Kept.below hb3 (fun _ => False)) fun _ _ => id) (fun b' e => by cases e; exact hlt2) hs3 (by omega) (by omega)
    rw [show (some w1.heap.size).isNone = false from rfl] at hplay
    obtain ⟨r, hr⟩ : ∃ r, r = doL false 0 1 l := ⟨_, rfl⟩
    have hnr : r.1.length ≤ 200 := by
      have := doL_len false 0 1 l
      rw [← hr] at this
      omega
    have htale := fun (tb : Nat) (w5 : World) (h1 : Below w1.heap.size w1 w5) (h2 : w1.heap.size ≤ tb) (h3 : Whole w5 tb 36 #[.slice none 0 0, .int .i64 0, .bool false, .int .i64 0]) => tale_pack (cp := cp) HS.out h1 h2 (by omega) h3
    rw [← hr] at hplay
    simp only [← hr] at htale
    clear hr
    obtain ⟨ns, M, o⟩ := r
    simp only at hplay htale hnr
    obtain ⟨co, hco⟩ : ∃ x, x = o.getD 0 := ⟨_, rfl⟩
    obtain ⟨eo, heo⟩ : ∃ x, x = o.isSome := ⟨_, rfl⟩
    simp only [← hco, ← heo] at hplay htale
    clear hco heo
    have HPLAY := Lib.hid hplay
    have HTALE := Lib.hid htale
    have hbel3 := below_chain HB2.out (hb3.mono (by omega))
    have HB3 := Lib.hid hbel3
    clear hplay htale hs3 hb3 hbel3
    go_wp2_with fail
    refine HPLAY.out.mono ?_
    rintro e w4 ⟨A4, c4, rfl, hr4, ha4, hb4, hk4⟩
    rw [Nat.zero_max] at hb4
    have hbel4 : Below w1.heap.size w1 w4 := HB3.out.trans (hk4.to_below (by omega) fun k hk e => by
      cases e
      omega)
    have hsz4 := hk4.size
    obtain ⟨w5, hw5⟩ : ∃ w5, w5 = (w4.alloc (.cells #[.slice A4 ns.length c4, .int .i64 co, .bool eo] 30)).alloc (.cells #[.slice none 0 0, .int .i64 0, .bool false, .int .i64 0] 36) := ⟨_, rfl⟩
    have k5 : Kept (fun _ => False) w4 w5 := hw5 ▸ ((Kept.refl _ _).alloc _).alloc _
    have g5 : Whole w5 w4.heap.size 30 #[.slice A4 ns.length c4, .int .i64 co, .bool eo] := by
      rw [hw5]
      exact Kept.whole (S := fun _ => False) ((Kept.refl _ _).alloc _) (Whole.new w4 _ _) id
    have t5 : Whole w5 (w4.heap.size + 1) 36 #[.slice none 0 0, .int .i64 0, .bool false, .int .i64 0] := by
      have h := Whole.new (w4.alloc (.cells #[.slice A4 ns.length c4, .int .i64 co, .bool eo] 30)) 36 #[.slice none 0 0, .int .i64 0, .bool false, .int .i64 0]
      rw [World.size_alloc] at h
      rw [hw5]
      exact h
    have hbel5 : Below w1.heap.size w1 w5 := hbel4.trans (k5.to_below (by omega) fun _ _ => id)
    have htl := HTALE.out _ _ hbel5 (by omega) t5
    have HTL := Lib.hid htl
    have HR4 := Lib.hid hr4
    have HA4 := Lib.hid ha4
    have HB4 := Lib.hid hb4
    have HK5 := Lib.hid k5
    have HG5 := Lib.hid g5
    have HBEL5 := Lib.hid hbel5
    clear htl hr4 ha4 hb4 hk4 hbel4 k5 g5 t5 hbel5 HPLAY HTALE HB2 HBK2 HB3
    go_wp2_with fail
    rw [← hw5]
    clear hw5
    refine HTL.out.mono ?_
    rintro e w6 ⟨rfl, A6, c6, hr6, ht6, hk6⟩
    have g6 := hk6.whole HG5.out (by omega)
    have b6 : Whole w6 w1.heap.size 48 #[.int .i64 ((0 : Nat) : Int), .int .i64 (M : Int)] := hk6.whole (HK5.out.whole (HB4.out _ rfl) id) (by omega)
    have r6 : RowV w6 A4 (intsV ns) := (HR4.out.below (HK5.out.to_below (Nat.le_refl _) fun _ _ => id)).kept hk6 fun a e h => by
      have := (HA4.out a e).2
      omega
    have hbel6 : Below w1.heap.size w1 w6 := HBEL5.out.trans (hk6.to_below (by
      have := HBEL5.out.size
      omega) fun k hk e => by omega)
    have hkeep : ∀ W, Below w6.heap.size w6 W → Below w6.heap.size w6 W ∧ W.cell? ⟨w4.heap.size, 0, none⟩ = some (.slice A4 ns.length c4) ∧ W.cell? ⟨w4.heap.size, 1, none⟩ = some (.int .i64 co) ∧ W.cell? ⟨w4.heap.size, 2, none⟩ = some (.bool eo) ∧
        W.cell? ⟨w4.heap.size + 1, 0, none⟩ = some (.slice A6 ns.length c6) ∧ W.cell? ⟨w4.heap.size + 1, 1, none⟩ = some (.int .i64 co) ∧ W.cell? ⟨w4.heap.size + 1, 2, none⟩ = some (.bool eo) ∧ W.cell? ⟨w4.heap.size + 1, 3, none⟩ = some (.int .i64 (M : Int)) := by
      intro W h
      have kk := Kept.below h (fun _ => False)
      have g := kk.whole g6 id
      have t := kk.whole ht6 id
      exact ⟨h, g.cell 0, g.cell 1, g.cell 2, t.cell 0, t.cell 1, t.cell 2, t.cell 3⟩
    have hnl : ns.length < 1099511627776 := by omega
    have hsame : ∀ W, Below w6.heap.size w6 W → Calls Try.prog 14 #[.slice A4 ns.length c4, .slice A6 ns.length c6] W fun e w' => e = .returned (.bool true) ∧ Below w6.heap.size w6 w' := by
      intro W h
      have := same_any ns ns A4 A6 c4 c6 W (r6.below h) (hr6.below h) hnl hnl
      rw [show (ns == ns) = true by simp] at this
      exact this.mono fun e w' ⟨h1, h2⟩ => ⟨h1, below_chain h h2⟩
    have hmost : ∀ W, Below w6.heap.size w6 W → Calls Try.prog 15 #[bptr (some w1.heap.size)] W fun e w' => e = .returned (.int .i64 (M : Int)) ∧ Below w6.heap.size w6 w' := fun W h =>
      (most_some w1.heap.size 0 M W ((Kept.below h (fun _ => False)).whole b6 id)).mono fun e w' ⟨h1, h2⟩ => ⟨h1, h2 ▸ h⟩
    have hdepth : ∀ W, Below w6.heap.size w6 W → Calls Try.prog 16 #[bptr (some w1.heap.size)] W fun e w' => e = .returned (.int .i64 0) ∧ Below w6.heap.size w6 w' := fun W h =>
      (depth_some w1.heap.size 0 M W ((Kept.below h (fun _ => False)).whole b6 id)).mono fun e w' ⟨h1, h2⟩ => ⟨h1, h2 ▸ h⟩
    have hlends : ∀ W, Below w6.heap.size w6 W → Calls Try.prog 9 #[] W fun e w' => e = .returned (.bool true) ∧ Below w6.heap.size w6 w' := fun W h =>
      (lends_any W).mono fun e w' ⟨h1, h2⟩ => ⟨h1, below_chain h h2⟩
    have HKEEP := Lib.hid hkeep
    have HSAME := Lib.hid hsame
    have HMOST := Lib.hid hmost
    have HDEPTH := Lib.hid hdepth
    have HLENDS := Lib.hid hlends
    have HBEL6 := Lib.hid hbel6
    clear hkeep hsame hmost hdepth hlends hr6 ht6 hk6 g6 b6 r6 hbel6 HTL HR4 HA4 HB4 HK5 HG5 HBEL5
    go_wp2_with fail
    go_region_held3 (fun W => Below w6.heap.size w6 W ∧ W.cell? ⟨w4.heap.size, 0, none⟩ = some (.slice A4 ns.length c4) ∧ W.cell? ⟨w4.heap.size, 1, none⟩ = some (.int .i64 co) ∧ W.cell? ⟨w4.heap.size, 2, none⟩ = some (.bool eo) ∧
        W.cell? ⟨w4.heap.size + 1, 0, none⟩ = some (.slice A6 ns.length c6) ∧ W.cell? ⟨w4.heap.size + 1, 1, none⟩ = some (.int .i64 co) ∧ W.cell? ⟨w4.heap.size + 1, 2, none⟩ = some (.bool eo) ∧ W.cell? ⟨w4.heap.size + 1, 3, none⟩ = some (.int .i64 (M : Int)))
      (first | exact HKEEP.out _ (by assumption) | exact HKEEP.out _ (Below.refl _ _).drew)
      (first
        | ((go_at_call 14; refine (HSAME.out _ (And.left (by assumption))).mono ?_); rintro e w7 ⟨rfl, hb7⟩)
        | ((go_at_call 15; refine (HMOST.out _ (And.left (by assumption))).mono ?_); rintro e w7 ⟨rfl, hb7⟩)
        | ((go_at_call 16; refine (HDEPTH.out _ (And.left (by assumption))).mono ?_); rintro e w7 ⟨rfl, hb7⟩)
        | ((go_at_call 9; refine (HLENDS.out _ (And.left (by assumption))).mono ?_); rintro e w7 ⟨rfl, hb7⟩))
    go_wp2_with fail
    go_ret
    exact ⟨rfl, HBEL6.out.trans (Below.mono (And.left (by assumption)) (by
      have := HBEL6.out.size
      omega))⟩

end Go.Proofs.Ytopmcjpnfnfjiaa
