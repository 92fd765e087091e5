/-
  The walk of the law LendNil: it answers true. No condition.
-/
import Derived.Test.YtopmcjpnfnfjiaaLendW
import Derived.BigQuiet
namespace Go.Proofs.Ytopmcjpnfnfjiaa
open Go.RowKit Go.Colm Go.Lendp
set_option linter.unusedVariables false

set_option maxRecDepth 100000 in
set_option maxHeartbeats 4000000 in
theorem lendNil_walk (A : Option Addr) (l : List Stp) (cp : Nat) (hlc : l.length ≤ cp) (hcm : cp ≤ maxLen) (hlim : Lim l) (w : World) (hs : StpsAt (fun _ => True) w A 0 l) :
    Calls Try.prog 6 #[.slice A l.length cp] w fun e w' => e = .returned (.bool true) ∧ Below w.heap.size w w' := by
  have HF := Lib.hid fun x => few_any (A := A) (cp := cp) x w hs hlim
  have HS := Lib.hid hs
  clear hs hlim hlc hcm
  go_enter Try.func6, Try.ntmps6
  go_wp2_with fail
  refine (HF.out _).mono ?_
  rintro e w1 ⟨q, rfl, hq, rfl⟩
  rcases q with _ | _
  · clear hq
    go_wp2_with fail
    refine (lends_any _).mono ?_
    rintro e w2 ⟨rfl, hb2⟩
    go_wp2_with fail
    go_ret
    exact ⟨rfl, hb2⟩
  · obtain ⟨hcnt, _, _⟩ := hq rfl
    clear hq HF
    go_wp2_with fail
    refine (given_pack HS.out (Kept.refl _ _) (by omega)).mono ?_
    rintro e w3 ⟨A3, c3, rfl, hs3, hb3⟩
    have hsz3 := hb3.size
    have hbes := doL_nil 0 0 1 l
    have hlen1 := doL_len true 0 1 l
    have hlen2 := doL_len false 0 1 l
    have hp1 : Calls Try.prog 11 #[.pointer none, .slice A3 l.length c3] w3 fun e w' => ∃ A3 c3, e = .returned (.agg #[.slice A3 (doL true 0 1 l).1.length c3, .int .i64 ((doL true 0 1 l).2.2.getD 0), .bool (doL true 0 1 l).2.2.isSome]) ∧ Played none 0 0 (doL true 0 1 l) w3 A3 w' :=
      play_pack (bp := none) (d := 0) (m := 0) (c' := c3) (Book.none_ _ _ _) (fun b e => by cases e) hs3 (by omega) (by omega)
    have hp2 : ∀ (b B c' : Nat) (A' : Option Addr) (w' : World), Book (some b) w' 0 0 → b < B → StpsAt (fun k => B ≤ k) w' A' 0 l →
        Calls Try.prog 11 #[bptr (some b), .slice A' l.length c'] w' fun e w'' => ∃ A3 c3, e = .returned (.agg #[.slice A3 (doL false 0 1 l).1.length c3, .int .i64 ((doL false 0 1 l).2.2.getD 0), .bool (doL false 0 1 l).2.2.isSome]) ∧ Played (some b) 0 0 (doL false 0 1 l) w' A3 w'' :=
      fun b B c' A' w' h1 h2 h3 => play_pack (bp := some b) (d := 0) h1 (fun b' e => by cases e; exact h2) h3 (by omega) (by omega)
    obtain ⟨r1, hr1⟩ : ∃ r, r = doL true 0 1 l := ⟨_, rfl⟩
    obtain ⟨r2, hr2⟩ : ∃ r, r = doL false 0 1 l := ⟨_, rfl⟩
    rw [← hr1] at hbes hp1 hlen1
    rw [← hr2] at hbes hlen2
    simp only [← hr2] at hp2
    clear hr1 hr2
    obtain ⟨ns1, M1, o1⟩ := r1
    obtain ⟨ns2, M2, o2⟩ := r2
    obtain ⟨hbs, ho⟩ := hbes
    simp only at hbs ho hp1 hp2 hlen1 hlen2
    subst ho
    have hnl := hbs.length
    obtain ⟨co, hco⟩ : ∃ x, x = o1.getD 0 := ⟨_, rfl⟩
    obtain ⟨eo, heo⟩ : ∃ x, x = o1.isSome := ⟨_, rfl⟩
    simp only [← hco, ← heo] at hp1 hp2
    clear hco heo
    have hl1 : ns1.length ≤ 200 := by omega
    obtain ⟨n2, hn2⟩ : ∃ n, n = ns2.length := ⟨_, rfl⟩
    have HBS := Lib.hid hbs
    have HP1 := Lib.hid hp1
    have HP2 := Lib.hid hp2
    have HNL := Lib.hid hnl
    have HB3 := Lib.hid hb3
    clear hbs hp1 hp2 hnl hb3 hs3 hlen1 hlen2 hn2 n2
    go_wp2_with fail
    refine HP1.out.mono ?_
    rintro e w4 ⟨A4, c4, rfl, hr4, ha4, _, hk4⟩
    have hsz4 := hk4.size
    obtain ⟨w5, hw5⟩ : ∃ w5, w5 = w4.alloc (.cells #[.slice A4 ns1.length c4, .int .i64 co, .bool eo] 30) := ⟨_, rfl⟩
    have k5 : Kept (fun _ => False) w4 w5 := hw5 ▸ (Kept.refl _ _).alloc _
    have g5 : Whole w5 w4.heap.size 30 #[.slice A4 ns1.length c4, .int .i64 co, .bool eo] := by
      rw [hw5]
      exact Whole.new w4 _ _
    have hsz5 : w5.heap.size = w4.heap.size + 1 := by
      rw [hw5]
      simp
    have hbel5 : Below w1.heap.size w1 w5 := (HB3.out.trans ((hk4.to_below (by omega) fun _ _ h => by cases h))).trans (k5.to_below (by omega) fun _ _ => id)
    have HBEL5 := Lib.hid hbel5
    have HG5 := Lib.hid g5
    have HR5 := Lib.hid (hr4.kept k5 fun _ _ => id)
    have HA4 := Lib.hid ha4
    clear hr4 ha4 hk4 k5 g5 hbel5 HP1 HB3
    go_wp2_with fail
    rw [← hw5]
    clear hw5
    refine (new_any w5).mono ?_
    rintro e w6 ⟨b6, rfl, hb6, hbl6, hbk6⟩
    have hlt6 := (hbk6 b6 rfl).lt
    have hsz6 := hbl6.size
    have HBK6 := Lib.hid hbk6
    have HBL6 := Lib.hid hbl6
    have hb6' : w5.heap.size ≤ b6 := by omega
    clear hbk6 hbl6 hb6
    go_wp2_with fail
    refine (given_pack (w1 := w6) HS.out (Kept.below (HBEL5.out.trans (HBL6.out.mono (by
      have := HBEL5.out.size
      omega))) _) (by omega)).mono ?_
    rintro e w7 ⟨A7, c7, rfl, hs7, hb7⟩
    have k7 : Kept (fun _ => False) w6 w7 := Kept.below hb7 _
    have hpl := HP2.out b6 _ c7 _ _ (HBK6.out.kept k7 fun _ _ => id) hlt6 hs7
    have HPL := Lib.hid hpl
    have HK7 := Lib.hid ((Kept.below HBL6.out (fun _ => False)).trans k7)
    clear hpl hs7 hb7 k7 HBK6 HBL6 HP2
    go_wp2_with fail
    refine HPL.out.mono ?_
    rintro e w8 ⟨A8, c8, rfl, hr8, ha8, _, hk8⟩
    have hsz7 := HK7.out.size
    have hsz8 := hk8.size
    have HK58 : Hid (Kept (fun k => k = b6) w5 w8) := Lib.hid ((HK7.out.mono fun _ _ h => h.elim).trans (hk8.mono fun k _ h => by
      have h' : b6 = k := by simpa [lendS] using h
      exact h'.symm))
    have g8 := HK58.out.whole HG5.out (by omega)
    have r8 := HR5.out.kept HK58.out fun a ha e => by
      have := (HA4.out a ha).2
      omega
    have hbel8 : Below w1.heap.size w1 w8 := HBEL5.out.trans (HK58.out.to_below (B := w1.heap.size) (by
      have := HBEL5.out.size
      omega) fun k hk (e : k = b6) => by
      have := HBEL5.out.size
      omega)
    obtain ⟨w9, hw9⟩ : ∃ w9, w9 = w8.alloc (.cells #[.slice A8 ns2.length c8, .int .i64 co, .bool eo] 30) := ⟨_, rfl⟩
    have k9 : Kept (fun _ => False) w8 w9 := hw9 ▸ (Kept.refl _ _).alloc _
    have g9n : Whole w9 w8.heap.size 30 #[.slice A8 ns2.length c8, .int .i64 co, .bool eo] := by
      rw [hw9]
      exact Whole.new w8 _ _
    have HBEL9 := Lib.hid (hbel8.trans (k9.to_below (by
      have := hbel8.size
      omega) fun _ _ => id))
    have HG9 := Lib.hid (k9.whole g8 id)
    have HR9 := Lib.hid (r8.kept k9 fun _ _ => id)
    have HG9N := Lib.hid g9n
    have HR9N := Lib.hid (hr8.kept k9 fun _ _ => id)
    have hcells : ∀ W, Below w9.heap.size w9 W → W.cell? ⟨w4.heap.size, 0, none⟩ = some (.slice A4 ns1.length c4) ∧ W.cell? ⟨w8.heap.size, 0, none⟩ = some (.slice A8 ns2.length c8) ∧ W.cell? ⟨w4.heap.size, 1, none⟩ = some (.int .i64 co) ∧ W.cell? ⟨w8.heap.size, 1, none⟩ = some (.int .i64 co) ∧
        W.cell? ⟨w4.heap.size, 2, none⟩ = some (.bool eo) ∧ W.cell? ⟨w8.heap.size, 2, none⟩ = some (.bool eo) := by
      intro W h
      have g := (Kept.below h (fun _ => False)).whole HG9.out id
      have g' := (Kept.below h (fun _ => False)).whole HG9N.out id
      exact ⟨g.cell 0, g'.cell 0, g.cell 1, g'.cell 1, g.cell 2, g'.cell 2⟩
    have HCELLS := Lib.hid hcells
    have HW9 := Lib.hid hw9
    clear g8 r8 hbel8 k9 g9n hr8 ha8 hk8 HK58 HPL HK7 HG5 HR5 HBEL5 hcells hw9
    have hne : (ns1.length : Int) = ns2.length := by
      have := HNL.out
      omega
    go_wp2_with fail
    rw [← HW9.out]
    go_loopw [6] (fun i wr => ∃ k : Nat, k ≤ ns1.length ∧ i = .int .i64 k ∧ Below w9.heap.size w9 wr) (fun i _ => ns1.length - (intOf i).toNat)
    case atStart => exact ⟨0, Nat.zero_le _, rfl, Below.refl _ _⟩
    case round =>
      obtain ⟨k, hk, rfl, hbw⟩ := hrel
      obtain ⟨x0, x1, x2, x3, x4, x5⟩ := HCELLS.out wr hbw
      by_cases hlt : k < ns1.length
      · have hlt2 : k < ns2.length := by
          have := HNL.out
          omega
        obtain ⟨b1, off1, rfl, y1⟩ := intsV_at (HR9.out.below hbw) hlt
        obtain ⟨b2, off2, rfl, y2⟩ := intsV_at (HR9N.out.below hbw) hlt2
        have hat := HBS.out.at_ k hlt
        have t0 : ((ns1.length : Int) != ns2.length) = false := by simp [hne]
        by_cases hz : ns1[k] = 0
        · have t1 : (ns1[k] != 0) = false := by simp [hz]
          clear hat
          go_wp2_with fail
          go_quiet (fail)
          go_wp2_with fail
          go_roundw
          case rel => exact ⟨k + 1, by omega, by go_num, below_drewN hbw _⟩
          case measure => simp [intOf]; omega
        · have t1 : (ns1[k] != 0) = true := by simp [hz]
          have t2 : (ns1[k] != ns2[k]) = false := by
            rcases hat with h | h
            · exact absurd h hz
            · simp [h]
          clear hat
          go_wp2_with fail
          go_quiet (fail)
          go_wp2_with fail
          go_roundw
          case rel => exact ⟨k + 1, by omega, by go_num, below_drewN hbw _⟩
          case measure => simp [intOf]; omega
      · go_wp2_with fail
        refine (depth_nil _).mono ?_
        rintro e w11 ⟨rfl, rfl⟩
        go_wp2_with fail
        refine (busy_nil _).mono ?_
        rintro e w12 ⟨rfl, rfl⟩
        go_wp2_with fail
        refine (most_nil _).mono ?_
        rintro e w13 ⟨rfl, rfl⟩
        go_wp2_with fail
        refine (lends_any _).mono ?_
        rintro e w14 ⟨rfl, hb14⟩
        go_wp2_with fail
        go_ret
        exact ⟨rfl, HBEL9.out.trans ((below_chain hbw hb14).mono HBEL9.out.size)⟩

end Go.Proofs.Ytopmcjpnfnfjiaa
