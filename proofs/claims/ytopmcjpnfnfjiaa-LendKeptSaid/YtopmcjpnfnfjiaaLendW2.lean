/-
  The walk of the law LendBack: it answers true. No condition.
-/
import Derived.Test.YtopmcjpnfnfjiaaLendW
namespace Go.Lendp
theorem doL_one {nb : Bool} {d : Nat} {s : Stp} : doL nb d 1 [s] = doS nb d 1 s := by
  rcases e : (doS nb d 1 s).2.2 with _ | c
  · rw [doL_on (by omega) e, doL]
    simp only [List.append_nil, Nat.max_zero]
    rw [← e]
  · rw [doL_fail (by omega) e, ← e]
theorem doL_lend {l : List Stp} : (doL false 0 1 [.mk 2 0 l]).1 = (doL false 1 2 l).1 ∧ (doL false 0 1 [.mk 2 0 l]).2.2 = (doL false 1 2 l).2.2 := by
  rw [doL_one, doS_2]
  exact ⟨rfl, rfl⟩
end Go.Lendp
namespace Go.Proofs.Ytopmcjpnfnfjiaa
open Go.RowKit Go.Colm Go.Lendp
set_option linter.unusedVariables false

/-- One step in a block of its own, with steps within that given has made. -/
theorem one_step {B : Nat} {w : World} {A : Option Addr} {c' : Nat} {k c : Int} {l : List Stp} (hs : StpsAt (fun k => B ≤ k) w A 0 l) (hB : B ≤ w.heap.size) :
    StpsAt (fun k => B ≤ k) (w.alloc (.cells #[.int .i64 k, .int .i64 c, .slice A l.length c'] 42)) (some ⟨w.heap.size, 0, none⟩) 0 [.mk k c l] := by
  have h := Whole.new w 42 #[.int .i64 k, .int .i64 c, .slice A l.length c']
  have kk : Kept (fun _ => False) w (w.alloc (.cells #[.int .i64 k, .int .i64 c, .slice A l.length c'] 42)) := (Kept.refl _ _).alloc _
  exact stpsAt_cons.2 ⟨⟨_, 0, rfl, hB, stpAt_mk.2 ⟨h.cell 0, h.cell 1, A, c', h.cell 2, hs.kept kk fun _ _ => id⟩⟩, stpsAt_nil⟩

theorem not_lendS {b k : Nat} (h : b ≠ k) : ¬ lendS (some b) k := fun e => h (by simpa [lendS] using e)

/-- Ahead of the plays: few steps, not deep; else the example. -/
theorem deep_few {l : List Stp} (h : dpL l ≤ dF 70 l) (h2 : ¬ 48 < dF 70 l) : dpL l ≤ 48 := by omega

set_option maxRecDepth 100000 in
set_option maxHeartbeats 4000000 in
theorem lendBack_walk (A : Option Addr) (l : List Stp) (cp : Nat) (hlc : l.length ≤ cp) (hcm : cp ≤ maxLen) (hlim : Lim l) (w : World) (hs : StpsAt (fun _ => True) w A 0 l) :
    Calls Try.prog 4 #[.slice A l.length cp] w fun e w' => e = .returned (.bool true) ∧ Below w.heap.size w w' := by
  have HF := Lib.hid fun x => few_any (A := A) (cp := cp) x w hs hlim
  have HD := Lib.hid (deep_any 70 (by omega) l (fun _ => True) A cp w hs)
  have HS := Lib.hid hs
  clear hs hlim hlc hcm
  go_enter Try.func4, Try.ntmps4
  go_wp2_with fail
  refine (HF.out _).mono ?_
  rintro e w1 ⟨q, rfl, hq, rfl⟩
  rcases q with _ | _
  · clear hq
    go_wp2_with fail
    refine (lends_any _).mono ?_
    rintro e w2 ⟨rfl, hb2⟩
    go_wp2_with fail
    go_ret
    exact ⟨rfl, hb2⟩
  · obtain ⟨hcnt, hdp, _⟩ := hq rfl
    clear hq HF
    by_cases h48 : 48 < dF 70 l
    · go_wp2_with fail
      refine HD.out.mono ?_
      rintro e w2 ⟨rfl, rfl⟩
      go_wp2_with fail
      refine (lends_any _).mono ?_
      rintro e w2 ⟨rfl, hb2⟩
      go_wp2_with fail
      go_ret
      exact ⟨rfl, hb2⟩
    · have hd48 := deep_few hdp h48
      clear hdp
      go_wp2_with fail
      refine HD.out.mono ?_
      rintro e w2' ⟨rfl, rfl⟩
      clear HD
      go_wp2_with fail
      clear h48
      refine (new_any _).mono ?_
      rintro e w2 ⟨b, rfl, hb, hb2, hbk2⟩
      have hlt2 := (hbk2 b rfl).lt
      have HBK2 := Lib.hid hbk2
      have HB2 := Lib.hid hb2
      clear hbk2 hb2
      rw [hb]
      rw [hb] at hlt2 HBK2
      clear hb b
      go_wp2_with fail
      refine (given_pack HS.out (Kept.below HB2.out _) (by omega)).mono ?_
      rintro e w3 ⟨A3, c3, rfl, hs3, hb3⟩
      have hsz3 := hb3.size
      obtain ⟨r, hr⟩ : ∃ r, r = doL false 0 1 l := ⟨_, rfl⟩
      have hnr : r.1.length ≤ 200 := by
        have := doL_len false 0 1 l
        rw [← hr] at this
        omega
      have hplays : ∀ (B m c' : Nat) (A' : Option Addr) (w' : World), Book (some w2'.heap.size) w' 0 m → w2'.heap.size < B → StpsAt (fun k => B ≤ k) w' A' 0 l →
          Calls Try.prog 11 #[bptr (some w2'.heap.size), .slice A' l.length c'] w' fun e w'' => ∃ A3 c3, e = .returned (.agg #[.slice A3 r.1.length c3, .int .i64 (r.2.2.getD 0), .bool r.2.2.isSome]) ∧ Played (some w2'.heap.size) 0 m r w' A3 w'' := by
        intro B m c' A' w' h1 h2 h3
        rw [hr]
        exact play_pack (d := 0) h1 (fun b' e => by cases e; exact h2) h3 (by omega) (by omega)
      have hin : ∀ (B m c' : Nat) (A' : Option Addr) (w' : World), Book (some w2'.heap.size) w' 0 m → w2'.heap.size < B → StpsAt (fun k => B ≤ k) w' A' 0 [.mk 2 0 l] →
          Calls Try.prog 11 #[bptr (some w2'.heap.size), .slice A' 1 c'] w' fun e w'' => ∃ A3 c3 M3, e = .returned (.agg #[.slice A3 r.1.length c3, .int .i64 (r.2.2.getD 0), .bool r.2.2.isSome]) ∧ Book (some w2'.heap.size) w'' 0 M3 ∧ Kept (lendS (some w2'.heap.size)) w' w'' := by
        intro B m c' A' w' h1 h2 h3
        have hsh := doL_shape false false 0 1 1 2 l (by omega) (by omega)
        rw [← hr] at hsh
        refine (play_pack (d := 0) (c' := c') h1 (fun b' e => by cases e; exact h2) h3 (by
          rw [cntL, cntS, cntL]
          omega) (by omega)).mono ?_
        rintro e w'' ⟨A3, c3, rfl, h4⟩
        refine ⟨A3, c3, _, ?_, h4.2.2.1, h4.2.2.2⟩
        rw [show (some w2'.heap.size).isNone = false from rfl, doL_lend.1, doL_lend.2, ← hsh.1, ← hsh.2]
      clear hr
      obtain ⟨ns, M, o⟩ := r
      simp only at hplays hin hnr
      obtain ⟨co, hco⟩ : ∃ x, x = o.getD 0 := ⟨_, rfl⟩
      obtain ⟨eo, heo⟩ : ∃ x, x = o.isSome := ⟨_, rfl⟩
      simp only [← hco, ← heo] at hplays hin
      clear hco heo
      have HPL := Lib.hid hplays
      have HIN := Lib.hid hin
      have hbel3 := below_chain HB2.out (hb3.mono (by omega))
      have HB3 := Lib.hid hbel3
      have HBK3 := Lib.hid (HBK2.out.kept (Kept.below hb3 (fun _ => False)) fun _ _ => id)
      have HS3 := Lib.hid hs3
      clear hplays hin hs3 hb3 hbel3 HBK2
      go_wp2_with fail
      refine (HPL.out _ _ _ _ _ HBK3.out hlt2 HS3.out).mono ?_
      rintro e w4 ⟨A4, c4, rfl, hr4, ha4, hb4, hk4⟩
      obtain ⟨m4, hm4⟩ : ∃ x, x = max 0 M := ⟨_, rfl⟩
      simp only [← hm4] at hb4
      clear hm4
      have hsz4 := hk4.size
      have hbel4 : Below w2'.heap.size w2' w4 := HB3.out.trans (hk4.to_below (by omega) fun k hk e => by
        cases e
        omega)
      obtain ⟨w5, hw5⟩ : ∃ w5, w5 = w4.alloc (.cells #[.slice A4 ns.length c4, .int .i64 co, .bool eo] 30) := ⟨_, rfl⟩
      have k5 : Kept (fun _ => False) w4 w5 := hw5 ▸ (Kept.refl _ _).alloc _
      have g5 : Whole w5 w4.heap.size 30 #[.slice A4 ns.length c4, .int .i64 co, .bool eo] := by
        rw [hw5]
        exact Whole.new w4 _ _
      have hsz5 : w5.heap.size = w4.heap.size + 1 := by
        rw [hw5]
        simp
      have hbel5 : Below w2'.heap.size w2' w5 := hbel4.trans (k5.to_below (by omega) fun _ _ => id)
      have hb5 := hb4.kept k5 fun _ _ => id
      have hr5 : RowV w5 A4 (intsV ns) := hr4.kept k5 fun _ _ => id
      have HBEL5 := Lib.hid hbel5
      have HG5 := Lib.hid g5
      have HB5 := Lib.hid hb5
      have HR5 := Lib.hid hr5
      have HA4 := Lib.hid ha4
      clear hr4 ha4 hb4 hk4 hbel4 k5 g5 hbel5 hb5 hr5 HB2 HS3 HBK3 HB3
      go_wp2_with fail
      rw [← hw5]
      clear hw5
      refine (given_pack (w1 := w5) HS.out (Kept.below HBEL5.out _) (by omega)).mono ?_
      rintro e w6 ⟨A6, c6, rfl, hs6, hb6⟩
      have k6 : Kept (fun _ => False) w5 w6 := Kept.below hb6 _
      have hsz6 := hb6.size
      have HS6 := Lib.hid hs6
      have HB6 := Lib.hid (HB5.out.kept k6 fun _ _ => id)
      have HG6 := Lib.hid (k6.whole HG5.out id)
      have HR6 := Lib.hid (HR5.out.kept k6 fun _ _ => id)
      have HBEL6 := Lib.hid (HBEL5.out.trans (k6.to_below (by omega) fun _ _ => id))
      clear hs6 hb6 k6 HBEL5 HG5 HB5 HR5
      go_wp2_with fail
      refine (HPL.out _ _ _ _ _ HB6.out (by omega) HS6.out).mono ?_
      rintro e w7 ⟨A7, c7, rfl, hr7, ha7, hb7, hk7⟩
      obtain ⟨m7, hm7⟩ : ∃ x, x = max m4 M := ⟨_, rfl⟩
      simp only [← hm7] at hb7
      clear hm7
      have hsz7 := hk7.size
      have hbel7 : Below w2'.heap.size w2' w7 := HBEL6.out.trans (hk7.to_below (by omega) fun k hk e => by
        cases e
        omega)
      have hg7 := hk7.whole HG6.out (not_lendS (by omega))
      have hr47 := HR6.out.kept hk7 fun a ha e => by
        have := (HA4.out a ha).1
        exact not_lendS (by omega) e
      obtain ⟨w8, hw8⟩ : ∃ w8, w8 = w7.alloc (.cells #[.slice A7 ns.length c7, .int .i64 co, .bool eo] 30) := ⟨_, rfl⟩
      have k8 : Kept (fun _ => False) w7 w8 := hw8 ▸ (Kept.refl _ _).alloc _
      have g8 : Whole w8 w7.heap.size 30 #[.slice A7 ns.length c7, .int .i64 co, .bool eo] := by
        rw [hw8]
        exact Whole.new w7 _ _
      have hsz8 : w8.heap.size = w7.heap.size + 1 := by
        rw [hw8]
        simp
      have g85 := k8.whole hg7 id
      have b8 := (hb7.kept k8 fun _ _ => id) _ rfl
      have hsame := same_any ns ns A4 A7 c4 c7 w8 (hr47.kept k8 fun _ _ => id) (hr7.kept k8 fun _ _ => id) (by omega) (by omega)
      rw [show (ns == ns) = true by simp] at hsame
      have p0 : w8.cell? ⟨w4.heap.size, 0, none⟩ = some (.slice A4 ns.length c4) := g85.cell 0
      have p1 : w8.cell? ⟨w4.heap.size, 1, none⟩ = some (.int .i64 co) := g85.cell 1
      have p2 : w8.cell? ⟨w4.heap.size, 2, none⟩ = some (.bool eo) := g85.cell 2
      have q0 : w8.cell? ⟨w7.heap.size, 0, none⟩ = some (.slice A7 ns.length c7) := g8.cell 0
      have HBEL8 := Lib.hid (hbel7.trans (k8.to_below (by omega) fun _ _ => id))
      have HSAME := Lib.hid hsame
      have HG85 := Lib.hid g85
      have HG8 := Lib.hid g8
      have HB8 := Lib.hid b8
      clear hr7 ha7 hb7 hk7 hbel7 hg7 hr47 k8 g8 g85 b8 hsame HBEL6 HG6 HB6 HR6 HS6 HA4
      go_wp2_with fail
      rw [← hw8]
      clear hw8
      refine (depth_some w2'.heap.size 0 m7 w8 HB8.out).mono ?_
      rintro e w8' ⟨rfl, rfl⟩
      go_wp2_with fail
      refine (busy_some w2'.heap.size 0 m7 _ HB8.out).mono ?_
      rintro e w8'' ⟨rfl, rfl⟩
      go_wp2_with fail
      refine HSAME.out.mono ?_
      rintro e w9 ⟨rfl, hb9⟩
      have k9 : Kept (fun _ => False) w8'' w9 := Kept.below hb9 _
      have g9 := k9.whole HG85.out id
      have g9' := k9.whole HG8.out id
      have p1' : w9.cell? ⟨w4.heap.size, 1, none⟩ = some (.int .i64 co) := g9.cell 1
      have p2' : w9.cell? ⟨w4.heap.size, 2, none⟩ = some (.bool eo) := g9.cell 2
      have q1' : w9.cell? ⟨w7.heap.size, 1, none⟩ = some (.int .i64 co) := g9'.cell 1
      have q2' : w9.cell? ⟨w7.heap.size, 2, none⟩ = some (.bool eo) := g9'.cell 2
      have hsz9 := hb9.size
      have HB9 := Lib.hid (Book.of (k9.whole HB8.out id))
      have HG9 := Lib.hid g9
      have HBEL9 := Lib.hid (HBEL8.out.trans (k9.to_below (by
        have := HBEL8.out.size
        omega) fun _ _ => id))
      clear k9 g9 g9' hb9 HSAME HG85 HG8 HB8 HBEL8 p0 p1 p2 q0
      go_wp2_with fail
      refine (given_pack (w1 := w9) HS.out (Kept.below HBEL9.out _) (by omega)).mono ?_
      rintro e w10 ⟨A10, c10, rfl, hs10, hb10⟩
      have k10 : Kept (fun _ => False) w9 w10 := Kept.below hb10 _
      have hsz10 := hb10.size
      have hst11 := one_step (k := 2) (c := 0) (c' := c10) hs10 hsz10
      have k11 : Kept (fun _ => False) w10 (w10.alloc (.cells #[.int .i64 2, .int .i64 0, .slice A10 l.length c10] 42)) := (Kept.refl _ _).alloc _
      have hpl := HIN.out w9.heap.size m7 1 _ _ ((HB9.out.kept k10 fun _ _ => id).kept k11 fun _ _ => id) (by
        have := HBEL9.out.size
        omega) hst11
      have HPL3 := Lib.hid hpl
      have HK := Lib.hid (k10.trans k11)
      clear hst11 hpl hs10 hb10 k10 k11 p1' p2' q1' q2'
      go_wp2_with fail
      refine HPL3.out.mono ?_
      rintro e w12 ⟨A12, c12, M12, rfl, hb12, hk12⟩
      have k13 : Kept (fun _ => False) w12 (w12.alloc (.cells #[.slice A12 ns.length c12, .int .i64 co, .bool eo] 30)) := (Kept.refl _ _).alloc _
      have g12 := hk12.whole (HK.out.whole HG9.out id) (not_lendS (by omega))
      have g13 := k13.whole g12 id
      have n13 := Whole.new w12 30 #[.slice A12 ns.length c12, .int .i64 co, .bool eo]
      have hbel12 : Below w2'.heap.size w2' w12 := (HBEL9.out.trans (HK.out.to_below (by
        have := HBEL9.out.size
        omega) fun _ _ => id)).trans (hk12.to_below (by
        have := HBEL9.out.size
        have := HK.out.size
        omega) fun k hk => not_lendS (by omega))
      have hbel13 : Below w2'.heap.size w2' (w12.alloc (.cells #[.slice A12 ns.length c12, .int .i64 co, .bool eo] 30)) := hbel12.trans (k13.to_below (by
        have := hbel12.size
        omega) fun _ _ => id)
      have r0 : (w12.alloc (.cells #[.slice A12 ns.length c12, .int .i64 co, .bool eo] 30)).cell? ⟨w4.heap.size, 0, none⟩ = some (.slice A4 ns.length c4) := g13.cell 0
      have r1 : (w12.alloc (.cells #[.slice A12 ns.length c12, .int .i64 co, .bool eo] 30)).cell? ⟨w4.heap.size, 1, none⟩ = some (.int .i64 co) := g13.cell 1
      have r2 : (w12.alloc (.cells #[.slice A12 ns.length c12, .int .i64 co, .bool eo] 30)).cell? ⟨w4.heap.size, 2, none⟩ = some (.bool eo) := g13.cell 2
      have HB13 := Lib.hid ((hb12.kept k13 fun _ _ => id) _ rfl)
      have HBEL13 := Lib.hid hbel13
      clear hbel12 hbel13 g12 g13 n13 k13 hk12 hb12 HPL3 HK HB9 HG9 HBEL9
      go_wp2_with fail
      refine (depth_some w2'.heap.size 0 M12 _ HB13.out).mono ?_
      rintro e w14 ⟨rfl, hw14⟩
      subst hw14
      go_wp2_with fail
      refine (lends_any _).mono ?_
      rintro e w15 ⟨rfl, hb15⟩
      go_wp2_with fail
      go_ret
      exact ⟨rfl, below_chain HBEL13.out hb15⟩

end Go.Proofs.Ytopmcjpnfnfjiaa
