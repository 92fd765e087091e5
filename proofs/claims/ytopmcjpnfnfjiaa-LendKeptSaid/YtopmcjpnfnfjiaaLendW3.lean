/-
  The walk of the law LendKept: it answers true. No condition.
-/
import Derived.Test.YtopmcjpnfnfjiaaLendW2
import Derived.Deep.RegionHeld3
import Derived.Laws.AppendOwnNone
namespace Go.Lendp
theorem doL_keep {l : List Stp} : (doL false 0 1 [.mk 4 0 l, .mk 1 0 []]).1 = ((doL false 1 2 l).1 ++ (doL false 1 2 l).2.2.toList) ++ [0] ∧ (doL false 0 1 [.mk 4 0 l, .mk 1 0 []]).2.2 = none := by
  have e : (doS false 0 1 (.mk 4 0 l)).2.2 = none := by rw [doS_4]
  rw [doL_on (by omega) e, doL_one, doS_4, doS_1]
  exact ⟨rfl, rfl⟩
end Go.Lendp
namespace Go.Proofs.Ytopmcjpnfnfjiaa
open Go.RowKit Go.Colm Go.Lendp
set_option linter.unusedVariables false

theorem play_pack0 {b d m c' : Nat} {l : List Stp} {A' : Option Addr} {B : Nat} {w2 : World} (hb : Book (some b) w2 d m) (hbl : b < B) (hs : StpsAt (fun k => B ≤ k) w2 A' 0 l) (hc : cntL l < 1000) (hd : d ≤ 1) :
    Calls Try.prog 11 #[bptr (some b), .slice A' l.length c'] w2 fun e w' => ∃ A3 c3, e = .returned (.agg #[.slice A3 (doL false d 1 l).1.length c3, .int .i64 ((doL false d 1 l).2.2.getD 0), .bool (doL false d 1 l).2.2.isSome]) ∧
      RowV w' A3 (intsV (doL false d 1 l).1) ∧ (A3 = none → c3 = 0 ∧ (doL false d 1 l).1 = []) ∧ (∀ a, A3 = some a → w2.heap.size ≤ a.block ∧ a.block < w'.heap.size) ∧ Kept (lendS (some b)) w2 w' := by
  refine (play_any (N := fun k => B ≤ k ∧ k < w2.heap.size) (some b) d m A' c' l w2 hb (hs.imp fun k h1 h2 => ⟨h1, h2⟩) (fun k hk => ⟨hk.2, fun e => by
    cases e
    omega⟩) (by omega) hd).mono ?_
  rintro e w' ⟨v', rfl, hrow, hbk, hk⟩
  obtain ⟨A, c, rfl, hr, ha⟩ := own_row2 hrow
  refine ⟨A, c, rfl, hr, ?_, ha, hk⟩
  rintro rfl
  rcases hrow.2 with ⟨h0, h1⟩ | ⟨g, cap, cur, hv, _⟩
  · simp only [Value.slice.injEq, true_and] at h0
    exact ⟨h0.2, List.eq_nil_of_length_eq_zero h1⟩
  · simp at hv
theorem news_of_row {w : World} {a : Addr} {vs : List Value} (h : RowV w (some a) vs) : ∀ j u, vs[j]? = some u → w.cell? (a.add j) = some u := fun j u hu => by
  obtain ⟨b, off, e, hc⟩ := h j u hu
  cases e
  rw [Addr.add_lit]
  exact hc
theorem ints_one (l : List Int) : ∀ u ∈ intsV l, u.oneCell' = true := by
  intro u hu
  obtain ⟨n, _, rfl⟩ := List.mem_map.1 hu
  rfl
theorem one_int (n : Int) : ∀ u ∈ [Value.int .i64 n], u.oneCell' = true := by
  intro u hu
  simp at hu
  subst hu
  rfl
theorem own_empty (w : World) (t : TypeId) (base : Nat) (hb : base ≤ w.heap.size) : (w.alloc (.cells #[] t)).ownsRow base t 1 (.slice (some ⟨w.heap.size, 0, none⟩) 0 0) 0 [] :=
  ⟨rfl, .inr ⟨w.heap.size, 0, #[], rfl, hb, Whole.new w t #[], Nat.le_refl _, by unfold maxLen; omega, rfl, rfl⟩⟩

theorem same_fin {w9 w3 : World} {A4 : Option Addr} {c4 base g cap : Nat} {sl wl : List Int} (hr : RowV w9 A4 (intsV sl)) (hsl : sl = wl ++ [0]) (hl : wl.length ≤ 300) (hb : Below w9.heap.size w9 w3)
    (hown : w3.ownsRow base 3 1 (.slice (some ⟨g, 0, none⟩) (wl.length + 1) cap) (wl.length + 1) (intsV wl ++ [.int .i64 0])) :
    Calls Try.prog 14 #[.slice A4 sl.length c4, .slice (some ⟨g, 0, none⟩) (wl.length + 1) cap] w3 fun e w' => e = .returned (.bool true) ∧ Below w9.heap.size w9 w' := by
  obtain ⟨A, c, e1, hr2⟩ := own_row hown
  simp only [Value.slice.injEq, true_and] at e1
  obtain ⟨rfl, rfl⟩ := e1
  rw [← intsV_snoc, ← hsl] at hr2
  have h := same_any sl sl A4 (some ⟨g, 0, none⟩) c4 cap w3 (hr.below hb) hr2 (by rw [hsl]; simp; omega) (by rw [hsl]; simp; omega)
  rw [show (sl == sl) = true by simp] at h
  have hlen : sl.length = wl.length + 1 := by rw [hsl]; simp
  rw [show Value.slice (some ⟨g, 0, none⟩) sl.length cap = Value.slice (some ⟨g, 0, none⟩) (wl.length + 1) cap by rw [hlen]] at h
  exact h.mono fun e w' ⟨h1, h2⟩ => ⟨h1, below_chain hb h2⟩

/-- Two steps in a block of their own, with steps within the first that given has made. -/
theorem two_steps {B : Nat} {w : World} {A : Option Addr} {c' : Nat} {k c k2 c2 : Int} {l : List Stp} (hs : StpsAt (fun k => B ≤ k) w A 0 l) (hB : B ≤ w.heap.size) :
    StpsAt (fun k => B ≤ k) (w.alloc (.cells #[.int .i64 k, .int .i64 c, .slice A l.length c', .int .i64 k2, .int .i64 c2, .slice none 0 0] 42)) (some ⟨w.heap.size, 0, none⟩) 0 [.mk k c l, .mk k2 c2 []] := by
  have h := Whole.new w 42 #[.int .i64 k, .int .i64 c, .slice A l.length c', .int .i64 k2, .int .i64 c2, .slice none 0 0]
  have kk : Kept (fun _ => False) w (w.alloc (.cells #[.int .i64 k, .int .i64 c, .slice A l.length c', .int .i64 k2, .int .i64 c2, .slice none 0 0] 42)) := (Kept.refl _ _).alloc _
  exact stpsAt_cons.2 ⟨⟨_, 0, rfl, hB, stpAt_mk.2 ⟨h.cell 0, h.cell 1, A, c', h.cell 2, hs.kept kk fun _ _ => id⟩⟩, stpsAt_cons.2 ⟨⟨_, 0, rfl, hB, stpAt_mk.2 ⟨h.cell 3, h.cell 4, none, 0, h.cell 5, stpsAt_nil⟩⟩, stpsAt_nil⟩⟩

set_option maxRecDepth 100000 in
set_option maxHeartbeats 4000000 in
theorem lendKept_walk (A : Option Addr) (l : List Stp) (cp : Nat) (hlc : l.length ≤ cp) (hcm : cp ≤ maxLen) (hlim : Lim l) (w : World) (hs : StpsAt (fun _ => True) w A 0 l) :
    Calls Try.prog 5 #[.slice A l.length cp] w fun e w' => e = .returned (.bool true) ∧ Below w.heap.size w w' := by
  have HF := Lib.hid fun x => few_any (A := A) (cp := cp) x w hs hlim
  have HD := Lib.hid (deep_any 70 (by omega) l (fun _ => True) A cp w hs)
  have HS := Lib.hid hs
  clear hs hlim hlc hcm
  go_enter Try.func5, Try.ntmps5
  go_wp2_with fail
  refine (HF.out _).mono ?_
  rintro e w1 ⟨q, rfl, hq, rfl⟩
  rcases q with _ | _
  · clear hq
    go_wp2_with fail
    refine (lends_any _).mono ?_
    rintro e w2 ⟨rfl, hb2⟩
    go_wp2_with fail
    go_ret
    exact ⟨rfl, hb2⟩
  · obtain ⟨hcnt, hdp, _⟩ := hq rfl
    clear hq HF
    by_cases h48 : 48 < dF 70 l
    · go_wp2_with fail
      refine HD.out.mono ?_
      rintro e w2 ⟨rfl, rfl⟩
      go_wp2_with fail
      refine (lends_any _).mono ?_
      rintro e w2 ⟨rfl, hb2⟩
      go_wp2_with fail
      go_ret
      exact ⟨rfl, hb2⟩
    · have hd48 := deep_few hdp h48
      clear hdp
      go_wp2_with fail
      refine HD.out.mono ?_
      rintro e w2' ⟨rfl, rfl⟩
      clear HD
      go_wp2_with fail
      clear h48
      refine (new_any _).mono ?_
      rintro e w2 ⟨b, rfl, hb, hb2, hbk2⟩
      have hlt2 := (hbk2 b rfl).lt
      have HBK2 := Lib.hid hbk2
      have HB2 := Lib.hid hb2
      clear hbk2 hb2
      rw [hb]
      rw [hb] at hlt2 HBK2
      clear hb b
      go_wp2_with fail
      refine (given_pack HS.out (Kept.below HB2.out _) (by omega)).mono ?_
      rintro e w3 ⟨A3, c3, rfl, hs3, hb3⟩
      have hsz3 := hb3.size
      obtain ⟨r, hr⟩ : ∃ r, r = doL false 1 2 l := ⟨_, rfl⟩
      have hnr : r.1.length + r.2.2.toList.length ≤ 200 := by
        have := doL_len false 1 2 l
        rw [← hr] at this
        omega
      have hkeep : ∀ (B c' : Nat) (A' : Option Addr) (w' : World), Book (some w2'.heap.size) w' 0 0 → w2'.heap.size < B → StpsAt (fun k => B ≤ k) w' A' 0 [.mk 4 0 l, .mk 1 0 []] →
          Calls Try.prog 11 #[bptr (some w2'.heap.size), .slice A' 2 c'] w' fun e w'' => ∃ A3 c3 M3 sl, sl = (r.1 ++ r.2.2.toList) ++ [0] ∧ e = .returned (.agg #[.slice A3 sl.length c3, .int .i64 0, .bool false]) ∧ RowV w'' A3 (intsV sl) ∧ (∀ a, A3 = some a → w'.heap.size ≤ a.block ∧ a.block < w''.heap.size) ∧ Book (some w2'.heap.size) w'' 0 M3 ∧ Kept (lendS (some w2'.heap.size)) w' w'' := by
        intro B c' A' w' h1 h2 h3
        refine (play_pack (d := 0) (c' := c') h1 (fun b' e => by cases e; exact h2) h3 (by
          rw [cntL, cntL, cntS, cntS, cntL]
          omega) (by omega)).mono ?_
        rintro e w'' ⟨A3, c3, rfl, h4⟩
        rw [show (some w2'.heap.size).isNone = false from rfl] at h4 ⊢
        have h5 := h4.1
        rw [doL_keep.1, ← hr] at h5
        refine ⟨A3, c3, _, _, rfl, ?_, h5, h4.2.1, h4.2.2.1, h4.2.2.2⟩
        rw [doL_keep.1, doL_keep.2, ← hr]
        rfl
      have halone : ∀ (b B c' : Nat) (A' : Option Addr) (w' : World), Book (some b) w' 0 0 → b < B → StpsAt (fun k => B ≤ k) w' A' 0 [.mk 2 0 l] →
          Calls Try.prog 11 #[bptr (some b), .slice A' 1 c'] w' fun e w'' => ∃ A3 c3, e = .returned (.agg #[.slice A3 r.1.length c3, .int .i64 (r.2.2.getD 0), .bool r.2.2.isSome]) ∧ RowV w'' A3 (intsV r.1) ∧ (A3 = none → c3 = 0 ∧ r.1 = []) ∧ (∀ a, A3 = some a → w'.heap.size ≤ a.block ∧ a.block < w''.heap.size) ∧ Kept (lendS (some b)) w' w'' := by
        intro b B c' A' w' h1 h2 h3
        refine (play_pack0 (d := 0) (c' := c') h1 h2 h3 (by
          rw [cntL, cntS, cntL]
          omega) (by omega)).mono ?_
        rintro e w'' ⟨A3, c3, rfl, h4, h5, h6, h7⟩
        rw [doL_lend.1, ← hr] at h4 h5
        refine ⟨A3, c3, ?_, h4, h5, h6, h7⟩
        rw [doL_lend.1, doL_lend.2, ← hr]
      clear hr
      obtain ⟨ns, M, o⟩ := r
      simp only at hkeep halone hnr
      have HKP := Lib.hid hkeep
      have HAL := Lib.hid halone
      have hst3 := two_steps (k := 4) (c := 0) (c' := c3) (k2 := 1) (c2 := 0) hs3 hsz3
      have k3 : Kept (fun _ => False) w2 w3 := Kept.below hb3 _
      have k3a : Kept (fun _ => False) w3 (w3.alloc (.cells #[.int .i64 4, .int .i64 0, .slice A3 l.length c3, .int .i64 1, .int .i64 0, .slice none 0 0] 42)) := (Kept.refl _ _).alloc _
      have hpl := hkeep _ 2 _ _ ((HBK2.out.kept k3 fun _ _ => id).kept k3a fun _ _ => id) hlt2 hst3
      have HPL := Lib.hid hpl
      have HBEL3 := Lib.hid (HB2.out.trans ((k3.trans k3a).to_below (B := w2'.heap.size) (by omega) fun _ _ => id))
      have hsz3a := (k3.trans k3a).size
      clear hkeep halone hst3 hpl hs3 hb3 k3 k3a HBK2 HB2
      go_wp2_with fail
      refine HPL.out.mono ?_
      rintro e w4 ⟨A4, c4, M4, sl, hsl, rfl, hr4, ha4, hb4, hk4⟩
      have hsz4 := hk4.size
      have hbel4 : Below w2'.heap.size w2' w4 := HBEL3.out.trans (hk4.to_below (by omega) fun k hk => not_lendS (by omega))
      have HSL := Lib.hid hsl
      clear hsl
      obtain ⟨w5, hw5⟩ : ∃ w5, w5 = w4.alloc (.cells #[.slice A4 sl.length c4, .int .i64 0, .bool false] 30) := ⟨_, rfl⟩
      have k5 : Kept (fun _ => False) w4 w5 := hw5 ▸ (Kept.refl _ _).alloc _
      have g5 : Whole w5 w4.heap.size 30 #[.slice A4 sl.length c4, .int .i64 0, .bool false] := by
        rw [hw5]
        exact Whole.new w4 _ _
      have hsz5 : w5.heap.size = w4.heap.size + 1 := by
        rw [hw5]
        simp
      have hbel5 : Below w2'.heap.size w2' w5 := hbel4.trans (k5.to_below (by omega) fun _ _ => id)
      have HBEL5 := Lib.hid hbel5
      have HG5 := Lib.hid g5
      have HB5 := Lib.hid ((hb4.kept k5 fun _ _ => id) _ rfl)
      have HR5 := Lib.hid (hr4.kept k5 fun _ _ => id)
      have HA4 := Lib.hid ha4
      clear hr4 ha4 hb4 hk4 hbel4 k5 g5 hbel5 HPL HBEL3 hsz3a
      go_wp2_with fail
      rw [← hw5]
      clear hw5
      refine (new_any w5).mono ?_
      rintro e w6 ⟨b6, rfl, hb6, hbl6, hbk6⟩
      have hlt6 := (hbk6 b6 rfl).lt
      have hsz6 := hbl6.size
      have HBK6 := Lib.hid hbk6
      have HBL6 := Lib.hid hbl6
      have hb6' : w5.heap.size ≤ b6 := by omega
      clear hbk6 hbl6 hb6
      go_wp2_with fail
      refine (given_pack (w1 := w6) HS.out (Kept.below (HBEL5.out.trans (HBL6.out.mono (by
        have := HBEL5.out.size
        omega))) _) (by omega)).mono ?_
      rintro e w7 ⟨A7, c7, rfl, hs7, hb7⟩
      have hst7 := one_step (k := 2) (c := 0) (c' := c7) hs7 hb7.size
      have k7 : Kept (fun _ => False) w6 w7 := Kept.below hb7 _
      have k7a : Kept (fun _ => False) w7 (w7.alloc (.cells #[.int .i64 2, .int .i64 0, .slice A7 l.length c7] 42)) := (Kept.refl _ _).alloc _
      have hpl := HAL.out b6 _ 1 _ _ ((HBK6.out.kept k7 fun _ _ => id).kept k7a fun _ _ => id) hlt6 hst7
      have HPL := Lib.hid hpl
      have HK7 := Lib.hid (((Kept.below HBL6.out (fun _ => False)).trans k7).trans k7a)
      clear hst7 hpl hs7 hb7 k7 k7a HBK6 HBL6
      go_wp2_with fail
      refine HPL.out.mono ?_
      rintro e w8 ⟨A8, c8, rfl, hr8, hz8, ha8, hk8⟩
      have hsz7 := HK7.out.size
      have hsz8 := hk8.size
      have HK58 : Hid (Kept (fun k => k = b6) w5 w8) := Lib.hid ((HK7.out.mono fun _ _ h => h.elim).trans (hk8.mono fun k _ h => by
        have h' : b6 = k := by simpa [lendS] using h
        exact h'.symm))
      have g8 := HK58.out.whole HG5.out (by omega)
      have r8 := HR5.out.kept HK58.out fun a ha e => by
        have := (HA4.out a ha).2
        omega
      have hb5l := HB5.out.lt
      have bk8 := HK58.out.whole HB5.out (by omega)
      have hbel8 : Below w2'.heap.size w2' w8 := HBEL5.out.trans (HK58.out.to_below (B := w2'.heap.size) (by
        have := HBEL5.out.size
        omega) fun k hk (e : k = b6) => by
        have := HBEL5.out.size
        omega)
      obtain ⟨co, hco⟩ : ∃ x, x = o.getD 0 := ⟨_, rfl⟩
      obtain ⟨eo, heo⟩ : ∃ x, x = o.isSome := ⟨_, rfl⟩
      rw [← hco, ← heo]
      have HCO := Lib.hid hco
      have HEO := Lib.hid heo
      clear hco heo
      obtain ⟨w9, hw9⟩ : ∃ w9, w9 = w8.alloc (.cells #[.slice A8 ns.length c8, .int .i64 co, .bool eo] 30) := ⟨_, rfl⟩
      have k9 : Kept (fun _ => False) w8 w9 := hw9 ▸ (Kept.refl _ _).alloc _
      have g9n : Whole w9 w8.heap.size 30 #[.slice A8 ns.length c8, .int .i64 co, .bool eo] := by
        rw [hw9]
        exact Whole.new w8 _ _
      have hsz9 : w9.heap.size = w8.heap.size + 1 := by
        rw [hw9]
        simp
      have HBEL9 := Lib.hid (hbel8.trans (k9.to_below (by
        have := hbel8.size
        omega) fun _ _ => id))
      have HG9 := Lib.hid (k9.whole g8 id)
      have HR9 := Lib.hid (r8.kept k9 fun _ _ => id)
      have HB9 := Lib.hid (k9.whole bk8 id)
      have HG9N := Lib.hid g9n
      have HR9N := Lib.hid (hr8.kept k9 fun _ _ => id)
      have HA8 := Lib.hid ha8
      have HW9 := Lib.hid hw9
      have HSZ9 := Lib.hid hsz9
      clear hw9 hsz9
      clear g8 r8 bk8 hbel8 k9 g9n hr8 ha8 hk8 HK58 HPL HK7 HG5 HR5 HB5 HBEL5
      have hst : ∀ W, Below w9.heap.size w9 W → Below w9.heap.size w9 W ∧ W.cell? ⟨w4.heap.size, 0, none⟩ = some (.slice A4 sl.length c4) ∧ W.cell? ⟨w4.heap.size, 1, none⟩ = some (.int .i64 0) ∧ W.cell? ⟨w4.heap.size, 2, none⟩ = some (.bool false) := by
        intro W h
        have g := (Kept.below h (fun _ => False)).whole HG9.out id
        exact ⟨h, g.cell 0, g.cell 1, g.cell 2⟩
      have hdep : ∀ W, Below w9.heap.size w9 W → Calls Try.prog 16 #[bptr (some w2'.heap.size)] W fun e w' => e = .returned (.int .i64 0) ∧ w' = W := fun W h =>
        depth_some w2'.heap.size 0 M4 W ((Kept.below h (fun _ => False)).whole HB9.out id)
      have hle : ∀ W, Below w9.heap.size w9 W → Calls Try.prog 9 #[] W fun e w' => e = .returned (.bool true) ∧ Below w9.heap.size w9 w' := fun W h =>
        (lends_any W).mono fun e w' ⟨h1, h2⟩ => ⟨h1, below_chain h h2⟩
      have HST := Lib.hid hst
      have HDEP := Lib.hid hdep
      have HLE := Lib.hid hle
      have e1 : w9.cell? ⟨w8.heap.size, 1, none⟩ = some (.int .i64 co) := HG9N.out.cell 1
      have e2 : w9.cell? ⟨w8.heap.size, 2, none⟩ = some (.bool eo) := HG9N.out.cell 2
      clear hst hdep hle
      obtain ⟨i0, hi, hz0, hz1, hz2⟩ := info_parts int_info
      rcases A8 with _ | a8
      · obtain ⟨rfl, rfl⟩ := hz8 rfl
        obtain ⟨w10, hw10⟩ : ∃ w10, w10 = w9.alloc (.cells #[] 3) := ⟨_, rfl⟩
        have HOWN : Hid (w10.ownsRow w9.heap.size 3 1 (.slice (some ⟨w8.heap.size + 1, 0, none⟩) 0 0) 0 (intsV [])) := Lib.hid (by
          rw [hw10, ← HSZ9.out]
          exact own_empty w9 _ _ (Nat.le_refl _))
        have HX : Hid (Below w9.heap.size w9 w10) := Lib.hid (by
          rw [hw10]
          exact (Below.refl _ w9).alloc (Nat.le_refl _) _)
        have HSZ10 : Hid (w10.heap.size = w8.heap.size + 1 + 1) := Lib.hid (by
          rw [hw10, ← HSZ9.out]
          simp)
        have HW10 := Lib.hid hw10
        clear hw10
        rcases o with _ | cf
        · have hco : co = 0 := HCO.out
          have heo : eo = false := HEO.out
          subst hco heo
          have HSLW : Hid (sl = [] ++ [0]) := Lib.hid (by rw [HSL.out]; simp)
          have hwl : ([] : List Int).length ≤ 300 := by simp
          go_wp2_with fail
          simp only [List.length_nil] at HW9
          rw [← HW9.out, ← HW10.out]
          have HNEW : Hid (∀ j u, [Value.int .i64 0][j]? = some u → (w10.alloc (.cells #[.int .i64 0] 3)).drew.cell? ((⟨w10.heap.size, 0, none⟩ : Addr).add j) = some u) := Lib.hid (cell_one_new w10 (.int .i64 0) 3)
          have HOWA : Hid ((w10.alloc (.cells #[.int .i64 0] 3)).drew.ownsRow w9.heap.size 3 1 (.slice (some ⟨w8.heap.size + 1, 0, none⟩) ([] : List Int).length 0) ([] : List Int).length (intsV ([] : List Int))) := Lib.hid (HOWN.out.alloc _)
          have HXA : Hid (Below w9.heap.size w9 (w10.alloc (.cells #[.int .i64 0] 3)).drew) := Lib.hid (HX.out.alloc HX.out.size _).drew
          have hsa : ∀ o, w9.heap.size ≤ (w10.alloc o).heap.size := fun o => by
            have := HX.out.size
            simp
            omega
          go_region_held3 (fun W => Below w9.heap.size w9 W ∧ W.cell? ⟨w4.heap.size, 0, none⟩ = some (.slice A4 sl.length c4) ∧ W.cell? ⟨w4.heap.size, 1, none⟩ = some (.int .i64 0) ∧ W.cell? ⟨w4.heap.size, 2, none⟩ = some (.bool false))
            (first | exact HST.out _ (by assumption) | exact HST.out _ HX.out.drew | exact HST.out _ (Below.alloc (by assumption) (by assumption) _) | exact HST.out _ (HX.out.drew.alloc HX.out.size _))
            (first
              | ((go_at_call 16; refine (HDEP.out _ (And.left (by assumption))).mono ?_); rintro e w20 ⟨rfl, rfl⟩)
              | ((go_at_call 14; refine (same_fin HR9.out HSLW.out hwl (And.left (by assumption)) hown3).mono ?_); rintro e w22 ⟨rfl, hbl4⟩)
              | ((go_at_call 9; refine (HLE.out _ (And.left (by assumption))).mono ?_); rintro e w23 ⟨rfl, hbl5⟩)
              | (rw [if_pos (by rfl)]
                 refine wp_append_lies _ _ _ _ rfl w9.heap.size 3 i0 (.int .i64 0) 1 8 Try.underlying28 hi hz0 hz1 hz2 rfl (by decide) _ ([] : List Int).length (intsV ([] : List Int)) rfl HOWA.out ⟨w10.heap.size, 0, none⟩ 1 1 [.int .i64 0] rfl rfl HNEW.out (one_int 0) (by decide) (by unfold maxLen; omega) (by omega) (hsa _) _ rfl ?_
                 intro g cap w21 hown3 hg3 hat3 hlt3
                 have hbl3 : Below w9.heap.size w9 w21 := own_below HOWA.out HXA.out (hsa _) hg3))
          go_wp2_with fail
          go_ret
          exact ⟨rfl, HBEL9.out.trans (Below.mono (And.left (by assumption)) HBEL9.out.size)⟩
        · have hco : co = cf := HCO.out
          have heo : eo = true := HEO.out
          subst hco heo
          obtain ⟨wl, hwl0⟩ : ∃ wl, wl = [] ++ [co] := ⟨_, rfl⟩
          have hlen : wl.length = 0 + 1 := by rw [hwl0]; simp
          have HWL := Lib.hid hwl0
          have HLEN := Lib.hid hlen
          have HSLW : Hid (sl = wl ++ [0]) := Lib.hid (by rw [HSL.out, hwl0]; simp)
          have hwl : wl.length ≤ 300 := by omega
          clear hwl0 hlen
          simp only [List.length_nil] at HW9
          go_wp2_with (at_builtin; rw [← HW9.out, ← HW10.out, ← HSZ10.out]; refine wpList_append_own_at _ rfl _ _ 28 rfl w9.heap.size 3 i0 (.int .i64 0) 1 8 Try.underlying28 hi hz0 hz1 hz2 rfl (by decide) (.slice (some ⟨w8.heap.size + 1, 0, none⟩) 0 0) 0 (intsV []) rfl (HOWN.out.alloc _) ⟨w10.heap.size, 0, none⟩ 1 1 [.int .i64 co] rfl rfl (cell_one_new _ _ _) (one_int _) (by unfold maxLen; omega) (by omega) (by have := HX.out.size; simp; omega) ?_; intro v11 w11 hown11 hg11 _ hat11; have hx11 : Below w9.heap.size w9 w11 := own_below (HOWN.out.alloc _) (HX.out.alloc HX.out.size _) (by have := HX.out.size; simp; omega) hg11; rw [← HLEN.out] at hown11; rw [← intsV_snoc, ← HWL.out] at hown11; obtain ⟨A11, c11, rfl, _, _⟩ := own_row2 hown11; clear HX HOWN; have HX := Lib.hid hx11; have HOWN := Lib.hid hown11; clear hx11 hown11 hg11 hat11)
          have HNEW : Hid (∀ j u, [Value.int .i64 0][j]? = some u → (w11.alloc (.cells #[.int .i64 0] 3)).drew.cell? ((⟨w11.heap.size, 0, none⟩ : Addr).add j) = some u) := Lib.hid (cell_one_new w11 (.int .i64 0) 3)
          have HOWA : Hid ((w11.alloc (.cells #[.int .i64 0] 3)).drew.ownsRow w9.heap.size 3 1 (.slice A11 wl.length c11) wl.length (intsV wl)) := Lib.hid (HOWN.out.alloc _)
          have HXA : Hid (Below w9.heap.size w9 (w11.alloc (.cells #[.int .i64 0] 3)).drew) := Lib.hid (HX.out.alloc HX.out.size _).drew
          have hsa : ∀ o, w9.heap.size ≤ (w11.alloc o).heap.size := fun o => by
            have := HX.out.size
            simp
            omega
          go_region_held3 (fun W => Below w9.heap.size w9 W ∧ W.cell? ⟨w4.heap.size, 0, none⟩ = some (.slice A4 sl.length c4) ∧ W.cell? ⟨w4.heap.size, 1, none⟩ = some (.int .i64 0) ∧ W.cell? ⟨w4.heap.size, 2, none⟩ = some (.bool false))
            (first | exact HST.out _ (by assumption) | exact HST.out _ HX.out.drew | exact HST.out _ (Below.alloc (by assumption) (by assumption) _) | exact HST.out _ (HX.out.drew.alloc HX.out.size _))
            (first
              | ((go_at_call 16; refine (HDEP.out _ (And.left (by assumption))).mono ?_); rintro e w20 ⟨rfl, rfl⟩)
              | ((go_at_call 14; refine (same_fin HR9.out HSLW.out hwl (And.left (by assumption)) hown3).mono ?_); rintro e w22 ⟨rfl, hbl4⟩)
              | ((go_at_call 9; refine (HLE.out _ (And.left (by assumption))).mono ?_); rintro e w23 ⟨rfl, hbl5⟩)
              | (rw [if_pos (by rfl)]
                 refine wp_append_lies _ _ _ _ rfl w9.heap.size 3 i0 (.int .i64 0) 1 8 Try.underlying28 hi hz0 hz1 hz2 rfl (by decide) _ wl.length (intsV wl) rfl HOWA.out ⟨w11.heap.size, 0, none⟩ 1 1 [.int .i64 0] rfl rfl HNEW.out (one_int 0) (by decide) (by unfold maxLen; omega) (by omega) (hsa _) _ rfl ?_
                 intro g cap w21 hown3 hg3 hat3 hlt3
                 have hbl3 : Below w9.heap.size w9 w21 := own_below HOWA.out HXA.out (hsa _) hg3))
          go_wp2_with fail
          go_ret
          exact ⟨rfl, HBEL9.out.trans (Below.mono (And.left (by assumption)) HBEL9.out.size)⟩
      · clear hz8
        rcases o with _ | cf
        · have hco : co = 0 := HCO.out
          have heo : eo = false := HEO.out
          subst hco heo
          go_wp2_with (at_builtin; rw [← HW9.out]; rw [← HSZ9.out]; refine wpList_append_own_at _ rfl _ _ 28 rfl w9.heap.size 3 i0 (.int .i64 0) 1 8 Try.underlying28 hi hz0 hz1 hz2 rfl (by decide) (.slice (some ⟨w9.heap.size, 0, none⟩) 0 0) 0 [] rfl (own_empty w9 _ _ (Nat.le_refl _)) a8 ns.length c8 (intsV ns) rfl (by simp [intsV]) (news_of_row (HR9N.out.alloc _)) (ints_one _) (by unfold maxLen; omega) (by omega) (by simp) ?_; intro v10 w10 hown10 hg10 _ hat10; have hx10 : Below w9.heap.size w9 w10 := own_below (own_empty w9 _ _ (Nat.le_refl _)) ((Below.refl _ w9).alloc (Nat.le_refl _) _) (by simp) hg10; rw [Nat.zero_add, List.nil_append] at hown10; obtain ⟨A10, c10, rfl, _, _⟩ := own_row2 hown10; have g10 := (Kept.below hx10 (fun _ => False)).whole HG9N.out id; have HX := Lib.hid hx10; have HOWN := Lib.hid hown10; have s1 : w10.cell? ⟨w8.heap.size, 1, none⟩ = some (.int .i64 0) := g10.cell 1; have s2 : w10.cell? ⟨w8.heap.size, 2, none⟩ = some (.bool false) := g10.cell 2; clear hx10 hown10 hg10 hat10 g10)
          have HSLW : Hid (sl = ns ++ [0]) := Lib.hid (by rw [HSL.out]; simp)
          have hwl : ns.length ≤ 300 := by omega
          have HNEW : Hid (∀ j u, [Value.int .i64 0][j]? = some u → (w10.alloc (.cells #[.int .i64 0] 3)).drew.cell? ((⟨w10.heap.size, 0, none⟩ : Addr).add j) = some u) := Lib.hid (cell_one_new w10 (.int .i64 0) 3)
          have HOWA : Hid ((w10.alloc (.cells #[.int .i64 0] 3)).drew.ownsRow w9.heap.size 3 1 (.slice A10 ns.length c10) ns.length (intsV ns)) := Lib.hid (HOWN.out.alloc _)
          have HXA : Hid (Below w9.heap.size w9 (w10.alloc (.cells #[.int .i64 0] 3)).drew) := Lib.hid (HX.out.alloc HX.out.size _).drew
          have hsa : ∀ o, w9.heap.size ≤ (w10.alloc o).heap.size := fun o => by
            have := HX.out.size
            simp
            omega
          go_region_held3 (fun W => Below w9.heap.size w9 W ∧ W.cell? ⟨w4.heap.size, 0, none⟩ = some (.slice A4 sl.length c4) ∧ W.cell? ⟨w4.heap.size, 1, none⟩ = some (.int .i64 0) ∧ W.cell? ⟨w4.heap.size, 2, none⟩ = some (.bool false))
            (first | exact HST.out _ (by assumption) | exact HST.out _ HX.out.drew | exact HST.out _ (Below.alloc (by assumption) (by assumption) _) | exact HST.out _ (HX.out.drew.alloc HX.out.size _))
            (first
              | ((go_at_call 16; refine (HDEP.out _ (And.left (by assumption))).mono ?_); rintro e w20 ⟨rfl, rfl⟩)
              | ((go_at_call 14; refine (same_fin HR9.out HSLW.out hwl (And.left (by assumption)) hown3).mono ?_); rintro e w22 ⟨rfl, hbl4⟩)
              | ((go_at_call 9; refine (HLE.out _ (And.left (by assumption))).mono ?_); rintro e w23 ⟨rfl, hbl5⟩)
              | (rw [if_pos (by rfl)]
                 refine wp_append_lies _ _ _ _ rfl w9.heap.size 3 i0 (.int .i64 0) 1 8 Try.underlying28 hi hz0 hz1 hz2 rfl (by decide) _ ns.length (intsV ns) rfl HOWA.out ⟨w10.heap.size, 0, none⟩ 1 1 [.int .i64 0] rfl rfl HNEW.out (one_int 0) (by decide) (by unfold maxLen; omega) (by omega) (hsa _) _ rfl ?_
                 intro g cap w21 hown3 hg3 hat3 hlt3
                 have hbl3 : Below w9.heap.size w9 w21 := own_below HOWA.out HXA.out (hsa _) hg3))
          go_wp2_with fail
          go_ret
          exact ⟨rfl, HBEL9.out.trans (Below.mono (And.left (by assumption)) HBEL9.out.size)⟩
        · have hco : co = cf := HCO.out
          have heo : eo = true := HEO.out
          subst heo
          subst hco
          obtain ⟨wl, hwl0⟩ : ∃ wl, wl = ns ++ [co] := ⟨_, rfl⟩
          have hlen : wl.length = ns.length + 1 := by rw [hwl0]; simp
          have HWL := Lib.hid hwl0
          have HLEN := Lib.hid hlen
          have HSLW : Hid (sl = wl ++ [0]) := Lib.hid (by rw [HSL.out, hwl0]; simp)
          have hwl : wl.length ≤ 300 := by omega
          clear hwl0 hlen
          go_wp2_with (first | (at_builtin; rw [← HW9.out]; rw [← HSZ9.out]; refine wpList_append_own_at _ rfl _ _ 28 rfl w9.heap.size 3 i0 (.int .i64 0) 1 8 Try.underlying28 hi hz0 hz1 hz2 rfl (by decide) (.slice (some ⟨w9.heap.size, 0, none⟩) 0 0) 0 [] rfl (own_empty w9 _ _ (Nat.le_refl _)) a8 ns.length c8 (intsV ns) rfl (by simp [intsV]) (news_of_row (HR9N.out.alloc _)) (ints_one _) (by unfold maxLen; omega) (by omega) (by simp) ?_; intro v10 w10 hown10 hg10 _ hat10; have hx10 : Below w9.heap.size w9 w10 := own_below (own_empty w9 _ _ (Nat.le_refl _)) ((Below.refl _ w9).alloc (Nat.le_refl _) _) (by simp) hg10; rw [Nat.zero_add, List.nil_append] at hown10; obtain ⟨A10, c10, rfl, _, _⟩ := own_row2 hown10; have g10 := (Kept.below hx10 (fun _ => False)).whole HG9N.out id; have HX := Lib.hid hx10; have HOWN := Lib.hid hown10; have s1 : w10.cell? ⟨w8.heap.size, 1, none⟩ = some (.int .i64 co) := g10.cell 1; have s2 : w10.cell? ⟨w8.heap.size, 2, none⟩ = some (.bool true) := g10.cell 2; clear hx10 hown10 hg10 hat10 g10) | (at_builtin; refine wpList_append_own_at _ rfl _ _ 28 rfl w9.heap.size 3 i0 (.int .i64 0) 1 8 Try.underlying28 hi hz0 hz1 hz2 rfl (by decide) (.slice A10 ns.length c10) ns.length (intsV ns) rfl (HOWN.out.alloc _) ⟨w10.heap.size, 0, none⟩ 1 1 [.int .i64 co] rfl rfl (cell_one_new _ _ _) (one_int _) (by unfold maxLen; omega) (by omega) (by have := HX.out.size; simp; omega) ?_; intro v11 w11 hown11 hg11 _ hat11; have hx11 : Below w9.heap.size w9 w11 := own_below (HOWN.out.alloc _) (HX.out.alloc HX.out.size _) (by have := HX.out.size; simp; omega) hg11; rw [← HLEN.out] at hown11; rw [← intsV_snoc, ← HWL.out] at hown11; obtain ⟨A11, c11, rfl, _, _⟩ := own_row2 hown11; clear HX HOWN; have HX := Lib.hid hx11; have HOWN := Lib.hid hown11; clear hx11 hown11 hg11 hat11))
          have HNEW : Hid (∀ j u, [Value.int .i64 0][j]? = some u → (w11.alloc (.cells #[.int .i64 0] 3)).drew.cell? ((⟨w11.heap.size, 0, none⟩ : Addr).add j) = some u) := Lib.hid (cell_one_new w11 (.int .i64 0) 3)
          have HOWA : Hid ((w11.alloc (.cells #[.int .i64 0] 3)).drew.ownsRow w9.heap.size 3 1 (.slice A11 wl.length c11) wl.length (intsV wl)) := Lib.hid (HOWN.out.alloc _)
          have HXA : Hid (Below w9.heap.size w9 (w11.alloc (.cells #[.int .i64 0] 3)).drew) := Lib.hid (HX.out.alloc HX.out.size _).drew
          have hsa : ∀ o, w9.heap.size ≤ (w11.alloc o).heap.size := fun o => by
            have := HX.out.size
            simp
            omega
          go_region_held3 (fun W => Below w9.heap.size w9 W ∧ W.cell? ⟨w4.heap.size, 0, none⟩ = some (.slice A4 sl.length c4) ∧ W.cell? ⟨w4.heap.size, 1, none⟩ = some (.int .i64 0) ∧ W.cell? ⟨w4.heap.size, 2, none⟩ = some (.bool false))
            (first | exact HST.out _ (by assumption) | exact HST.out _ HX.out.drew | exact HST.out _ (Below.alloc (by assumption) (by assumption) _) | exact HST.out _ (HX.out.drew.alloc HX.out.size _))
            (first
              | ((go_at_call 16; refine (HDEP.out _ (And.left (by assumption))).mono ?_); rintro e w20 ⟨rfl, rfl⟩)
              | ((go_at_call 14; refine (same_fin HR9.out HSLW.out hwl (And.left (by assumption)) hown3).mono ?_); rintro e w22 ⟨rfl, hbl4⟩)
              | ((go_at_call 9; refine (HLE.out _ (And.left (by assumption))).mono ?_); rintro e w23 ⟨rfl, hbl5⟩)
              | (rw [if_pos (by rfl)]
                 refine wp_append_lies _ _ _ _ rfl w9.heap.size 3 i0 (.int .i64 0) 1 8 Try.underlying28 hi hz0 hz1 hz2 rfl (by decide) _ wl.length (intsV wl) rfl HOWA.out ⟨w11.heap.size, 0, none⟩ 1 1 [.int .i64 0] rfl rfl HNEW.out (one_int 0) (by decide) (by unfold maxLen; omega) (by omega) (hsa _) _ rfl ?_
                 intro g cap w21 hown3 hg3 hat3 hlt3
                 have hbl3 : Below w9.heap.size w9 w21 := own_below HOWA.out HXA.out (hsa _) hg3))
          go_wp2_with fail
          go_ret
          exact ⟨rfl, HBEL9.out.trans (Below.mono (And.left (by assumption)) HBEL9.out.size)⟩

end Go.Proofs.Ytopmcjpnfnfjiaa
