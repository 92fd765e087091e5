/-
  The walk of the law ScriptBack. No condition but that strconv's tables and errors lie there.
-/
import Derived.Test.YtifmgmiaeoiidaaGreatDoorScrBH
import Derived.Test.YtifmgmiaeoiidaaGreatDoorScrBI
import Derived.Test.YtifmgmiaeoiidaaGreatDoorScrAF
namespace Go.Proofs.YtifmgmiaeoiidaaGreatDoor
open Go.RowKit Go.Colm Go.Scrp
set_option linter.unusedVariables false

set_option maxRecDepth 100000 in
set_option maxHeartbeats 8000000 in
theorem scriptBack_walk (A : Option Addr) (l : List Opd) (c : Nat) (hlc : l.length ≤ c) (hcm : c ≤ maxLen) (hn : namL l) (s : ByteArray) (hsz : s.size ≤ maxLen) (w : World) (hr : OpdsAt (fun _ => True) w A 0 l) (E : Env w) :
    Calls Tryz.prog 6 #[.slice A l.length c, .string s] w fun e w' => e = .returned (.bool true) ∧ Below w.heap.size w w' := by
  have HE := Lib.hid E
  have HP := Lib.hid prints_any
  have hlm := Nat.le_trans hlc hcm
  have HF := Lib.hid (lfew_any 0 l A c w hr hn hlm)
  have HR := Lib.hid hr
  have HLM := Lib.hid hlm
  have hsl := str_len s
  clear E hr hn hlm hlc hcm
  go_enter Tryz.func6, Tryz.ntmps6
  go_wp2_with fail
  refine HF.out.mono ?_
  rintro e w2 ⟨b, rfl, hb, hb2⟩
  have HB2 := Lib.hid hb2
  have HBB := Lib.hid hb
  clear hb hb2 HF
  cases b
  · go_wp2_with fail
    refine (HP.out _ (HE.out.below HB2.out)).mono ?_
    rintro e w3 ⟨rfl, hb3⟩
    have HB3 := Lib.hid (below_chain HB2.out hb3)
    clear hb3
    go_wp2_with fail
    go_ret
    exact ⟨rfl, HB3.out⟩
  by_cases h4 : 4000 < s.size
  · go_wp2_with fail
    refine (HP.out _ (HE.out.below HB2.out)).mono ?_
    rintro e w3 ⟨rfl, hb3⟩
    have HB3 := Lib.hid (below_chain HB2.out hb3)
    clear hb3
    go_wp2_with fail
    go_ret
    exact ⟨rfl, HB3.out⟩
  have hcost := HBB.out rfl
  have hok : okL l := okL_of (cntL l + 1) l (by omega) A 0 HR.out
  have hol := out_len (cntL l + 1) l (by omega) 1 hok hcost.2
  have hpr := print_any (fun _ => True) A c l w2 (OpdsAt.turn (Turn.below HB2.out) A 0 l HR.out) (HE.out.below HB2.out).tabs HLM.out (by omega)
  have HPR := Lib.hid hpr
  have HOK := Lib.hid hok
  have HCOST := Lib.hid hcost
  have HOL := Lib.hid hol
  have hpl : printL l = if (outL 1 l).2 = true then ([], 2) else ((outL 1 l).1, 0) := rfl
  obtain ⟨pt, pe⟩ : ∃ q : List UInt8 × Int, q = printL l := ⟨_, rfl⟩
  rw [← pe] at HPR hpl
  obtain ⟨p1, p2⟩ := pt
  dsimp only at HPR
  have HPE := Lib.hid hpl
  clear hpr hok hcost hol hpl pe HBB
  go_wp2_with fail
  refine HPR.out.mono ?_
  rintro e w3 ⟨rfl, hb3⟩
  have HB3 := Lib.hid (below_chain HB2.out hb3)
  clear hb3 HPR
  have hsplit : (p2 = 0 ∧ p1 = (outL 1 l).1 ∧ (outL 1 l).2 = false) ∨ p2 = 2 := by
    have := HPE.out
    cases h : (outL 1 l).2 with
    | false =>
      rw [h, if_neg (by simp)] at this
      injection this with h1 h2
      exact .inl ⟨h2, h1, rfl⟩
    | true =>
      rw [h, if_pos rfl] at this
      injection this with h1 h2
      exact .inr h2
  have HSP := Lib.hid hsplit
  obtain ⟨X, hX⟩ : ∃ X : ByteArray, X = ⟨p1.toArray⟩ := ⟨_, rfl⟩
  rw [← hX]
  have HX := Lib.hid hX
  clear hsplit hX HPE
  go_upto_if 28 with fail
  go_cut [7] (fun _ wx => Hid (Below w.heap.size w wx))
  case first =>
    rcases HSP.out with ⟨rfl, h1, h2⟩ | rfl
    · obtain ⟨k, hk⟩ := parse_print h2 HOK.out
      have hps := parse_any p1 w3 (HE.out.below HB3.out) (by rw [h1]; have := HOL.out; have := HCOST.out.1; omega)
      rw [← HX.out] at hps
      rw [← h1] at hk
      have HPS := Lib.hid hps
      have HK := Lib.hid hk
      clear hps hk h1 h2
      go_wp2_with fail
      refine HPS.out.mono ?_
      rintro e w4 ⟨A4, n4, c4, E4, b4, rfl, hb4, _, hyes⟩
      obtain ⟨rfl, rfl, rfl, hm4, ho4⟩ := hyes _ _ HK.out
      have HB4 := Lib.hid (below_chain HB3.out hb4)
      have hb5 : Below w.heap.size w (w4.alloc (.cells #[.int .i64 0, .int .i64 0] 36)) := HB4.out.alloc HB4.out.size _
      have hsm := same_any l A A4 c c4 (w4.alloc (.cells #[.int .i64 0, .int .i64 0] 36)) (OpdsAt.turn (Turn.below hb5) A 0 l HR.out) (OpdsAt.turn (fun j i u hj hc => ⟨trivial, (((Below.refl _ w4).alloc (Nat.le_refl _) _).cell (p := ⟨j, i, none⟩) (lt_of_cell hc)).trans hc⟩) A4 0 l ho4) HLM.out
      have HSM := Lib.hid hsm
      have HB5 := Lib.hid hb5
      clear hb4 hyes hm4 ho4 hsm hb5 HSP
      go_wp2_with fail
      refine HSM.out.mono ?_
      rintro e w6 ⟨rfl, hb6⟩
      have HB6 := Lib.hid (below_chain HB5.out hb6)
      clear hb6
      go_wp2_with fail
      go_meet
      exact HB6
    · go_wp2_with fail
      go_meet
      exact HB3
  case rest =>
  have HB4 := hcut
  clear HSP HX HB3 HR HOK HCOST HOL
  have hps := parse_any s.data.toList wc (HE.out.below HB4.out) (by omega)
  rw [bytes_eq] at hps
  have HPS := Lib.hid hps
  clear hps
  go_wp2_with fail
  refine HPS.out.mono ?_
  rintro e w5 ⟨A5, n5, c5, E5, b5, rfl, hb5, hno, hyes⟩
  have HB5 := Lib.hid (below_chain HB4.out hb5)
  cases hp : parseL s.data.toList with
  | bad b =>
    obtain ⟨rfl, rfl, rfl, rfl, rfl⟩ := hno b hp
    have hw := parse_where hp
    rw [hsl] at hw
    have h1 : 1 ≤ b5 := hw.1
    have h2 : b5 ≤ s.size + 1 := hw.2
    have HB6 : Hid (Below w.heap.size w (w5.alloc (.cells #[.int .i64 50, .int .i64 (b5 : Int)] 36))) := Lib.hid (HB5.out.alloc HB5.out.size _)
    have HPR := Lib.hid (HP.out _ (HE.out.below HB6.out))
    have t1 : (((50 : Nat) : Int) == 0) = false := rfl
    clear hno hyes hp hb5 hw
    go_wp2_with fail
    refine HPR.out.mono ?_
    rintro e w6 ⟨rfl, hb6⟩
    have HB7 := Lib.hid (below_chain HB6.out hb6)
    clear hb6
    go_wp2_with fail
    go_ret
    exact ⟨rfl, HB7.out⟩
  | ok out k =>
    obtain ⟨rfl, rfl, rfl, hm5, ho5⟩ := hyes out k hp
    have hpp := print_parse hp
    have HB6 : Hid (Below w.heap.size w (w5.alloc (.cells #[.int .i64 0, .int .i64 0] 36))) := Lib.hid (HB5.out.alloc HB5.out.size _)
    have hpr := print_any (fun _ => True) A5 c5 out _ (OpdsAt.turn (fun j i u hj hc => ⟨trivial, (((Below.refl _ w5).alloc (Nat.le_refl _) (.cells #[.int .i64 0, .int .i64 0] 36)).cell (p := ⟨j, i, none⟩) (lt_of_cell hc)).trans hc⟩) A5 0 out ho5) (HE.out.below HB6.out).tabs (Nat.le_trans hm5.1 hm5.2) (by rw [hpp]; show s.data.toList.length ≤ _; omega)
    have hpl : printL out = (s.data.toList, 0) := by
      unfold printL
      rw [hpp]
      rfl
    rw [hpl] at hpr
    dsimp only at hpr
    rw [bytes_eq] at hpr
    have HPR := Lib.hid hpr
    clear hno hyes hp hb5 hpp hpl hpr hm5 ho5
    go_wp2_with fail
    refine HPR.out.mono ?_
    rintro e w6 ⟨rfl, hb6⟩
    have HB7 := Lib.hid (below_chain HB6.out hb6)
    clear hb6
    go_wp2_with fail
    refine (HP.out _ (HE.out.below HB7.out)).mono ?_
    rintro e w7 ⟨rfl, hb7⟩
    have HB8 := Lib.hid (below_chain HB7.out hb7)
    clear hb7
    go_wp2_with fail
    go_ret
    exact ⟨rfl, HB8.out⟩
end Go.Proofs.YtifmgmiaeoiidaaGreatDoor
