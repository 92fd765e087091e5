/-
  The walk of the law WireBack. No condition.
-/
import Derived.Test.YtfnpjcfaabbejaaWireRB
import Derived.Test.YtfnpjcfaabbejaaWireAF
import Derived.Test.YtfnpjcfaabbejaaWireAE
import Derived.Test.YtfnpjcfaabbejaaWireAA
namespace Go.Wirep
open Go.Foldp
/-- What is got of packed names. -/
def BackAt (b : List UInt8) (ll : List (List (List UInt8))) (qs : List Nat) (k : Nat) (l : List (List UInt8)) : Prop :=
  ∃ q nx, qs[k]? = some q ∧ checkL l = 0 ∧ getA b (q : Int) = (l.map lowL, nx, 0) ∧ nx ≤ q + wireL l ∧ q < nx ∧ nx ≤ b.length ∧ (k + 1 < ll.length → qs[k + 1]? = some nx) ∧ (k + 1 = ll.length → nx = b.length)
theorem back_all {b : List UInt8} {ll : List (List (List UInt8))} {qs : List Nat} (h : packL ll = (b, qs, 0)) :
    allL b = (ll.map (List.map lowL), 0) ∧ qs.length = ll.length ∧ b.length ≤ 16384 ∧ ll.length ≤ 64 ∧ ∀ k l, ll[k]? = some l → BackAt b ll qs k l := by
  obtain ⟨hch, h1, h2⟩ := packL_chain h
  obtain ⟨h3, h4⟩ := hch.at
  refine ⟨?_, h3, h1, h2, fun k l hk => ?_⟩
  · have := hch.all []
    rw [Nat.sub_zero, List.nil_append] at this
    exact this
  · obtain ⟨hkl, rfl⟩ := List.getElem?_eq_some_iff.1 hk
    obtain ⟨q, nx, e1, e2, e3, e4, _, e6, e7⟩ := h4 k hkl
    have hlt := rd_lt e3
    have hw : wireL (ll[k].map lowL) ≤ 255 := by rw [wireL_low]; exact checkL_wire e2
    refine ⟨q, nx, e1, e2, ?_, e4, hlt.1, hlt.2, e6, e7⟩
    rw [getA, if_pos (by omega)]
    have := get_of_rd e3 0 [] (by rw [List.nil_append]; exact hw)
    simpa using this
end Go.Wirep
namespace Go.Proofs.Ytfnpjcfaabbejaa
open Go.RowKit Go.Foldp Go.Colm Go.Wirep
set_option linter.unusedVariables false

set_option maxRecDepth 100000 in
set_option maxHeartbeats 16000000 in
theorem wireBack_walk (A : Option Addr) (ll : List (List (List UInt8))) (c : Nat) (hlc : ll.length ≤ c) (hcm : c ≤ maxLen) (hsz : ∀ l ∈ ll, l.length ≤ maxLen ∧ ∀ s ∈ l, s.length ≤ maxLen) (w : World) (hr : NamesV w A ll) :
    Calls Try.prog 6 #[.slice A ll.length c] w fun e w' => e = .returned (.bool true) ∧ Below w.heap.size w w' := by
  unfold maxLen at hcm hsz
  have HR := Lib.hid hr
  have HF := Lib.hid (rfew_any ll A c w hr hsz (by omega))
  clear hr hsz
  go_enter Try.func6, Try.ntmps6
  go_wp2_with fail
  refine HF.out.mono ?_
  rintro e w1 ⟨q, rfl, hq, hb1⟩
  have HB1 := Lib.hid hb1
  clear hb1
  rcases q with _ | _
  · clear hq
    go_wp2_with fail
    refine (wires_any _).mono ?_
    rintro e w2 ⟨rfl, hb2⟩
    go_wp2_with fail
    go_ret
    exact ⟨rfl, below_chain HB1.out hb2⟩
  · obtain ⟨h100, h3301⟩ := hq rfl
    have HP := Lib.hid (pack_any A c ll w1 (HR.out.below HB1.out) (fun l hl => by have := h3301 l hl; omega) (by omega))
    have HCH := Lib.hid (fun b qs => back_all (ll := ll) (b := b) (qs := qs))
    have HERR := Lib.hid (packL_err (ll := ll))
    obtain ⟨g, hg⟩ : ∃ g, g = packL ll := ⟨_, rfl⟩
    simp only [← hg] at HP HCH HERR
    clear hq hg h3301
    obtain ⟨b, qs, er⟩ := g
    go_wp2_with fail
    refine HP.out.mono ?_
    rintro e w2 ⟨Ab, cb, Ap, cp, rfl, hrb, hrp, hcb, hspot, hb2⟩
    simp only at hrb hrp hcb hspot
    have HRB := Lib.hid hrb
    have HRP := Lib.hid hrp
    have HB2 := Lib.hid (below_chain HB1.out hb2)
    have HR2 := Lib.hid ((HR.out.below HB1.out).below hb2)
    clear hrb hrp hspot hb2 HP
    by_cases h0 : er = 0
    · subst h0
      obtain ⟨hall, hql, hbl, hl64, hat⟩ := HCH.out b qs rfl
      have hwall := wall_any Ab cb b w2 HRB.out hcb (by omega)
      rw [hall] at hwall
      have HAL := Lib.hid hwall
      have HAT := Lib.hid hat
      clear hat HCH HERR hwall hall
      go_wp2_with fail
      refine HAL.out.mono ?_
      rintro e w3 ⟨Aa, ca, rfl, hra, hb3⟩
      have HRA := Lib.hid hra
      have HB3 := Lib.hid (below_chain HB2.out hb3)
      have HR3 := Lib.hid (HR2.out.below hb3)
      have HRP3 := Lib.hid (HRP.out.below hb3)
      have HG : Hid (∀ (at_ : Int) W, Below w3.heap.size w3 W → Calls Try.prog 8 #[.slice Ab b.length cb, .int .i64 at_] W (GotIt W (getA b at_))) := Lib.hid (fun at_ W hW => get_any Ab cb b at_ W ((HRB.out.below hb3).below hW) (by omega) (by omega))
      simp only [List.length_map] at *
      clear hb3 hra HAL HRB HRP HR2
      go_wp2_with fail
      go_loopw [8] (fun i wr => ∃ k : Nat, k ≤ ll.length ∧ i = .int .i64 k ∧ Below w3.heap.size w3 wr) (fun i _ => ll.length - (intOf i).toNat)
      case atStart => exact ⟨0, Nat.zero_le _, rfl, Below.refl _ _⟩
      case round =>
        obtain ⟨k, hk, rfl, hbw⟩ := hrel
        have HBW := Lib.hid hbw
        clear hbw
        by_cases hlt : k < ll.length
        · obtain ⟨q, nx, hq, hck, hget, hnx, hqn, hnb, hnext, hlast⟩ := HAT.out k ll[k] (List.getElem?_eq_getElem hlt)
          obtain ⟨bp, op, hap, hx1⟩ := places_at (HRP3.out.below HBW.out) hq
          obtain ⟨bn, on, An, cn, han, hx3, _, hrn⟩ := (HR3.out.below HBW.out) k _ (List.getElem?_eq_getElem hlt)
          obtain ⟨ba, oa, Ax, cx, haa, hx4, hrx⟩ := (HRA.out.below HBW.out) k (ll[k].map lowL) (by rw [List.getElem?_map, List.getElem?_eq_getElem hlt]; rfl)
          rw [List.length_map] at hx4
          have hgq := HG.out q wr HBW.out
          rw [hget] at hgq
          obtain ⟨lk, hlk⟩ : ∃ lk, lk = ll[k] := ⟨_, rfl⟩
          simp only [← hlk] at hx3 hrn hrx hx4 hgq hck hnx
          have h255 := checkL_wire hck
          have hlen := wireL_len lk
          have HP2 : Hid (∀ (j x : Nat), qs[j]? = some x → ∃ b off, Ap = some ⟨b, off, none⟩ ∧ wr.cell? ⟨b, off + j, none⟩ = some (.int .i64 (x : Int))) := Lib.hid (fun j x hj => places_at (HRP3.out.below HBW.out) hj)
          have HGQ := Lib.hid hgq
          have HLK := Lib.hid hlk
          have HRN := Lib.hid hrn
          have HRX := Lib.hid hrx
          have HCK := Lib.hid hck
          have HNX := Lib.hid hnext
          have HX1 := Lib.hid hx1
          have HX3 := Lib.hid hx3
          have HX4 := Lib.hid hx4
          subst hap
          subst han
          subst haa
          clear hq hget hlk hrn hrx hck hnext hgq hx3 hx4 HAT
          go_wp2_with fail
          refine HGQ.out.mono ?_
          rintro e w4 ⟨A4, c4, rfl, hr4, hb4⟩
          simp only [List.length_map] at hr4 ⊢
          have HR4 := Lib.hid hr4.row
          have HB4 := Lib.hid hb4
          have hx34 : w4.cell? ⟨bn, on + k, none⟩ = some (.slice An lk.length cn) := (hb4.cell (lt_of_cell HX3.out)).trans HX3.out
          have HPUT := Lib.hid (putN_any lk An cn w4 (HRN.out.below hb4) HCK.out)
          clear hr4 hb4 hx1
          go_wp2_with fail
          refine HPUT.out.mono ?_
          rintro e w5 ⟨A5, c5, rfl, hb5⟩
          have HB5 := Lib.hid (below_chain HB4.out hb5)
          have hx35 : w5.cell? ⟨bn, on + k, none⟩ = some (.slice An lk.length cn) := (HB5.out.cell (lt_of_cell HX3.out)).trans HX3.out
          have hx45 : w5.cell? ⟨ba, oa + k, none⟩ = some (.slice Ax lk.length cx) := (HB5.out.cell (lt_of_cell HX4.out)).trans HX4.out
          have hs := same_strs (lk.map lowL) (lk.map lowL) A4 Ax c4 cx w5 (HR4.out.below hb5) (HRX.out.below HB5.out) (by simp; omega) (by simp; omega)
          rw [beq_self_eq_true, List.length_map] at hs
          have HS := Lib.hid hs
          have HR5 := Lib.hid (HR4.out.below hb5)
          clear hs hb5 hx34 HPUT
          go_wp2_with fail
          refine HS.out.mono ?_
          rintro e w6 ⟨rfl, hb6⟩
          have HB6 := Lib.hid (below_chain HB5.out hb6)
          have hx16 : w6.cell? ⟨bp, op + k, none⟩ = some (.int .i64 (q : Int)) := (HB6.out.cell (lt_of_cell HX1.out)).trans HX1.out
          have HX36 : Hid (w6.cell? ⟨bn, on + k, none⟩ = some (.slice An lk.length cn)) := Lib.hid ((HB6.out.cell (lt_of_cell HX3.out)).trans HX3.out)
          have HR6 := Lib.hid (HR5.out.below hb6)
          have HRN6 := Lib.hid (HRN.out.below HB6.out)
          have HBW6 := Lib.hid (below_chain HBW.out HB6.out)
          have HLOW : Hid (∀ j, (hj : j < lk.length) → ∀ W, Calls Try.prog 17 #[.string ⟨lk[j].toArray⟩] W fun e w' => e = .returned (.string ⟨(lowL lk[j]).toArray⟩) ∧ Below W.heap.size W w') := Lib.hid (fun j hj W => rlower_any ⟨lk[j].toArray⟩ W (by
            have := wireL_mem (List.getElem_mem hj)
            rw [str_size]
            omega))
          clear hb6 hx35 hx45 HS
          by_cases hl : k + 1 < ll.length
          · obtain ⟨bp', op', hap', hx2⟩ := HP2.out (k + 1) nx (HNX.out hl)
            cases hap'
            have hx26 : w6.cell? ⟨bp, op + (k + 1), none⟩ = some (.int .i64 (nx : Int)) := (HB6.out.cell (lt_of_cell hx2)).trans hx2
            clear hlast hx2
            go_wp2_with fail
            go_loopw [14] (fun i wr2 => ∃ j : Nat, j ≤ lk.length ∧ i = .int .i64 j ∧ Below w6.heap.size w6 wr2) (fun i _ => lk.length - (intOf i).toNat)
            case atStart => exact ⟨0, Nat.zero_le _, rfl, Below.refl _ _⟩
            case round =>
              obtain ⟨j, hj, rfl, hbj⟩ := hrel
              have HBJ := Lib.hid hbj
              clear hbj
              by_cases hlj : j < lk.length
              · obtain ⟨b4, o4, e4, hc4⟩ := labV_at (HR6.out.below HBJ.out) (show j < (lk.map lowL).length by simpa using hlj)
                obtain ⟨b5, o5, e5, hc5⟩ := labV_at (HRN6.out.below HBJ.out) hlj
                rw [List.getElem_map] at hc4
                have hlw := HLOW.out j hlj wr.drew
                obtain ⟨sl, hsl⟩ : ∃ sl, sl = ByteArray.mk (lowL lk[j]).toArray := ⟨_, rfl⟩
                obtain ⟨sk, hsk⟩ : ∃ sk, sk = ByteArray.mk lk[j].toArray := ⟨_, rfl⟩
                rw [← hsl] at hlw hc4
                rw [← hsk] at hlw hc5
                subst e4
                subst e5
                have HLW := Lib.hid hlw
                have y4 : wr.drew.cell? ⟨b4, o4 + j, none⟩ = some (.string sl) := hc4
                have y5 : wr.drew.cell? ⟨b5, o5 + j, none⟩ = some (.string sk) := hc5
                have y3 : wr.drew.cell? ⟨bn, on + k, none⟩ = some (.slice (some ⟨b5, o5, none⟩) lk.length cn) := (HBJ.out.cell (lt_of_cell HX36.out)).trans HX36.out
                clear hsl hsk hlw
                go_wp2_with fail
                go_region_law (
                  (refine step_call (w := wr.drew) rfl 17 #[.string sk] (by first | kernel_rfl | rfl | (simp [execOp, go_sem])) (.string sl) (fun w' => Below wr.drew.heap.size wr.drew w') HLW.out ?_
                   intro w7 hb7
                   have y47 : w7.cell? ⟨b4, o4 + j, none⟩ = some (.string sl) := (hb7.cell (lt_of_cell y4)).trans y4
                   have HB7 := Lib.hid (below_chain HBJ.out (below_chain (below_of_drewN wr 1) hb7))
                   clear hb7))
                all_goals
                  go_wp2_with fail
                  refine ⟨?rel, ?measure⟩
                  case rel => exact ⟨j + 1, by omega, by go_num, HB7.out⟩
                  case measure => simp [intOf]; omega
              · go_wp2_with fail
                refine ⟨?rel, ?measure⟩
                case rel => exact ⟨k + 1, by omega, by go_num, below_chain HBW6.out HBJ.out⟩
                case measure => simp [intOf]; omega
          · have hl2 : k + 1 = ll.length := by omega
            have hnb2 := hlast hl2
            subst hnb2
            clear hlast
            go_wp2_with fail
            go_loopw [14] (fun i wr2 => ∃ j : Nat, j ≤ lk.length ∧ i = .int .i64 j ∧ Below w6.heap.size w6 wr2) (fun i _ => lk.length - (intOf i).toNat)
            case atStart => exact ⟨0, Nat.zero_le _, rfl, Below.refl _ _⟩
            case round =>
              obtain ⟨j, hj, rfl, hbj⟩ := hrel
              have HBJ := Lib.hid hbj
              clear hbj
              by_cases hlj : j < lk.length
              · obtain ⟨b4, o4, e4, hc4⟩ := labV_at (HR6.out.below HBJ.out) (show j < (lk.map lowL).length by simpa using hlj)
                obtain ⟨b5, o5, e5, hc5⟩ := labV_at (HRN6.out.below HBJ.out) hlj
                rw [List.getElem_map] at hc4
                have hlw := HLOW.out j hlj wr.drew
                obtain ⟨sl, hsl⟩ : ∃ sl, sl = ByteArray.mk (lowL lk[j]).toArray := ⟨_, rfl⟩
                obtain ⟨sk, hsk⟩ : ∃ sk, sk = ByteArray.mk lk[j].toArray := ⟨_, rfl⟩
                rw [← hsl] at hlw hc4
                rw [← hsk] at hlw hc5
                subst e4
                subst e5
                have HLW := Lib.hid hlw
                have y4 : wr.drew.cell? ⟨b4, o4 + j, none⟩ = some (.string sl) := hc4
                have y5 : wr.drew.cell? ⟨b5, o5 + j, none⟩ = some (.string sk) := hc5
                have y3 : wr.drew.cell? ⟨bn, on + k, none⟩ = some (.slice (some ⟨b5, o5, none⟩) lk.length cn) := (HBJ.out.cell (lt_of_cell HX36.out)).trans HX36.out
                clear hsl hsk hlw
                go_wp2_with fail
                go_region_law (
                  (refine step_call (w := wr.drew) rfl 17 #[.string sk] (by first | kernel_rfl | rfl | (simp [execOp, go_sem])) (.string sl) (fun w' => Below wr.drew.heap.size wr.drew w') HLW.out ?_
                   intro w7 hb7
                   have y47 : w7.cell? ⟨b4, o4 + j, none⟩ = some (.string sl) := (hb7.cell (lt_of_cell y4)).trans y4
                   have HB7 := Lib.hid (below_chain HBJ.out (below_chain (below_of_drewN wr 1) hb7))
                   clear hb7))
                all_goals
                  go_wp2_with fail
                  refine ⟨?rel, ?measure⟩
                  case rel => exact ⟨j + 1, by omega, by go_num, HB7.out⟩
                  case measure => simp [intOf]; omega
              · go_wp2_with fail
                refine ⟨?rel, ?measure⟩
                case rel => exact ⟨k + 1, by omega, by go_num, below_chain HBW6.out HBJ.out⟩
                case measure => simp [intOf]; omega
        · go_wp2_with fail
          refine (wires_any _).mono ?_
          rintro e w4 ⟨rfl, hb4⟩
          go_wp2_with fail
          go_ret
          exact ⟨rfl, below_chain HB3.out (below_chain HBW.out hb4)⟩
    · have t1 : (er != 0) = true := by rwa [bne_iff_ne]
      have hbn : b = [] := HERR.out h0
      subst hbn
      clear h0 HCH HERR
      go_wp2_with fail
      refine (wires_any _).mono ?_
      rintro e w3 ⟨rfl, hb3⟩
      go_wp2_with fail
      go_ret
      exact ⟨rfl, below_chain HB2.out hb3⟩
end Go.Proofs.Ytfnpjcfaabbejaa
