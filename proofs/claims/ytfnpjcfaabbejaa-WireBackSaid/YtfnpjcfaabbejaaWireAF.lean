/-
  The walk of the law WireCuts. No condition.
-/
import Derived.Test.YtfnpjcfaabbejaaWireRB
import Derived.Test.YtfnpjcfaabbejaaWireAD
import Derived.Test.YtfnpjcfaabbejaaWireX
import Derived.Test.YtfnpjcfaabbejaaInn
namespace Go.Wirep
open Go.Foldp
/-- What is got of bytes that are cut. -/
theorem cut_get {b : List UInt8} {l : List (List UInt8)} {q nx : Nat} (n : Nat) (hrd : Rd b q q (l.map lowL) nx) (hc : checkL l = 0) (hn : n < b.length) :
    ∃ gl gn ge, getA (b.take n) (q : Int) = (gl, gn, ge) ∧ ((nx ≤ n ∧ gl.length = l.length ∧ gn = nx ∧ ge = 0) ∨ (q < n ∧ n < nx ∧ gn ≤ b.length ∧ gl.length ≤ 255 ∧ ge = 3) ∨ (n ≤ q ∧ gn ≤ b.length ∧ gl.length ≤ 255 ∧ ge = 2)) := by
  have hlt := rd_lt hrd
  have hw : wireL (l.map lowL) ≤ 255 := by rw [wireL_low]; exact checkL_wire hc
  have htl : (b.take n).length = n := by rw [List.length_take]; omega
  by_cases h1 : nx ≤ n
  · refine ⟨l.map lowL, nx, 0, ?_, .inl ⟨h1, by simp, rfl, rfl⟩⟩
    rw [getA, if_pos (by omega)]
    have := get_of_rd (rd_take hrd (Nat.le_refl _) h1) 0 [] (by rw [List.nil_append]; exact hw)
    simpa using this
  · by_cases h2 : q < n
    · refine ⟨[], 0, 3, ?_, .inr (.inl ⟨h2, by omega, by omega, by simp, rfl⟩)⟩
      rw [getA, if_pos (by omega)]
      have := get_short hrd n 0 [] (by omega) (by omega) (by rw [List.nil_append]; exact hw)
      simpa using this
    · refine ⟨[], 0, 2, ?_, .inr (.inr ⟨by omega, by omega, by simp, rfl⟩)⟩
      rw [getA, if_neg (by omega)]
end Go.Wirep
namespace Go.Proofs.Ytfnpjcfaabbejaa
open Go.RowKit Go.Foldp Go.Colm Go.Wirep
set_option linter.unusedVariables false

def GotIs (w : World) (r : Got) (v : Value) (w' : World) : Prop :=
  ∃ A' c', v = .tuple #[.slice A' r.1.length c', .int .i64 (r.2.1 : Int), .int .i64 r.2.2] ∧ RowT w' 9 A' (labV r.1) ∧ Below w.heap.size w w'
theorem gotIs_of {w w' : World} {r : Got} {e : Ending} (h : GotIt w r e w') : ∃ v, e = .returned v ∧ GotIs w r v w' := by
  obtain ⟨A', c', rfl, h1, h2⟩ := h
  exact ⟨_, rfl, A', c', rfl, h1, h2⟩
theorem places_at {w : World} {A : Option Addr} {qs : List Nat} (h : RowV w A (placesV qs)) {k q : Nat} (hk : qs[k]? = some q) : ∃ b off, A = some ⟨b, off, none⟩ ∧ w.cell? ⟨b, off + k, none⟩ = some (.int .i64 (q : Int)) :=
  h k _ (by simp [placesV, hk])

set_option maxRecDepth 100000 in
set_option maxHeartbeats 8000000 in
theorem wireCuts_walk (A : Option Addr) (ll : List (List (List UInt8))) (c : Nat) (hlc : ll.length ≤ c) (hcm : c ≤ maxLen) (hsz : ∀ l ∈ ll, l.length ≤ maxLen ∧ ∀ s ∈ l, s.length ≤ maxLen) (at_ : Int) (wf : (Lit.int .i64 at_).wf = true) (w : World) (hr : NamesV w A ll) :
    Calls Try.prog 4 #[.slice A ll.length c, .int .i64 at_] w fun e w' => e = .returned (.bool true) ∧ Below w.heap.size w w' := by
  unfold maxLen at hcm hsz
  have HR := Lib.hid hr
  have HF := Lib.hid (rfew_any ll A c w hr hsz (by omega))
  clear hr hsz
  go_enter Try.func4, Try.ntmps4
  go_wp2_with fail
  refine HF.out.mono ?_
  rintro e w1 ⟨q, rfl, hq, hb1⟩
  have HB1 := Lib.hid hb1
  clear hb1
  rcases q with _ | _
  · clear hq
    go_wp2_with fail
    refine (wires_any _).mono ?_
    rintro e w2 ⟨rfl, hb2⟩
    go_wp2_with fail
    go_ret
    exact ⟨rfl, below_chain HB1.out hb2⟩
  · obtain ⟨h100, h3301⟩ := hq rfl
    have HP := Lib.hid (pack_any A c ll w1 (HR.out.below HB1.out) (fun l hl => by have := h3301 l hl; omega) (by omega))
    have HCH := Lib.hid (fun b qs => packL_chain (ll := ll) (b := b) (qs := qs))
    obtain ⟨g, hg⟩ : ∃ g, g = packL ll := ⟨_, rfl⟩
    simp only [← hg] at HP HCH
    clear hq hg h3301
    obtain ⟨b, qs, er⟩ := g
    go_wp2_with fail
    refine HP.out.mono ?_
    rintro e w2 ⟨Ab, cb, Ap, cp, rfl, hrb, hrp, hcb, hspot, hb2⟩
    simp only at hrb hrp hcb hspot
    have HRB := Lib.hid hrb
    have HRP := Lib.hid hrp
    have HB2 := Lib.hid (below_chain HB1.out hb2)
    have HR2 := Lib.hid ((HR.out.below HB1.out).below hb2)
    clear hrb hrp hspot hb2 HP
    by_cases h0 : er = 0
    · subst h0
      obtain ⟨hch, hbl, hl64⟩ := HCH.out b qs rfl
      obtain ⟨hql, hat⟩ := hch.at
      have HAT := Lib.hid hat
      clear hch hat HCH
      by_cases h1 : at_ < 0
      · go_wp2_with fail
        refine (wires_any _).mono ?_
        rintro e w3 ⟨rfl, hb3⟩
        go_wp2_with fail
        go_ret
        exact ⟨rfl, below_chain HB2.out hb3⟩
      · by_cases h2 : (b.length : Int) ≤ at_
        · go_wp2_with fail
          refine (wires_any _).mono ?_
          rintro e w3 ⟨rfl, hb3⟩
          go_wp2_with fail
          go_ret
          exact ⟨rfl, below_chain HB2.out hb3⟩
        · obtain ⟨n, rfl⟩ := Int.eq_ofNat_of_zero_le (show 0 ≤ at_ by omega)
          have hnb : n < b.length := by omega
          clear wf
          have cut1 := fun W => run_cut_to (P := Try.prog) Try.underlying22 Try.sizeOf5 Ab b.length cb .i64 (n : Int) (by omega) (by omega) W
          rw [Int.toNat_natCast] at cut1
          have htl : (b.take n).length = n := by rw [List.length_take]; omega
          have HG : Hid (∀ (at_ : Int) W, Below w2.heap.size w2 W → Calls Try.prog 8 #[.slice Ab n cb, .int .i64 at_] W (GotIt W (getA (b.take n) at_))) := Lib.hid (fun at_ W hW => by
            have hrow := (HRB.out.below hW).take n
            rw [bytesV, ← List.map_take] at hrow
            have := get_any Ab cb (b.take n) at_ W hrow (by omega) (by omega)
            rwa [htl] at this)
          clear htl
          go_wp2_with fail
          simp only [show decide (b.length ≤ n) = false from decide_eq_false (by omega), show decide (((n : Nat) : Int) < 0) = false from decide_eq_false (by omega)]
          go_loopw [8] (fun i wr => ∃ k : Nat, k ≤ qs.length ∧ i = .int .i64 k ∧ Below w2.heap.size w2 wr) (fun i _ => qs.length - (intOf i).toNat)
          case atStart => exact ⟨0, Nat.zero_le _, rfl, Below.refl _ _⟩
          case round =>
            obtain ⟨k, hk, rfl, hbw⟩ := hrel
            have HBW := Lib.hid hbw
            clear hbw
            by_cases hlt : k < qs.length
            · have hkl : k < ll.length := by omega
              obtain ⟨q, nx, hq, hck, hrd, hnx, _, hnext, hlast⟩ := HAT.out k hkl
              obtain ⟨gl, gn, ge, hget, hway⟩ := cut_get n hrd hck hnb
              have hql2 := rd_lt hrd
              have hgq := (HG.out q wr.drew (below_drewN HBW.out 1)).mono (fun e w' => gotIs_of)
              rw [hget] at hgq
              have HGQ := Lib.hid hgq
              obtain ⟨bp, op, hap, hx1⟩ := places_at (HRP.out.below HBW.out) hq
              obtain ⟨bn, on, An, cn, han, hx3, _, _⟩ := (HR2.out.below HBW.out) k _ (List.getElem?_eq_getElem hkl)
              obtain ⟨lk, hlk⟩ : ∃ lk, lk = ll[k] := ⟨_, rfl⟩
              rw [← hlk] at hx3 hway hnx
              subst hap
              subst han
              have hx1d : wr.drew.cell? ⟨bp, op + k, none⟩ = some (.int .i64 (q : Int)) := hx1
              have hx3d : wr.drew.cell? ⟨bn, on + k, none⟩ = some (.slice An lk.length cn) := hx3
              by_cases hl : k + 1 < qs.length
              · have hnq := hnext (by omega)
                obtain ⟨bp', op', hap', hx2⟩ := places_at (HRP.out.below HBW.out) hnq
                cases hap'
                have HLK := Lib.hid hlk
                clear hnext hlast hnq hrd hget hgq hck hq hlk HAT
                go_wp2_with fail
                go_region_law (first
                  | (rw [cut1])
                  | (refine step_call2 (w := wr.drew) rfl 8 #[.slice Ab n cb, .int .i64 (q : Int)] (by first | kernel_rfl | rfl | (simp [execOp, go_sem])) (GotIs wr.drew (gl, gn, ge)) HGQ.out ?_
                     rintro v3 w3 ⟨A3, c3, rfl, hr3, hb3⟩
                     have HB3 := Lib.hid (below_chain HBW.out (below_chain (below_of_drewN wr 1) hb3))
                     have x1 : w3.cell? ⟨bp, op + k, none⟩ = some (.int .i64 (q : Int)) := (hb3.cell (lt_of_cell hx1d)).trans hx1d
                     have x3 : w3.cell? ⟨bn, on + k, none⟩ = some (.slice An lk.length cn) := (hb3.cell (lt_of_cell hx3d)).trans hx3d
                     clear hr3 hb3))
                all_goals
                  rcases hway with ⟨y1, rfl2, rfl, rfl⟩ | ⟨y1, y2, y3, y4, rfl⟩ | ⟨y1, y3, y4, rfl⟩
                  all_goals
                    go_wp2_with fail
                    refine ⟨?_, ?measure⟩
                    repeat apply Exists.intro
                    refine ⟨?rel, rfl⟩
                    case rel => exact ⟨k + 1, by omega, by go_num, HB3.out⟩
                    case measure => simp [intOf]; omega
              · have hnb2 := hlast (by omega)
                have HLK := Lib.hid hlk
                clear hnext hlast hrd hget hgq hck hq hlk HAT
                subst hnb2
                go_wp2_with fail
                go_region_law (first
                  | (rw [cut1])
                  | (refine step_call2 (w := wr.drew) rfl 8 #[.slice Ab n cb, .int .i64 (q : Int)] (by first | kernel_rfl | rfl | (simp [execOp, go_sem])) (GotIs wr.drew (gl, gn, ge)) HGQ.out ?_
                     rintro v3 w3 ⟨A3, c3, rfl, hr3, hb3⟩
                     have HB3 := Lib.hid (below_chain HBW.out (below_chain (below_of_drewN wr 1) hb3))
                     have x1 : w3.cell? ⟨bp, op + k, none⟩ = some (.int .i64 (q : Int)) := (hb3.cell (lt_of_cell hx1d)).trans hx1d
                     have x3 : w3.cell? ⟨bn, on + k, none⟩ = some (.slice An lk.length cn) := (hb3.cell (lt_of_cell hx3d)).trans hx3d
                     clear hr3 hb3))
                all_goals
                  rcases hway with ⟨y1, rfl2, rfl, rfl⟩ | ⟨y1, y2, y3, y4, rfl⟩ | ⟨y1, y3, y4, rfl⟩
                  · exact absurd y1 (by omega)
                  all_goals
                    go_wp2_with fail
                    refine ⟨?_, ?measure⟩
                    repeat apply Exists.intro
                    refine ⟨?rel, rfl⟩
                    case rel => exact ⟨k + 1, by omega, by go_num, HB3.out⟩
                    case measure => simp [intOf]; omega
            · go_wp2_with fail
              refine (wires_any _).mono ?_
              rintro e w3 ⟨rfl, hb3⟩
              go_wp2_with fail
              go_ret
              exact ⟨rfl, below_chain HB2.out (below_chain HBW.out hb3)⟩
    · have t1 : (er != 0) = true := by rwa [bne_iff_ne]
      clear h0 HCH
      go_wp2_with fail
      refine (wires_any _).mono ?_
      rintro e w3 ⟨rfl, hb3⟩
      go_wp2_with fail
      go_ret
      exact ⟨rfl, below_chain HB2.out hb3⟩
end Go.Proofs.Ytfnpjcfaabbejaa
