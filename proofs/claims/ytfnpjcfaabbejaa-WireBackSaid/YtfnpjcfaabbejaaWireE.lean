/-
  The walk of the reference's Get: at any bytes and any place it answers what the plain law says. Bytes fewer than 2^40.
-/
import Derived.Test.YtfnpjcfaabbejaaWireD
namespace Go.Proofs.Ytfnpjcfaabbejaa
open Go.RowKit Go.Foldp Go.Colm Go.Wirep
set_option linter.unusedVariables false

/-- What the reference's loop holds. -/
def RefLoop (b : List UInt8) (at0 : Nat) (w : World) (gk at_ begin_ next : Nat) (v : Value) (l : List (List UInt8)) (wr : World) : Prop :=
  Below w.heap.size w wr ∧ wr.ownsRow w.heap.size 9 1 v l.length (labV l) ∧ getF b at0 at0 0 [] = getF b at_ begin_ next l ∧ begin_ ≤ at0 ∧ at_ ≤ b.length ∧ wireL l ≤ 255 ∧ gk = begin_ * 1000 + (1000 - wireL l) + 1
theorem label_mid {W : World} {s : List UInt8} (h : s.length < 1000) : Calls Try.prog 21 #[.string ⟨s.toArray⟩] W fun e w' => e = .returned (.int .i64 (labelE s)) ∧ W = w' :=
  rlabel_any ⟨s.toArray⟩ W (by show s.toArray.size ≤ _; simp only [List.size_toArray]; omega)
theorem lower_mid {W : World} {s : List UInt8} (h : s.length < 1000) : Calls Try.prog 17 #[.string ⟨s.toArray⟩] W fun e w' => e = .returned (.string ⟨(lowL s).toArray⟩) ∧ Below W.heap.size W w' :=
  rlower_any ⟨s.toArray⟩ W (by show s.toArray.size ≤ _; simp only [List.size_toArray]; omega)

theorem str_one (s : ByteArray) : ∀ u ∈ [Value.string s], u.oneCell' = true := by
  intro u hu
  simp at hu
  subst hu
  rfl
theorem rwire_mid {l : List (List UInt8)} {lm : List UInt8} {A : Option Addr} {c : Nat} {w : World} (h : RowV w A (labV l ++ [.string ⟨lm.toArray⟩])) (hl : wireL (l ++ [lm]) < 1099511627776) :
    Calls Try.prog 22 #[.slice A (l.length + 1) c] w fun e w' => e = .returned (.int .i64 (wireL (l ++ [lm]) : Nat)) ∧ w' = w := by
  rw [← labV_snoc] at h
  have hc := rwire_any (l ++ [lm]) A c w h hl
  rwa [List.length_append] at hc

set_option maxRecDepth 100000 in
set_option maxHeartbeats 8000000 in
theorem rget_at (A : Option Addr) (cb : Nat) (b : List UInt8) (at0 : Nat) (w : World) (hr : RowV w A (bytesV b)) (hcb : b.length ≤ cb) (hA : ∀ a, A = some a → a.spot = none) (hb : b.length < 1099511627776) (ha : at0 < b.length) :
    Calls Try.prog 9 #[.slice A b.length cb, .int .i64 (at0 : Int)] w (GotIt w (getF b at0 at0 0 [])) := by
  have HR := Lib.hid hr
  obtain ⟨i0, hi, hz0, hz1, hz2⟩ := info_parts str_info
  have HL0 : Hid (RefLoop b at0 w (at0 * 1000 + (1000 - wireL []) + 1) at0 at0 0 (.slice none 0 0) [] w) := Lib.hid ⟨Below.refl _ _, own_nil _ _ _ _, rfl, Nat.le_refl _, by omega, by simp [wireL], rfl⟩
  have t0 : ((at0 : Int) < 0) = False := by simp
  have t1 : ((b.length : Int) ≤ (at0 : Int)) = False := by simp; omega
  clear hr hA
  go_enter Try.func9, Try.ntmps9
  go_wp2_with fail
  go_loopg [1, 7, 8, 9] (at0 * 1000 + (1000 - wireL []) + 1) (fun gk sat sl sbe snx wr => ∃ (at_ begin_ next : Nat) (l : List (List UInt8)), sat = .int .i64 (at_ : Int) ∧ sbe = .int .i64 (begin_ : Int) ∧ snx = .int .i64 (next : Int) ∧ Hid (RefLoop b at0 w gk at_ begin_ next sl l wr))
  case atStart => exact ⟨at0, at0, 0, [], rfl, rfl, rfl, HL0⟩
  case round =>
    obtain ⟨at_, begin_, next, l, rfl, rfl, rfl, hloop⟩ := hrel
    obtain ⟨hbw, hown, hF, hbe, hat, hwl, hgk⟩ := hloop.out
    have hrw : RowV wr A (bytesV b) := HR.out.below hbw
    have hbw0 := hbw.size
    by_cases hin : at_ < b.length
    · obtain ⟨ba, off, rfl, x0⟩ := hrw.byte hin
      obtain ⟨n, hn⟩ : ∃ n, n = b[at_].toNat := ⟨_, rfl⟩
      have hn256 : n < 256 := by
        have := byte_range b[at_]
        omega
      rw [← hn] at x0
      by_cases n0 : n = 0
      · subst n0
        obtain ⟨A', c', hv, hr2⟩ := own_rowT hown
        have hres := hF.trans (getF_end hin (by omega))
        by_cases hz : next = 0
        · rw [if_pos hz] at hres
          have HG : Hid (GotIt w (getF b at0 at0 0 []) (.returned (.tuple #[.slice A' l.length c', .int .i64 ((at_ + 1 : Nat) : Int), .int .i64 0])) wr) := Lib.hid (by
            rw [hres]
            exact ⟨A', c', rfl, hr2, hbw⟩)
          subst hz
          subst hv
          clear hloop hown hF hrw hn hr2 hres
          go_wp2_with fail
          go_ret3
          exact HG.out
        · rw [if_neg hz] at hres
          have HG : Hid (GotIt w (getF b at0 at0 0 []) (.returned (.tuple #[.slice A' l.length c', .int .i64 (next : Int), .int .i64 0])) wr) := Lib.hid (by
            rw [hres]
            exact ⟨A', c', rfl, hr2, hbw⟩)
          have hzi : ((next : Int) == 0) = false := by rw [beq_eq_false_iff_ne]; omega
          subst hv
          clear hloop hown hF hrw hn hr2 hres
          go_wp2_with fail
          go_ret3
          exact HG.out
      · by_cases n192 : 192 ≤ n
        · by_cases h2 : at_ + 1 < b.length
          · obtain ⟨ba', off', e', x1⟩ := hrw.byte h2
            cases e'
            have y1 := byte_range b[at_ + 1]
            obtain ⟨m, hm⟩ : ∃ m, m = b[at_ + 1].toNat := ⟨_, rfl⟩
            rw [← hm] at x1 y1
            obtain ⟨to, hto⟩ : ∃ to, to = (n - 192) * 256 + m := ⟨_, rfl⟩
            have htoi : ((n : Int) - 192) * 256 + (m : Int) = (to : Int) := by omega
            by_cases h3 : to < begin_
            · have hnx := hF.trans (getF_to hin (by omega) h2 (show (b[at_].toNat - 192) * 256 + b[at_ + 1].toNat = to by rw [← hn, ← hm]; omega) h3)
              by_cases hz : next = 0
              · rw [if_pos hz] at hnx
                have HN : Hid (RefLoop b at0 w (to * 1000 + (1000 - wireL l) + 1) to to (at_ + 2) u7 l wr) := Lib.hid ⟨hbw, hown, hnx, by omega, by omega, hwl, rfl⟩
                subst hz
                clear hloop hown hF hrw hn hm hto hnx
                go_wp2_with fail
                go_roundg (to * 1000 + (1000 - wireL l) + 1)
                case measure => omega
                case rel => exact ⟨to, to, at_ + 2, l, rfl, rfl, by go_num, HN⟩
              · rw [if_neg hz] at hnx
                have HN : Hid (RefLoop b at0 w (to * 1000 + (1000 - wireL l) + 1) to to next u7 l wr) := Lib.hid ⟨hbw, hown, hnx, by omega, by omega, hwl, rfl⟩
                have hzi : ((next : Int) == 0) = false := by rw [beq_eq_false_iff_ne]; omega
                clear hloop hown hF hrw hn hm hto hnx
                go_wp2_with fail
                go_roundg (to * 1000 + (1000 - wireL l) + 1)
                case measure => omega
                case rel => exact ⟨to, to, next, l, rfl, rfl, rfl, HN⟩
            · have HN := Lib.hid (GotIt.err (hF.trans (getF_far hin (by omega) h2 (by rw [← hn, ← hm]; omega))) hbw)
              clear hloop hown hF hrw hn hm hto
              go_wp2_with fail
              go_ret3
              exact HN.out
          · have HN := Lib.hid (GotIt.err (hF.trans (getF_cut hin (by omega) h2)) hbw)
            clear hloop hown hF hrw hn
            go_wp2_with fail
            go_ret3
            exact HN.out
        · by_cases n64 : 64 ≤ n
          · have HN := Lib.hid (GotIt.err (hF.trans (getF_form hin (by omega) (by omega))) hbw)
            clear hloop hown hF hrw hn
            go_wp2_with fail
            go_ret3
            exact HN.out
          · by_cases h2 : at_ + 1 + n ≤ b.length
            · have hml := midL_length h2
              have hcut := fun W => run_cut_mid (P := Try.prog) Try.underlying22 Try.sizeOf5 (some ⟨ba, off, none⟩) b.length cb .i64 .i64 ((at_ : Int) + 1) ((at_ : Int) + 1 + n) (by omega) (by omega) (by omega) W
              have htx : (convert 22 9 (.slice (cutA (some ⟨ba, off, none⟩) cb (at_ + 1) 1) (midL b at_ n).length (cb - (at_ + 1)))).run Try.prog wr = .ok (.string ⟨(midL b at_ n).toArray⟩) wr :=
                run_text (P := Try.prog) Try.underlying22 Try.underlying5 wr _ (midL b at_ n) _ (mid_row hrw hcb) (fun a e => by
                  unfold cutA at e
                  split at e
                  · cases e
                    rfl
                  · cases e
                    simp only [Addr.add]
                    split <;> rfl) 9 Try.underlying9
              rw [show ((at_ : Int) + 1).toNat = at_ + 1 by omega, show ((at_ : Int) + 1 + n).toNat - (at_ + 1) = n by omega] at hcut
              rw [hml] at htx
              have hlab := fun W => label_mid (W := W) (s := midL b at_ n) (by omega)
              have hlow := fun W => lower_mid (W := W) (s := midL b at_ n) (by omega)
              obtain ⟨le, hle⟩ : ∃ le, le = labelE (midL b at_ n) := ⟨_, rfl⟩
              simp only [← hle] at hlab
              obtain ⟨sm, hsm⟩ : ∃ sm, sm = ByteArray.mk (midL b at_ n).toArray := ⟨_, rfl⟩
              simp only [← hsm] at htx hlab hlow
              obtain ⟨Am, hAm⟩ : ∃ Am, Am = cutA (some ⟨ba, off, none⟩) cb (at_ + 1) 1 := ⟨_, rfl⟩
              simp only [← hAm] at htx hcut
              have HLAB := Lib.hid hlab
              have HLOW := Lib.hid hlow
              by_cases h3 : le = 0
              · have hlml : (lowL (midL b at_ n)).length = n := by rw [lowL_length, hml]
                have hws : wireL (l ++ [lowL (midL b at_ n)]) = wireL l + (n + 1) := by rw [wireL_snoc, hlml]
                have hll := wireL_len l
                have hone : 255 < wireL (l ++ [lowL (midL b at_ n)]) → getF b at0 at0 0 [] = ([], 0, 21) := fun h => hF.trans (getF_long hin (by omega) (by omega) (by omega) (by rw [← hn]; exact hle ▸ h3) (by rw [← hn]; exact Nat.not_le.2 h))
                have htwo : ¬ 255 < wireL (l ++ [lowL (midL b at_ n)]) → getF b at0 at0 0 [] = getF b (at_ + 1 + n) begin_ next (l ++ [lowL (midL b at_ n)]) := fun h => by
                  have := hF.trans (getF_on hin (by omega) (by omega) (by omega) (by rw [← hn]; exact hle ▸ h3) (by rw [← hn]; exact Nat.le_of_not_lt h))
                  rw [← hn] at this
                  exact this
                obtain ⟨lm, hlm⟩ : ∃ lm, lm = lowL (midL b at_ n) := ⟨_, rfl⟩
                simp only [← hlm] at HLOW hws hone htwo
                obtain ⟨WL, hWL⟩ : ∃ WL, WL = wireL (l ++ [lm]) := ⟨_, rfl⟩
                rw [← hWL] at hws hone htwo
                have hwl0 : wireL (l ++ [lm]) < 1099511627776 := by omega
                have HONE := Lib.hid hone
                have HTWO := Lib.hid htwo
                have HWL := Lib.hid hWL
                have HOWN := Lib.hid hown
                have HBW := Lib.hid hbw
                subst h3
                clear hloop hown hF hrw hn hlab hlow hle hsm hAm hone htwo hWL hlm hlml hml hbw
                go_wp2_with fail
                refine (HLAB.out _).mono ?_
                rintro e w2 ⟨rfl, rfl⟩
                go_wp2_with fail
                refine (HLOW.out _).mono ?_
                rintro e w3 ⟨rfl, hb3⟩
                have HO3 := Lib.hid (own_kept (Kept.below hb3 (fun _ => False)) HOWN.out fun _ _ => id)
                have HB3 := Lib.hid (below_chain HBW.out hb3)
                have hsz3 := HB3.out.size
                have hsa : ∀ o, w.heap.size ≤ (w3.alloc o).heap.size := fun o => by
                  simp
                  omega
                clear hb3
                go_wp2_with (at_builtin; refine wpList_append_own_at _ rfl _ _ 24 rfl w.heap.size 9 i0 (.string ByteArray.empty) 1 16 Try.underlying24 hi hz0 hz1 hz2 rfl (by decide) u7 l.length (labV l) rfl (HO3.out.alloc _) ⟨w3.heap.size, 0, none⟩ 1 1 [.string ⟨lm.toArray⟩] rfl rfl (cell_one_new _ _ _) (str_one _) (by unfold maxLen; omega) (by omega) (hsa _) ?_; intro v4 w4 hown4 hg4 _ _; have hb4 : Below w.heap.size w w4 := own_below (HO3.out.alloc _) (HB3.out.alloc HB3.out.size _) (hsa _) hg4; have HO4 := Lib.hid hown4; have HB4 := Lib.hid hb4; obtain ⟨A4, c4, hv4, hr4⟩ := own_row hown4; have HR4 := Lib.hid hr4; subst hv4; clear hown4 hg4 hb4 hr4)
                refine (rwire_mid HR4.out hwl0).mono ?_
                rintro e w5 ⟨rfl, rfl⟩
                rw [← HWL.out]
                by_cases hW : 255 < WL
                · go_wp2_with fail
                  go_ret3
                  exact GotIt.err (HONE.out hW) HB4.out
                · have HN : Hid (RefLoop b at0 w (begin_ * 1000 + (1000 - WL) + 1) (at_ + 1 + n) begin_ next (.slice A4 (l.length + 1) c4) (l ++ [lm]) w5) := Lib.hid ⟨HB4.out, by
                    rw [labV_snoc, List.length_append]
                    exact HO4.out, HTWO.out hW, hbe, h2, by rw [← HWL.out]; omega, by rw [← HWL.out]⟩
                  go_wp2_with fail
                  go_roundg (begin_ * 1000 + (1000 - WL) + 1)
                  case measure => omega
                  case rel => exact ⟨at_ + 1 + n, begin_, next, l ++ [lm], by go_num, rfl, rfl, HN⟩
              · have t3 : (le != 0) = true := by rwa [bne_iff_ne]
                have HN := Lib.hid (GotIt.err (hF.trans (getF_no hin (by omega) (by omega) (by omega) (by rw [← hn]; exact hle ▸ h3))) hbw)
                clear hloop hown hF hrw hn hlab hlow hle hsm hAm h3
                go_wp2_with fail
                refine (HLAB.out _).mono ?_
                rintro e w2 ⟨rfl, rfl⟩
                go_wp2_with fail
                go_ret3
                exact HN.out
            · have HN := Lib.hid (GotIt.err (hF.trans (getF_short hin (by omega) (by omega) (by omega))) hbw)
              clear hloop hown hF hrw hn
              go_wp2_with fail
              go_ret3
              exact HN.out
    · have HN := Lib.hid (GotIt.err (hF.trans (getF_out hin)) hbw)
      clear hloop hown hF hrw
      go_wp2_with fail
      go_ret3
      exact HN.out

end Go.Proofs.Ytfnpjcfaabbejaa
