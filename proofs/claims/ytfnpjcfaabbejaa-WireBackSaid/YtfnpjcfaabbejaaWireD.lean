/-
  The walk of wire's Get: at any bytes and any place it answers what the plain law says. Bytes fewer than 2^40.
-/
import Derived.Test.YtfnpjcfaabbejaaWireC
import Derived.Deep.LoopGhost
import Derived.OwnWalk
namespace Go.Proofs.Ytfnpjcfaabbejaa
open Go.RowKit Go.Foldp Go.Colm Go.Wirep
set_option linter.unusedVariables false

/-- What Get's loop holds: gk rounds at most are to come. -/
def GetLoop (A : Option Addr) (cb : Nat) (b : List UInt8) (at0 : Nat) (w : World) (gk : Nat) (er : Int) (wr : World) : Prop :=
  Below w.heap.size w wr ∧ ((er = 0 ∧ ∃ at_ begin_ next v l, GetAt w.heap.size w.heap.size A cb b at_ begin_ next v l wr ∧ getF b at0 at0 0 [] = getF b at_ begin_ next l ∧ begin_ ≤ at0 ∧ at_ ≤ b.length ∧ wireL l ≤ 255 ∧ gk = begin_ * 1000 + (1000 - wireL l) + 1) ∨
    (er ≠ 0 ∧ gk = 0 ∧ getF b at0 at0 0 [] = ([], 0, er)))
theorem GetLoop.fell {A : Option Addr} {cb : Nat} {b : List UInt8} {at0 : Nat} {w wr w2 : World} {er : Int} (hb : Below w.heap.size w wr) (hk : Kept (fun j => w.heap.size ≤ j) wr w2) (he : er ≠ 0) (h : getF b at0 at0 0 [] = ([], 0, er)) : GetLoop A cb b at0 w 0 er w2 :=
  ⟨hb.trans (hk.to_below hb.size fun k hk h => by omega), .inr ⟨he, rfl, h⟩⟩
theorem GetLoop.on {A : Option Addr} {cb : Nat} {b : List UInt8} {at0 at_ begin_ next : Nat} {v : Value} {l : List (List UInt8)} {w wr w2 : World} (hb : Below w.heap.size w wr) (hk : Kept (fun j => w.heap.size ≤ j) wr w2) (hg : GetAt w.heap.size w.heap.size A cb b at_ begin_ next v l w2)
    (h : getF b at0 at0 0 [] = getF b at_ begin_ next l) (h1 : begin_ ≤ at0) (h2 : at_ ≤ b.length) (h3 : wireL l ≤ 255) : GetLoop A cb b at0 w (begin_ * 1000 + (1000 - wireL l) + 1) 0 w2 :=
  ⟨hb.trans (hk.to_below hb.size fun k hk h => by omega), .inl ⟨rfl, _, _, _, _, _, hg, h, h1, h2, h3, rfl⟩⟩
/-- What Get answers. -/
def GotIt (w : World) (r : Got) (e : Ending) (w' : World) : Prop :=
  ∃ A' c', e = .returned (.tuple #[.slice A' r.1.length c', .int .i64 (r.2.1 : Int), .int .i64 r.2.2]) ∧ RowT w' 9 A' (labV r.1) ∧ Below w.heap.size w w'
theorem GotIt.err {w w' : World} {er : Int} {r : Got} (h : r = ([], 0, er)) (hb : Below w.heap.size w w') : GotIt w r (.returned (.tuple #[.slice none 0 0, .int .i64 0, .int .i64 er])) w' := by
  subst h
  exact ⟨none, 0, rfl, RowT.nil _ _ _, hb⟩

set_option maxRecDepth 100000 in
set_option maxHeartbeats 8000000 in
theorem get_at (A : Option Addr) (cb : Nat) (b : List UInt8) (at0 : Nat) (w : World) (hr : RowV w A (bytesV b)) (hcb : b.length ≤ cb) (hA : ∀ a, A = some a → a.spot = none) (hb : b.length < 1099511627776) (ha : at0 < b.length) :
    Calls Try.prog 8 #[.slice A b.length cb, .int .i64 (at0 : Int)] w (GotIt w (getF b at0 at0 0 [])) := by
  have HR := Lib.hid hr
  have HAS := Lib.hid hA
  obtain ⟨w1, hw1⟩ : ∃ w1, w1 = w.alloc (.cells #[.slice A b.length cb, .int .i64 (at0 : Int), .int .i64 (at0 : Int), .int .i64 0, .slice none 0 0] 49) := ⟨_, rfl⟩
  have hg0 : GetAt w.heap.size w.heap.size A cb b at0 at0 0 (.slice none 0 0) [] w1 := by
    rw [hw1]
    exact ⟨Whole.new w _ _, own_nil _ _ _ _⟩
  have hb1 : Below w.heap.size w w1 := by
    rw [hw1]
    exact (Below.refl _ w).alloc (Nat.le_refl _) _
  have HL0 := Lib.hid (GetLoop.on (at0 := at0) (Below.refl w.heap.size w) (Kept.below hb1 _) hg0 rfl (Nat.le_refl _) (by omega) (by simp [wireL]))
  have HW1 := Lib.hid hw1
  have t0 : ((at0 : Int) < 0) = False := by simp
  have t1 : ((b.length : Int) ≤ (at0 : Int)) = False := by simp; omega
  clear hr hA hg0 hb1 hw1
  go_enter Try.func8, Try.ntmps8
  go_wp2_with fail
  go_step3
  go_wp2_with fail
  go_step3
  go_wp2_with fail
  rw [← HW1.out]
  go_loopg [8] (at0 * 1000 + (1000 - wireL []) + 1) (fun gk e wr => ∃ er : Int, e = .int .i64 er ∧ Hid (GetLoop A cb b at0 w gk er wr))
  case atStart => exact ⟨0, rfl, HL0⟩
  case round =>
    obtain ⟨er, rfl, hloop⟩ := hrel
    obtain ⟨hbw, ⟨rfl, at_, begin_, next, v, l, hg, hF, hbe, hat, hwl, hgk⟩ | ⟨hne, hgk, hF⟩⟩ := hloop.out
    · have c1 : wr.cell? ⟨w.heap.size, 1, none⟩ = some (.int .i64 (at_ : Int)) := hg.1.cell 1
      have hown : ∀ k, v.ownBlock = some k → w.heap.size ≤ k := by
        intro k hk
        rcases hg.2.2 with ⟨rfl, _⟩ | ⟨g, cap, cur, rfl, h, _⟩
        · simp [Value.ownBlock] at hk
        · have : g = k := by simpa [Value.ownBlock] using hk
          omega
      have hrw : RowV wr A (bytesV b) := HR.out.below hbw
      by_cases hin : at_ < b.length
      · obtain ⟨ba, off, rfl, x0⟩ := hrw.byte hin
        obtain ⟨n, hn⟩ : ∃ n, n = b[at_].toNat := ⟨_, rfl⟩
        have hn256 : n < 256 := by
          have := byte_range b[at_]
          omega
        rw [← hn] at x0
        have hlt : at_ < 1099511627776 := by omega
        have hbw0 := hbw.size
        have hmono : ∀ k, k < wr.heap.size → k = w.heap.size → w.heap.size ≤ k := fun k _ h => by omega
        by_cases n0 : n = 0
        · obtain ⟨nx, hnx⟩ : ∃ nx, nx = (if next = 0 then at_ + 1 else next) := ⟨_, rfl⟩
          have hres := hF.trans (getF_end hin (by omega))
          rw [← hnx] at hres
          have hbh := behind_any w.heap.size w.heap.size _ cb b at_ begin_ next 1 v l wr hg hlt (by omega)
          rw [← hnx] at hbh
          obtain ⟨A', c', hv⟩ : ∃ A' c', v = .slice A' l.length c' := by
            obtain ⟨A', c', e, _⟩ := own_row hg.2
            exact ⟨A', c', e⟩
          subst hv
          have HRES := Lib.hid hres
          have HBH := Lib.hid hbh
          have HBW := Lib.hid hbw
          subst n0
          clear hnx hres hbh hloop hown hF hg hrw hbw hn
          go_wp2_with fail
          refine HBH.out.mono ?_
          rintro e w2 ⟨rfl, hg2, hk2⟩
          have d3 : w2.cell? ⟨w.heap.size, 3, none⟩ = some (.int .i64 (nx : Int)) := hg2.1.cell 3
          have d4 : w2.cell? ⟨w.heap.size, 4, none⟩ = some (.slice A' l.length c') := hg2.1.cell 4
          have HG2 := Lib.hid hg2
          have HK2 := Lib.hid hk2
          clear hg2 hk2
          go_wp2_with fail
          go_quiet (fail)
          go_wp2_with fail
          rw [Exit.noGoto_ret]
          go_ret3
          rw [HRES.out]
          obtain ⟨A2, c2, e2, hr2⟩ := own_rowT HG2.out.2
          simp only [Value.slice.injEq, true_and] at e2
          obtain ⟨rfl, rfl⟩ := e2
          exact ⟨A', c', rfl, hr2.drewN _, below_drewN (HBW.out.trans (HK2.out.to_below HBW.out.size fun k hk h => by omega)) _⟩
        · by_cases n192 : 192 ≤ n
          · by_cases h2 : at_ + 1 < b.length
            · obtain ⟨to, hto⟩ : ∃ to, to = (b[at_].toNat - 192) * 256 + b[at_ + 1].toNat := ⟨_, rfl⟩
              by_cases h3 : to < begin_
              · have hc := follow_to w.heap.size w.heap.size _ cb b at_ begin_ next v l wr hg hrw hb (by omega) hin (by omega) h2 to hto.symm h3
                have hnx := hF.trans (getF_to hin (by omega) h2 hto.symm h3)
                have HC := Lib.hid hc
                have HNX := Lib.hid hnx
                have HBW := Lib.hid hbw
                clear hc hnx hloop hown hF hg hrw hbw hto hn
                go_wp2_with fail
                refine HC.out.mono ?_
                rintro e w2 ⟨rfl, hg2, hk2⟩
                have HN := Lib.hid (GetLoop.on (at0 := at0) HBW.out (hk2.mono hmono) hg2 HNX.out (by omega) (by omega) hwl)
                clear hg2 hk2
                go_wp2_with fail
                go_roundg (to * 1000 + (1000 - wireL l) + 1)
                case measure => omega
                case rel => exact ⟨0, rfl, HN⟩
              · have hc := follow_far w.heap.size w.heap.size _ cb b at_ begin_ next v l wr hg hrw hb (by omega) hin (by omega) h2 (by omega)
                have hnx := hF.trans (getF_far hin (by omega) h2 (by omega))
                have HC := Lib.hid hc
                have HNX := Lib.hid hnx
                have HBW := Lib.hid hbw
                clear hc hnx hloop hown hF hg hrw hbw hto hn
                go_wp2_with fail
                refine HC.out.mono ?_
                rintro e w2 ⟨rfl, hk2⟩
                have HN := Lib.hid (GetLoop.fell (A := some ⟨ba, off, none⟩) (cb := cb) HBW.out (hk2.mono hmono) (show (4 : Int) ≠ 0 by decide) HNX.out)
                clear hk2
                go_wp2_with fail
                go_roundg 0
                case measure => omega
                case rel => exact ⟨4, rfl, HN⟩
            · have hc := follow_short w.heap.size w.heap.size _ cb b at_ begin_ next v l wr hg hb hin h2
              have hnx := hF.trans (getF_cut hin (by omega) h2)
              have HC := Lib.hid hc
              have HNX := Lib.hid hnx
              have HBW := Lib.hid hbw
              clear hc hnx hloop hown hF hg hrw hbw hn
              go_wp2_with fail
              refine HC.out.mono ?_
              rintro e w2 ⟨rfl, hk2⟩
              have HN := Lib.hid (GetLoop.fell (A := some ⟨ba, off, none⟩) (cb := cb) HBW.out (hk2.mono hmono) (show (3 : Int) ≠ 0 by decide) HNX.out)
              clear hk2
              go_wp2_with fail
              go_roundg 0
              case measure => omega
              case rel => exact ⟨3, rfl, HN⟩
          · by_cases n64 : 64 ≤ n
            · have HN := Lib.hid (GetLoop.fell (A := some ⟨ba, off, none⟩) (cb := cb) hbw (Kept.refl _ wr) (show (4 : Int) ≠ 0 by decide) (hF.trans (getF_form hin (by omega) (by omega))))
              clear hloop hown hF hg hrw hbw hn
              go_wp2_with fail
              go_roundg 0
              case measure => omega
              case rel => exact ⟨4, rfl, HN⟩
            · by_cases h2 : at_ + 1 + n ≤ b.length
              · by_cases h3 : labelE (midL b at_ n) = 0
                · have hc := take_yes w.heap.size w.heap.size _ cb b at_ begin_ next n v l wr hg hrw hcb (fun a e => by cases e; rfl) hb hin (by omega) h2 h3 (Nat.le_refl _) (by omega)
                  have hmono2 : ∀ k, k < wr.heap.size → (k = w.heap.size ∨ v.ownBlock = some k) → w.heap.size ≤ k := by
                    rintro k _ (h | h)
                    · omega
                    · exact hown k h
                  by_cases hW : 255 < wireL (l ++ [lowL (midL b at_ n)])
                  · simp only [if_pos hW] at hc
                    have hnx := hF.trans (getF_long hin (by omega) (by omega) (by omega) (by rw [← hn]; exact h3) (by rw [← hn]; exact Nat.not_le.2 hW))
                    have HC := Lib.hid hc
                    have HNX := Lib.hid hnx
                    have HBW := Lib.hid hbw
                    clear hc hnx hloop hown hF hg hrw hbw hn h3 hW
                    go_wp2_with fail
                    refine HC.out.mono ?_
                    rintro e w2 ⟨rfl, hk2, _⟩
                    have HN := Lib.hid (GetLoop.fell (A := some ⟨ba, off, none⟩) (cb := cb) HBW.out (hk2.mono hmono2) (show (21 : Int) ≠ 0 by decide) HNX.out)
                    clear hk2
                    go_wp2_with fail
                    go_roundg 0
                    case measure => omega
                    case rel => exact ⟨21, rfl, HN⟩
                  · simp only [if_neg hW] at hc
                    have hnx := hF.trans (getF_on hin (by omega) (by omega) (by omega) (by rw [← hn]; exact h3) (by rw [← hn]; exact Nat.le_of_not_lt hW))
                    rw [← hn] at hnx
                    have hws := wireL_snoc l (lowL (midL b at_ n))
                    obtain ⟨l2, hl2⟩ : ∃ l2, l2 = l ++ [lowL (midL b at_ n)] := ⟨_, rfl⟩
                    have hl2' : l2 = l ++ [lowL ((b.drop (at_ + 1)).take n)] := hl2
                    rw [← hl2] at hc hws hW
                    rw [← hl2'] at hnx
                    have HC := Lib.hid hc
                    have HNX := Lib.hid hnx
                    have HBW := Lib.hid hbw
                    clear hc hnx hloop hown hF hg hrw hbw hn h3 hl2 hl2'
                    go_wp2_with fail
                    refine HC.out.mono ?_
                    rintro e w2 ⟨rfl, hk2, v2, hg2, _⟩
                    have HN := Lib.hid (GetLoop.on (at0 := at0) HBW.out (hk2.mono hmono2) hg2 HNX.out hbe h2 (by omega))
                    clear hk2 hg2
                    go_wp2_with fail
                    go_roundg (begin_ * 1000 + (1000 - wireL l2) + 1)
                    case measure => omega
                    case rel => exact ⟨0, rfl, HN⟩
                · have hc := take_no w.heap.size w.heap.size _ cb b at_ begin_ next n v l wr hg hrw hcb (fun a e => by cases e; rfl) hb hin (by omega) h2 h3
                  have hnx := hF.trans (getF_no hin (by omega) (by omega) (by omega) (by rw [← hn]; exact h3))
                  have HC := Lib.hid hc
                  have HNX := Lib.hid hnx
                  have HBW := Lib.hid hbw
                  clear hc hnx hloop hown hF hg hrw hbw hn h3
                  go_wp2_with fail
                  refine HC.out.mono ?_
                  rintro e w2 ⟨rfl, hk2⟩
                  have HN := Lib.hid (GetLoop.fell (A := some ⟨ba, off, none⟩) (cb := cb) HBW.out (Kept.below hk2 _) (show (4 : Int) ≠ 0 by decide) HNX.out)
                  clear hk2
                  go_wp2_with fail
                  go_roundg 0
                  case measure => omega
                  case rel => exact ⟨4, rfl, HN⟩
              · have hc := take_short w.heap.size w.heap.size _ cb b at_ begin_ next n v l wr hg hb hin (by omega) h2
                have hnx := hF.trans (getF_short hin (by omega) (by omega) (by omega))
                have HC := Lib.hid hc
                have HNX := Lib.hid hnx
                have HBW := Lib.hid hbw
                clear hc hnx hloop hown hF hg hrw hbw hn
                go_wp2_with fail
                refine HC.out.mono ?_
                rintro e w2 ⟨rfl, hk2⟩
                have HN := Lib.hid (GetLoop.fell (A := some ⟨ba, off, none⟩) (cb := cb) HBW.out (hk2.mono hmono) (show (3 : Int) ≠ 0 by decide) HNX.out)
                clear hk2
                go_wp2_with fail
                go_roundg 0
                case measure => omega
                case rel => exact ⟨3, rfl, HN⟩
      · have HN := Lib.hid (GetLoop.fell (A := A) (cb := cb) hbw (Kept.refl _ wr) (show (3 : Int) ≠ 0 by decide) (hF.trans (getF_out hin)))
        clear hg hF hrw hloop hown
        go_wp2_with fail
        go_roundg 0
        case measure => omega
        case rel => exact ⟨3, rfl, HN⟩
    · have t1 : (er == 0) = false := by rw [beq_eq_false_iff_ne]; exact hne
      have t2 : (er != 0) = true := by rw [bne_iff_ne]; exact hne
      clear hloop
      have HN := Lib.hid (GotIt.err hF hbw)
      clear hF
      go_wp2_with fail
      rw [Exit.noGoto_ret]
      go_ret3
      exact HN.out

end Go.Proofs.Ytfnpjcfaabbejaa
