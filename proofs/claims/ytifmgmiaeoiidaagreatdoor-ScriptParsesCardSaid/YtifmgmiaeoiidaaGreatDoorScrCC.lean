/-
  The walks of the reference's steps and Parse (layer script), and of the law ScriptParses. Fewer than 2^31 bytes, or the law's own bound.
-/
import Derived.Test.YtifmgmiaeoiidaaGreatDoorScrBK
import Derived.Test.YtifmgmiaeoiidaaGreatDoorScrBL
import Derived.Test.YtifmgmiaeoiidaaGreatDoorScrBM
import Derived.Deep.CutBlock
import Derived.Deep.DeepCutAuto
import Derived.Test.YtifmgmiaeoiidaaGreatDoorScrAE
namespace Go.Proofs.YtifmgmiaeoiidaaGreatDoor
open Go.RowKit Go.Colm Go.Scrp
set_option linter.unusedVariables false

theorem qstep_any {L : List (List UInt8)} {f : Nat} (H : QReadOK L f) (deep k rb : Nat) (LA : Option Addr) (Lc : Nat) (ws : List (List UInt8)) (A : Option Addr) (c : Nat) (w : World) (hrd : Whole w rb 83 (rdV LA L.length Lc k 0)) (hrow : RowN (fun j => j ≠ rb) w LA (txtV L)) (hr : RowV w A (txtV ws)) (hc : ws.length ≤ c)
    (h0 : 0 < ws.length) (hlen : ∀ x ∈ ws, x.length ≤ 2147483648) (hd1 : 1 ≤ deep) (hd20 : deep ≤ 20) (hk : k < L.length) (hf : L.length - (k + 1) < f) (hLn : L.length ≤ 4294967296) (hLs : ∀ x ∈ L, x.length ≤ 2147483648) (hwl : ws.length ≤ 4294967296) :
    Calls Tryz.prog 56 #[.pointer (some ⟨rb, 0, none⟩), .slice A ws.length c, .int .i64 (deep : Int)] w (QStepIt L f deep k rb LA Lc w ws) := by
  have h8 := kindL_le ws
  by_cases h3 : kindL ws = 3
  · exact qstep_c H deep k rb LA Lc ws A c w hrd hrow hr hc h0 hlen hd1 hd20 hk hf hLn hLs hwl h3
  by_cases h1 : kindL ws = 1 ∨ kindL ws = 5 ∨ kindL ws = 6
  · exact qstep_b H deep k rb LA Lc ws A c w hrd hrow hr hc h0 hlen hd1 hd20 hk hf hLn hLs hwl h1
  · exact qstep_a H deep k rb LA Lc ws A c w hrd hrow hr hc h0 hlen hd1 hd20 hk hf hLn hLs hwl (by omega)

theorem stepR_le {L : List (List UInt8)} {f deep k k2 : Nat} {ws : List (List UInt8)} {o : List Opd} (h : stepR L f deep k ws = .ok o k2) (hk : k < L.length) (hd : 1 ≤ deep) : k < k2 ∧ k2 ≤ L.length := by
  cases ho : opL ws with
  | none => rw [stepR_none ho] at h; cases h
  | some d =>
    by_cases h3 : d.kind = 3
    · cases hs : stp L f (deep + 1) (k + 1) [] with
      | bad b => rw [stepR_bad ho h3 hs] at h; cases h
      | ok sub k3 =>
        rw [stepR_view ho h3 hs] at h
        cases h
        have h5 := stp_ok hs (by omega) (by omega)
        have := h5.2.2 (by omega)
        omega
    · rw [stepR_one ho h3] at h
      cases h
      omega
theorem stepR_pos {L : List (List UInt8)} {f deep k b : Nat} {ws : List (List UInt8)} (h : stepR L f deep k ws = .bad b) (hk : k < L.length) (hd : 1 ≤ deep) : 0 < b := by
  cases ho : opL ws with
  | none => rw [stepR_none ho] at h; cases h; omega
  | some d =>
    by_cases h3 : d.kind = 3
    · cases hs : stp L f (deep + 1) (k + 1) [] with
      | bad b2 =>
        rw [stepR_bad ho h3 hs] at h
        cases h
        have := (stp_bad hs (by omega) (by omega)).1
        omega
      | ok sub k3 => rw [stepR_view ho h3 hs] at h; cases h
    · rw [stepR_one ho h3] at h; cases h
/-- A wrong line was met. -/
structure BadQ (L : List (List UInt8)) (f0 deep k0 rb : Nat) (LA : Option Addr) (Lc : Nat) (w : World) (k' b : Nat) (wr : World) : Prop where
  eq : stp L f0 deep k0 [] = .bad b
  kept : Kept (fun j => j = rb) w wr
  rd : Whole wr rb 83 (rdV LA L.length Lc k' b)
  le : k' + deep ≤ L.length + 21
/-- How much is left to read. -/
def badOf (rb : Nat) (w : World) : Nat := match w.cell? ⟨rb, 2, none⟩ with | some (.int _ q) => q.toNat | _ => 0
theorem badOf_eq {rb : Nat} {w : World} {LA : Option Addr} {n c k b : Nat} (h : Whole w rb 83 (rdV LA n c k b)) : badOf rb w = b := by
  have := h.cell 2
  unfold badOf
  rw [this]
  simp [rdV]
theorem atQ_eq {rb : Nat} {w : World} {LA : Option Addr} {n c k b : Nat} (h : Whole w rb 83 (rdV LA n c k b)) : atOf rb w = k := by
  have := h.cell 1
  unfold atOf
  rw [this]
  simp [rdV]
def leftQ (L : List (List UInt8)) (rb : Nat) (w : World) : Nat := if badOf rb w = 0 then L.length - atOf rb w + 1 else 0
theorem leftQ_ok {L : List (List UInt8)} {rb : Nat} {w : World} {LA : Option Addr} {n c k : Nat} (h : Whole w rb 83 (rdV LA n c k 0)) : leftQ L rb w = L.length - k + 1 := by
  unfold leftQ
  rw [badOf_eq h, atQ_eq h]
  rfl
theorem leftQ_bad {L : List (List UInt8)} {rb : Nat} {w : World} {LA : Option Addr} {n c k b : Nat} (h : Whole w rb 83 (rdV LA n c k b)) (hb : 0 < b) : leftQ L rb w = 0 := by
  unfold leftQ
  rw [badOf_eq h, if_neg (by omega)]

theorem QL.bad {L : List (List UInt8)} {f0 deep k0 rb : Nat} {LA : Option Addr} {Lc : Nat} {w : World} {f k k' b : Nat} {v : Value} {out : List Opd} {wr W w3 : World} {cs : Array Value} {vs : List Value}
    (h : QL L f0 deep k0 rb LA Lc w (f + 1) k v out wr) (heq : stp L (f + 1) deep k out = .bad b) (hW : Kept (fun j => j = rb) wr W) (hrd : Whole W rb 83 (rdV LA L.length Lc k' b)) (hrb : rb < w.heap.size) (hle : k' + deep ≤ L.length + 21)
    (hvs : wr.ownsRow w.heap.size 48 9 v out.length vs) (hg : (W.alloc (.cells cs 48)).grownBy w3 v.ownBlock) : BadQ L f0 deep k0 rb LA Lc w k' b w3 := by
  have hvf : ∀ j, v.ownBlock = some j → w.heap.size ≤ j := fun j e => own_from hvs e
  have hsz := hW.size
  have hsw := h.kept.size
  have hka : Kept (fun _ => False) W (W.alloc (.cells cs 48)) := (Kept.refl _ _).alloc _
  have hk3 := Kept.grown hg
  have hall : Kept (fun j => j = rb ∨ v.ownBlock = some j) wr w3 := ((hW.mono fun _ _ e => .inl e).trans (hka.mono fun _ _ e => e.elim)).trans (hk3.mono fun _ _ e => .inr e)
  refine ⟨h.eq.trans heq, ?_, ?_, hle⟩
  · exact ⟨hall.os.trans h.kept.os, hall.tape.trans h.kept.tape, hall.output.trans h.kept.output, Nat.le_trans h.kept.size hall.size, fun j hj hjr => (hall.block j (by omega) (by
      rintro (e | e)
      · exact hjr e
      · have := hvf j e
        omega)).trans (h.kept.block j hj hjr)⟩
  · exact hk3.whole (hka.whole hrd id) (fun e => by
      have := hvf rb e
      omega)
theorem own_slice {w : World} {base : Nat} {T : TypeId} {size : Nat} {v : Value} {n : Nat} {vs : List Value} (h : w.ownsRow base T size v n vs) : ∃ A c, v = .slice A n c := by
  rcases h.2 with ⟨rfl, h0⟩ | ⟨g, cap, cur, rfl, _⟩
  · exact ⟨none, 0, by rw [h0]⟩
  · exact ⟨_, _, rfl⟩

set_option maxRecDepth 100000 in
set_option maxHeartbeats 16000000 in
theorem qread_step {L : List (List UInt8)} {f0 : Nat} (H : ∀ f < f0, QReadOK L f) : QReadOK L f0 := by
  intro deep k0 rb LA Lc w hrd hrow hd1 hd21 hk0 hf hLn hLs
  obtain ⟨i0, hi, hz0, hz1, hz2⟩ := info_parts op_info
  have HH := Lib.hid H
  have HRD := Lib.hid hrd
  have HROW := Lib.hid hrow
  have HLS := Lib.hid hLs
  have HL0 : Hid (QL L f0 deep k0 rb LA Lc w f0 k0 (.slice none 0 0) [] w) := Lib.hid ⟨rfl, ⟨hf, Nat.le_refl _⟩, hk0, Kept.refl _ _, hrd, Nat.zero_le _, ⟨[], own_nil _ _ _ _, rfl⟩⟩
  have hrbl := hrd.lt
  clear H hrd hrow hLs
  go_enter Tryz.func35, Tryz.ntmps35
  go_wp2_with fail
  go_loopw [5] (fun v wr => (∃ (f k : Nat) (out : List Opd), Hid (QL L f0 deep k0 rb LA Lc w f k v out wr)) ∨ (∃ (A : Option Addr) (n c k' b : Nat), v = .slice A n c ∧ 0 < b ∧ Hid (BadQ L f0 deep k0 rb LA Lc w k' b wr))) (fun _ wr => leftQ L rb wr)
  case atStart => exact .inl ⟨f0, k0, [], HL0⟩
  case round =>
    clear HL0
    rcases hrel with ⟨f, k, out, HL⟩ | ⟨VA, vn, vc, k', b, rfl, hb0, HBQ⟩
    rotate_left
    · have x2 : wr.cell? ⟨rb, 2, none⟩ = some (.int .i64 (b : Int)) := HBQ.out.rd.cell 2
      have t2 : ((b : Int) == 0) = false := by rw [beq_eq_false_iff_ne]; omega
      go_wp2_with fail
      go_ret
      exact QReadIt.no HBQ.out.eq HBQ.out.kept HBQ.out.rd HBQ.out.le
    · have hrd := HL.out.rd
      have hmu : leftQ L rb wr = L.length - k + 1 := leftQ_ok hrd
      have HMU := Lib.hid hmu
      obtain ⟨VA, vc, rfl⟩ := HL.out.form
      have hkle := HL.out.kle
      have hfu := HL.out.fuel
      obtain ⟨f, rfl⟩ : ∃ g, f = g + 1 := ⟨f - 1, by omega⟩
      have x2 : wr.cell? ⟨rb, 2, none⟩ = some (.int .i64 0) := hrd.cell 2
      have x1 : wr.cell? ⟨rb, 1, none⟩ = some (.int .i64 (k : Int)) := hrd.cell 1
      have x0 : wr.cell? ⟨rb, 0, none⟩ = some (.slice LA L.length Lc) := hrd.cell 0
      by_cases hend : k = L.length
      · have te : ((k : Int) == (L.length : Int)) = true := by rw [beq_iff_eq]; omega
        clear hmu hrd
        go_wp2_with fail
        go_quiet (fail)
        generalize hw2 : wr.drewN nq = w2
        have hL2 := HL.out.drewN nq
        rw [hw2] at hL2
        have HL2 := Lib.hid hL2
        clear hw2 hL2 x0 x1 x2
        by_cases hd : 1 < deep
        · have hx : decide ((1 : Int) < (deep : Int)) = true := by
            rw [decide_eq_true_iff]
            omega
          have HST : Hid (stp L f0 deep k0 [] = .bad (k + 1)) := Lib.hid (by rw [HL.out.eq, stp_end (by omega), if_pos hd])
          have HF := Lib.hid (rfail_any rb LA L.length Lc k w2 HL2.out.rd (by omega))
          clear hd
          go_wp2_with fail
          refine HF.out.mono ?_
          rintro e w3 ⟨rfl, hr3, hk3⟩
          have HRT : Hid (QReadIt L f0 deep k0 rb LA Lc w (.returned (.slice VA out.length vc)) w3) := Lib.hid (QReadIt.no HST.out (HL2.out.kept.trans hk3) hr3 (by omega))
          clear hr3 hk3
          go_wp2_with fail
          go_ret
          exact HRT.out
        · have hx : decide ((1 : Int) < (deep : Int)) = false := by
            rw [decide_eq_false_iff_not]
            omega
          have HRT : Hid (QReadIt L f0 deep k0 rb LA Lc w (.returned (.slice VA out.length vc)) w2) := Lib.hid (HL2.out.yes (by rw [stp_end (by omega), if_neg hd]) hd21)
          clear hd
          go_wp2_with fail
          go_ret
          exact HRT.out
      · have te : ((k : Int) == (L.length : Int)) = false := by rw [beq_eq_false_iff_ne]; omega
        have hlt : k < L.length := by omega
        have hget : L.getD k [] = L[k] := by rw [List.getD_eq_getElem?_getD, List.getElem?_eq_getElem hlt]; rfl
        obtain ⟨bA, offA, rfl, hnb, hcell⟩ := HROW.out k (.string ⟨L[k].toArray⟩) (by simp [txtV, hlt])
        have hXl := HLS.out _ (List.getElem_mem hlt)
        obtain ⟨s, hs⟩ : ∃ s, s = L[k] := ⟨_, rfl⟩
        rw [← hs] at hget hcell hXl
        obtain ⟨X, hX⟩ : ∃ X : ByteArray, X = ⟨s.toArray⟩ := ⟨_, rfl⟩
        have hXs : s.length = X.size := by rw [hX, str_size]
        have hXd : X.data.toList = s := by rw [hX]
        rw [← hX] at hcell
        have HC := Lib.hid hcell
        have HG := Lib.hid hget
        have HXD := Lib.hid hXd
        clear hs hcell hX hget hmu hrd hXd
        go_wp2_with fail
        go_quiet (fail)
        generalize hw2 : wr.drewN nq = w2
        have hL2 := HL.out.drewN nq
        rw [hw2] at hL2
        have HL2 := Lib.hid hL2
        have y1 : w2.cell? ⟨rb, 1, none⟩ = some (.int .i64 (k : Int)) := hL2.rd.cell 1
        have y0 : w2.cell? ⟨rb, 0, none⟩ = some (.slice (some ⟨bA, offA, none⟩) L.length Lc) := hL2.rd.cell 0
        have ys : w2.cell? ⟨bA, offA + k, none⟩ = some (.string X) := hL2.kept.cell HC.out hnb
        clear hw2 hL2 x0 x1 x2 te
        go_wp2_with fail
        go_quiet (fail)
        generalize hw3 : w2.drewN nq = w3
        have hL3 := HL2.out.drewN nq
        rw [hw3] at hL3
        have HL3 := Lib.hid hL3
        clear hw3 hL3 y0 y1 ys HL2
        have hbl := blk_le s
        have hball := blk_all s
        have hbst := blk_stop s
        have HBA := Lib.hid hball
        have HBS := Lib.hid hbst
        clear hball hbst
        obtain ⟨n, hn⟩ : ∃ n, n = blk s := ⟨_, rfl⟩
        rw [← hn] at hbl
        have HM := Lib.hid hn
        clear hn
        go_upto_block 2 with fail
        go_cut [7] (fun i wx => i = .int .i64 (n : Int) ∧ w3 = wx)
        case first =>
          go_wp2_with fail
          go_loop [7] (fun i => ∃ j : Nat, j ≤ n ∧ i = .int .i64 (j : Int)) (fun i => n - (intOf i).toNat)
          case atStart => exact ⟨0, Nat.zero_le _, rfl⟩
          case round =>
            obtain ⟨j, hj, rfl⟩ := hrel
            by_cases hjn : j < n
            · have hnx : j < X.size := by omega
              have hg : X[j] = s[j]'(by omega) := by
                have := str_get X j hnx
                simp only [HXD.out] at this
                exact this.symm
              have t32 : ((X[j].toNat : Int) == 32) = true := by
                rw [hg, HBA.out j (by omega) (by rw [← HM.out]; exact hjn)]
                rfl
              clear hg
              go_wp2_with fail
              go_round
              case rel => exact ⟨j + 1, by omega, by go_num⟩
              case measure => simp [intOf]; omega
            · have hjm : j = n := by omega
              subst hjm
              by_cases h : j < X.size
              · have t32 : ((X[j].toNat : Int) == 32) = false := by
                  have hg : X[j] = s[j]'(by omega) := by
                    have := str_get X j h
                    simp only [HXD.out] at this
                    exact this.symm
                  rw [hg, beq_eq_false_iff_ne]
                  intro e
                  have hm := HM.out
                  subst hm
                  exact HBS.out (by omega) (UInt8.toNat_inj.1 (by have : (32 : UInt8).toNat = 32 := rfl; omega))
                go_wp2_with fail
                go_meet
                exact ⟨rfl, rfl⟩
              · go_wp2_with fail
                go_meet
                exact ⟨rfl, rfl⟩
        case rest =>
        obtain ⟨rfl, rfl⟩ := hcut
        have hYl : (X.extract n X.size).data.toList = s.drop n := by
          rw [← HXD.out]
          simp only [ByteArray.data_extract, Array.toList_extract, List.extract_eq_take_drop]
          rw [List.take_of_length_le (by simp)]
        have hYq : ((X.extract n X.size).toList == [125]) = decide (s.drop n = [125]) := by rw [← hYl]; exact str_beq2 (X.extract n X.size).data.toList [125]
        have hsh : shut deep s ↔ 1 < deep ∧ n = deep - 2 ∧ s.drop n = [125] := by rw [shut_iff, ← HM.out]
        have HYL := Lib.hid hYl
        have HYQ := Lib.hid hYq
        have HSH := Lib.hid hsh
        clear hYl hYq hsh
        go_upto_region 11 with fail
        go_cut [63] (fun q wx => q = .bool (decide (shut deep s)) ∧ w3 = wx)
        case first =>
          by_cases h1 : 1 < deep
          · by_cases h2 : n = deep - 2
            · have t2 : ((n : Int) == (deep : Int) - 2) = true := by rw [beq_iff_eq]; omega
              have t3 := HYQ.out
              have HD : Hid (decide (shut deep s) = decide (s.drop n = [125])) := Lib.hid (decide_eq_decide.2 (HSH.out.trans ⟨fun h => h.2.2, fun h => ⟨h1, h2, h⟩⟩))
              obtain ⟨qq, hqq⟩ : ∃ q, q = decide (s.drop n = [125]) := ⟨_, rfl⟩
              rw [← hqq] at t3 HD
              have h2' := Lib.hid h2
              clear hqq h2
              go_wp2_with fail
              go_meet
              exact ⟨by rw [HD.out], rfl⟩
            · have t2 : ((n : Int) == (deep : Int) - 2) = false := by rw [beq_eq_false_iff_ne]; omega
              have HD : Hid (decide (shut deep s) = false) := Lib.hid (decide_eq_false fun h => h2 (HSH.out.1 h).2.1)
              go_wp2_with fail
              go_meet
              exact ⟨by rw [HD.out], rfl⟩
          · have HD : Hid (decide (shut deep s) = false) := Lib.hid (decide_eq_false fun h => h1 (HSH.out.1 h).1)
            go_wp2_with fail
            go_meet
            exact ⟨by rw [HD.out], rfl⟩
        case rest =>
        obtain ⟨rfl, rfl⟩ := hcut
        by_cases hshut : shut deep s
        · have HRT : Hid (QReadIt L f0 deep k0 rb (some ⟨bA, offA, none⟩) Lc w (.returned (.slice VA out.length vc)) w3) := Lib.hid (HL3.out.yes (stp_shut (by omega) (by rw [HG.out]; exact hshut)) hd21)
          rw [decide_eq_true hshut]
          clear hshut
          go_wp2_with fail
          go_ret
          exact HRT.out
        rw [decide_eq_false hshut]
        have HNS := Lib.hid hshut
        clear hshut
        have hline := line_eq s hd1
        rw [← HM.out] at hline
        by_cases hwrong : 20 < deep ∨ n ≠ deep - 1
        · have HST : Hid (stp L f0 deep k0 [] = .bad (k + 1)) := Lib.hid (by
            rw [HL3.out.eq, stp_wrong (by omega) (by rw [HG.out]; exact HNS.out)]
            rw [HG.out, hline, if_pos hwrong])
          have HF := Lib.hid (rfail_any rb (some ⟨bA, offA, none⟩) L.length Lc k w3 HL3.out.rd (by omega))
          clear hline
          by_cases hn1 : n = deep - 1
          · have t1 : ((n : Int) != (deep : Int) - 1) = false := by rw [bne_eq_false_iff_eq]; omega
            have h20 : 20 < deep := by omega
            clear hwrong hn1
            go_wp2_with fail
            refine HF.out.mono ?_
            rintro e w4 ⟨rfl, hr4, hk4⟩
            have HRT : Hid (QReadIt L f0 deep k0 rb (some ⟨bA, offA, none⟩) Lc w (.returned (.slice none 0 0)) w4) := Lib.hid (QReadIt.no HST.out (HL3.out.kept.trans hk4) hr4 (by omega))
            clear hr4 hk4
            go_wp2_with fail
            go_ret
            exact HRT.out
          · have t1 : ((n : Int) != (deep : Int) - 1) = true := by rw [bne_iff_ne]; omega
            clear hwrong hn1
            go_wp2_with fail
            refine HF.out.mono ?_
            rintro e w4 ⟨rfl, hr4, hk4⟩
            have HRT : Hid (QReadIt L f0 deep k0 rb (some ⟨bA, offA, none⟩) Lc w (.returned (.slice none 0 0)) w4) := Lib.hid (QReadIt.no HST.out (HL3.out.kept.trans hk4) hr4 (by omega))
            clear hr4 hk4
            go_wp2_with fail
            go_ret
            exact HRT.out
        rw [if_neg hwrong] at hline
        have hn1 : n = deep - 1 := Classical.not_not.1 fun h => hwrong (.inr h)
        have hd20 : deep ≤ 20 := Nat.not_lt.1 fun h => hwrong (.inl h)
        have t1 : ((n : Int) != (deep : Int) - 1) = false := by rw [bne_eq_false_iff_eq]; omega
        obtain ⟨Y, hY⟩ : ∃ Y : ByteArray, Y = X.extract n X.size := ⟨_, rfl⟩
        have hYd : Y.data.toList = s.drop n := by rw [hY]; exact HYL.out
        have hYs : Y.size = s.length - n := by rw [← str_len Y, hYd, List.length_drop]
        obtain ⟨ws, hws⟩ : ∃ q, q = sepL 32 (s.drop n) := ⟨_, rfl⟩
        have hpa := fun W => parts_any 32 Y W (by omega)
        rw [show (((32 : UInt8).toNat : Nat) : Int) = 32 from rfl, hYd, ← hws] at hpa
        rw [← hws] at hline
        have hws0 : 0 < ws.length := by
          obtain ⟨x, xs, e⟩ := sep_some (d := 32) (s.drop n)
          rw [hws, e]
          simp
        have hwsl : ws.length ≤ 4294967296 := by
          have := sep_many (d := 32) (s.drop n)
          rw [← hws, List.length_drop] at this
          omega
        have hwl : ∀ x ∈ ws, x.length ≤ 2147483648 := fun x hx => by
          have := sep_len (d := 32) (s.drop n) x (by rw [← hws]; exact hx)
          rw [List.length_drop] at this
          omega
        have HPA := Lib.hid hpa
        have HLN : Hid (lineP deep (L.getD k []) = opL ws) := Lib.hid (by rw [HG.out, hline])
        have HWL := Lib.hid hwl
        have HY := Lib.hid hY
        clear hpa hline hwl hY hYd hYs hws hwrong hn1
        go_wp2_with fail
        rw [← HY.out]
        refine (HPA.out _).mono ?_
        rintro e w4 ⟨A4, c4, rfl, hr4, hc4, hb4⟩
        have HB4 := Lib.hid hb4
        have hst := qstep_any (HH.out f (by omega)) deep k rb (some ⟨bA, offA, none⟩) Lc ws A4 c4 w4 ((hb4.block _ HL3.out.rd.lt).trans HL3.out.rd) (RowN.turn (fun j i u hj hc => ⟨hj, (hb4.cell (p := ⟨j, i, none⟩) (lt_of_cell (HL3.out.kept.cell hc hj))).trans (HL3.out.kept.cell hc hj)⟩) HROW.out) hr4 hc4 hws0 HWL.out hd1 hd20 hlt (by omega) hLn HLS.out hwsl
        have HSTP := Lib.hid hst
        clear hr4 hc4 hb4 hst
        go_wp2_with fail
        refine HSTP.out.mono ?_
        rintro e w5 ⟨d, RA, SA, rn, rc, sn, sc, k', b, rfl, hk5, hr5, hle5, hbad, hyes⟩
        obtain ⟨vs, hvs, hvrw⟩ := HL3.out.row
        have hvr : ∀ j, (Value.slice VA out.length vc).ownBlock = some j → ¬ j = rb := fun j e h => by
          have h1 := own_from hvs e
          omega
        have HVS := Lib.hid hvs
        have HVRW := Lib.hid hvrw
        have HVR := Lib.hid hvr
        have HK5 : Hid (Kept (fun j => j = rb) w3 w5) := Lib.hid ((Kept.below HB4.out _).trans hk5)
        have HR5 := Lib.hid hr5
        have HBAD := Lib.hid hbad
        have HYES := Lib.hid hyes
        have HNW := Lib.hid (Whole.new w5 48 (opC d (.slice RA rn rc) (.slice SA sn sc)))
        have hsz5 := HK5.out.size
        have hmany := HL3.out.many
        have HEQ := Lib.hid (stp_stepR (f := f) (out := out) (by omega) (by rw [HG.out]; exact HNS.out) HLN.out)
        clear hk5 hr5 hbad hyes hvs hvrw hvr
        go_wp2_with (at_builtin; refine wpList_append_own_at (w := w5.alloc (.cells (opC d (.slice RA rn rc) (.slice SA sn sc)) 48)) rfl _ _ 27 rfl w.heap.size 48 i0 (.agg #[.int .i64 0, .string ByteArray.empty, .int .u16 0, .slice none 0 0, .int .u64 0, .int .u64 0, .slice none 0 0, .int .i64 0, .int .i64 0]) 9 112 Tryz.underlying27 hi hz0 hz1 hz2 rfl (by decide) _ out.length vs rfl (own_kept (HK5.out.alloc _) HVS.out HVR.out) ⟨w5.heap.size, 0, none⟩ 1 1 (opC d (.slice RA rn rc) (.slice SA sn sc)).toList rfl rfl (World.news_of_block HNW.out) (op_one _ _ _ _ _ _ _ rfl rfl _ _) (by unfold maxLen; omega) (by omega) (Nat.le_trans HL3.out.kept.size (HK5.out.alloc _).size) ?_; intro v8 w8 hown8 hg8 _ hat8; have HOWN8 := Lib.hid hown8; have HG8 := Lib.hid hg8; have HAT8 := Lib.hid hat8; obtain ⟨VA8, vc8, rfl⟩ := own_slice hown8; clear hown8 hg8 hat8)
        cases hs : stepR L f deep k ws with
        | bad b' =>
          have hb := HBAD.out b' hs
          subst hb
          have hpos := stepR_pos hs hlt hd1
          have hB := QL.bad HL3.out (HEQ.out.trans (by rw [hs])) HK5.out HR5.out hrbl hle5 HVS.out HG8.out
          refine ⟨.inr ⟨VA8, out.length + 1, vc8, k', b, rfl, hpos, Lib.hid hB⟩, ?_⟩
          rw [leftQ_bad hB.rd hpos, HMU.out]
          omega
        | ok o k2 =>
          obtain ⟨rfl, rfl, sub, rfl, hok, rfl, rfl, h1, h2, hra, hsub⟩ := HYES.out o k2 hs
          have hkk := stepR_le hs hlt hd1
          have hsz4 := HB4.out.size
          have hQ := QL.app (sub := sub) (SA := SA) (sc := sc) HL3.out (HEQ.out.trans (by rw [hs])) hkk HK5.out HR5.out hok h1 h2 (RecsAt.turn (fun j i u hj hc => ⟨by omega, hc⟩) hra) (OpdsAt.turn (fun j i u hj hc => ⟨by omega, hc⟩) SA 0 sub hsub) hrbl HVS.out HVRW.out HOWN8.out HG8.out HAT8.out
          refine ⟨.inl ⟨f, k', _, Lib.hid hQ⟩, ?_⟩
          rw [leftQ_ok hQ.rd, HMU.out]
          omega
theorem qread_all (L : List (List UInt8)) : ∀ f, QReadOK L f := fun f => by
  induction f using Nat.strongRecOn with
  | _ f ih => exact qread_step ih
end Go.Proofs.YtifmgmiaeoiidaaGreatDoor
namespace Go.Proofs.YtifmgmiaeoiidaaGreatDoor
open Go.RowKit Go.Colm Go.Scrp
set_option linter.unusedVariables false

set_option maxRecDepth 100000 in
set_option maxHeartbeats 8000000 in
theorem rparse_any (s : List UInt8) (w : World) (hs : s.length ≤ 2147483647) :
    Calls Tryz.prog 16 #[.string ⟨s.toArray⟩] w (ParseIt w s) := by
  obtain ⟨ps, hps⟩ : ∃ ps, ps = sepL 10 s := ⟨_, rfl⟩
  obtain ⟨n, hn⟩ : ∃ n, n = ps.length - 1 := ⟨_, rfl⟩
  obtain ⟨L, hL⟩ : ∃ L, L = ps.take n := ⟨_, rfl⟩
  have hp0 : 0 < ps.length := by
    obtain ⟨x, xs, e⟩ := sep_some (d := 10) s
    rw [hps, e]
    simp
  have hpm : ps.length ≤ s.length + 1 := by rw [hps]; exact sep_many s
  have hLl : L.length = n := by rw [hL, List.length_take]; omega
  have hLs : ∀ x ∈ L, x.length ≤ 2147483648 := fun x hx => by
    have := sep_len (d := 10) s x (by rw [← hps]; rw [hL] at hx; exact List.mem_of_mem_take hx)
    omega
  obtain ⟨w0, hw0⟩ : ∃ W, W = w.alloc (.cells #[.int .i64 0, .int .i64 0] 36) := ⟨_, rfl⟩
  have hb0 : Below w.heap.size w w0 := by rw [hw0]; exact (Below.refl _ _).alloc (Nat.le_refl _) _
  have hx0 : Whole w0 w.heap.size 36 #[.int .i64 0, .int .i64 0] := by rw [hw0]; exact Whole.new _ _ _
  have hsp := parts_any 10 ⟨s.toArray⟩ w0 (by rw [str_size]; omega)
  have hsd : (ByteArray.mk s.toArray).data.toList = s := by simp
  rw [hsd, ← hps, show (((10 : UInt8).toNat : Nat) : Int) = 10 from rfl] at hsp
  clear hsd
  have HSP := Lib.hid hsp
  have HB0 := Lib.hid hb0
  have HX0 := Lib.hid hx0
  have HLS := Lib.hid hLs
  have HRA := Lib.hid (qread_all L)
  have HL := Lib.hid hL
  have HLL := Lib.hid hLl
  have HPS := Lib.hid hps
  have HN := Lib.hid hn
  clear hsp hb0 hx0 hLs hL hLl hps
  rw [hw0] at HSP HB0 HX0
  clear hw0
  have hn1 : ps.length = n + 1 := by omega
  have HN1 := Lib.hid hn1
  have hcut := fun A c (h : ps.length ≤ c) W => run_cut_to (P := Tryz.prog) Tryz.underlying71 Tryz.sizeOf9 A (n + 1) c .i64 (n : Int) (by omega) (by omega) W
  have HCUT := Lib.hid hcut
  clear hn hcut
  go_enter Tryz.func16, Tryz.ntmps16
  go_wp2_with fail
  refine HSP.out.mono ?_
  rintro e w1 ⟨A, c, rfl, hrow, hc, hb1⟩
  have cut1 := HCUT.out A c hc
  rw [hn1]
  have HROW := Lib.hid hrow
  have HB1 := Lib.hid (HB0.out.trans (hb1.mono HB0.out.size))
  have HX1 : Hid (Whole w1 w.heap.size 36 #[.int .i64 0, .int .i64 0]) := Lib.hid ((hb1.block _ HX0.out.lt).trans HX0.out)
  have hsn : s.length + 1 ≥ n + 1 := by omega
  clear hrow hb1 hn1 hp0 hpm
  go_wp2_with fail
  have hx2 : Whole (w1.alloc (.cells #[.slice A n c, .int .i64 0, .int .i64 0] 83)) w1.heap.size 83 (rdV A L.length c 0 0) := by rw [HLL.out]; exact Whole.new _ _ _
  have hb2 : Below w1.heap.size w1 (w1.alloc (.cells #[.slice A n c, .int .i64 0, .int .i64 0] 83)) := (Below.refl _ _).alloc (Nat.le_refl _) _
  obtain ⟨bA, offA, rfl, hcell⟩ := HROW.out n (.string ⟨(ps.getD n []).toArray⟩) (by
    have h := HN1.out
    simp [txtV, List.getD_eq_getElem?_getD, List.getElem?_eq_getElem (show n < ps.length by omega)])
  have hbA := lt_of_cell hcell
  dsimp only at hbA
  have hread := HRA.out (n + 1) 1 0 w1.heap.size (some ⟨bA, offA, none⟩) c _ hx2 (fun i v hv => by
    obtain ⟨b', off', e1, h2⟩ := ((HROW.out.take n).below hb2) i v (by
      rw [HL.out] at hv
      simpa [txtV] using hv)
    cases e1
    exact ⟨bA, offA, rfl, by omega, h2⟩) (by omega) (by omega) (by omega) (by rw [HLL.out]; omega) (by rw [HLL.out]; omega) HLS.out
  have HREAD := Lib.hid hread
  have HB2 := Lib.hid hb2
  obtain ⟨X, hX⟩ : ∃ X : ByteArray, X = ⟨(ps.getD n []).toArray⟩ := ⟨_, rfl⟩
  rw [← hX] at hcell
  have hq0 : (X.toList == []) = decide (ps.getD n [] = []) := by rw [hX]; exact str_nilP _
  have HQ0 := Lib.hid hq0
  have HC := Lib.hid hcell
  have hw1 := HX1.out.lt
  have hsz1 := HB1.out.size
  clear hx2 hb2 hread hX hq0 hcell cut1
  refine HREAD.out.mono ?_
  rintro e w3 ⟨A3, m3, c3, k', b, rfl, hk3, hr3, hkb, hbad, hyes⟩
  have d1 : w3.cell? ⟨bA, offA + n, none⟩ = some (.string X) := hk3.cell ((HB2.out.cell (p := ⟨bA, offA + n, none⟩) hbA).trans HC.out) (fun e => by
    have e : bA = w1.heap.size := e
    omega)
  have y2 : w3.cell? ⟨w1.heap.size, 2, none⟩ = some (.int .i64 (b : Int)) := hr3.cell 2
  have g2 := hr3.frozen 2
  have hxf : Whole w3 w.heap.size 36 #[.int .i64 0, .int .i64 0] := hk3.whole ((HB2.out.block _ hw1).trans HX1.out) (fun e => by
    have e : w.heap.size = w1.heap.size := e
    omega)
  have x0 : w3.cell? ⟨w.heap.size, 0, none⟩ = some (.int .i64 0) := hxf.cell 0
  have x1 : w3.cell? ⟨w.heap.size, 1, none⟩ = some (.int .i64 0) := hxf.cell 1
  have f0 := hxf.frozen 0
  have f1 := hxf.frozen 1
  have hlt3 := hxf.lt
  have hne1 : w.heap.size ≠ w1.heap.size := by omega
  have hne2 : w1.heap.size ≠ w.heap.size := by omega
  have hbel : Below w.heap.size w w3 := (HB1.out.trans (HB2.out.mono hsz1)).trans (hk3.to_below (Nat.le_trans hsz1 HB2.out.size) fun j hj e => by
      have e : j = w1.heap.size := e
      omega)
  have HXF := Lib.hid hxf
  have HBEL := Lib.hid hbel
  clear hk3 hr3 hxf hbel
  have hpl : ∀ b', stp L (n + 1) 1 0 [] = .bad b' → parseL s = if ps.getD n [] ≠ [] ∧ n < b' then .bad (n + 1) else .bad b' := fun b' h => parse_bad HPS.out HN.out HL.out h
  have hpk : ∀ out k, stp L (n + 1) 1 0 [] = .ok out k → parseL s = if ps.getD n [] ≠ [] then .bad (n + 1) else .ok out k := fun out k h => parse_ok HPS.out HN.out HL.out h
  cases hst : stp L (n + 1) 1 0 [] with
  | bad b' =>
    have hb' := hbad b' hst
    subst hb'
    have hb1 := (stp_bad hst (by omega) (by omega)).1
    have hb2 := (stp_bad hst (by omega) (by omega)).2 (by rw [HLL.out]; omega)
    rw [HLL.out] at hb2
    have tb0 : ((b : Int) == 0) = false := by
      rw [beq_eq_false_iff_ne]
      omega
    have tb : decide ((0 : Int) < (b : Int)) = true := by
      rw [decide_eq_true_iff]
      omega
    have HPL := Lib.hid (hpl b hst)
    clear hpl hpk hst hbad hyes
    by_cases hl : ps.getD n [] = []
    · rw [decide_eq_true hl] at HQ0
      have hq := HQ0.out
      have hpb : parseL s = .bad b := by rw [HPL.out, if_neg (fun h => h.1 hl)]
      have HPB := Lib.hid hpb
      clear hl hpb
      go_wp2_with fail
      go_region
      go_wp2_with fail
      refine bodyPost_ret (results_tmp_row rfl _ _ w.heap.size 36 #[.int .i64 50, .int .i64 ((b : Nat) : Int)] (0, 0) _ rfl ((HXF.out.put 0 _).put 1 _) Tryz.underlying36 rfl (by kernel_rfl)) rfl ?_
      exact parse_no HPB.out ((HBEL.out.setCell (p := ⟨w.heap.size, 0, none⟩) (Nat.le_refl _) _).setCell (p := ⟨w.heap.size, 1, none⟩) (Nat.le_refl _) _).drew
    · rw [decide_eq_false hl] at HQ0
      have hq := HQ0.out
      by_cases hbn : n < b
      · have tn : decide ((n : Int) < (b : Int)) = true := by
          rw [decide_eq_true_iff]
          omega
        have hpb : parseL s = .bad (n + 1) := by rw [HPL.out, if_pos ⟨hl, hbn⟩]
        have HPB := Lib.hid hpb
        clear hl hpb
        have tn1 : decide ((0 : Int) < (n : Int) + 1) = true := by
          rw [decide_eq_true_iff]
          omega
        go_wp2_with fail
        go_region
        go_wp2_with fail
        refine bodyPost_ret (results_tmp_row rfl _ _ w.heap.size 36 #[.int .i64 50, .int .i64 ((n + 1 : Nat) : Int)] (0, 0) _ rfl (((view_far HXF.out hne2 _).put 0 _).put 1 _) Tryz.underlying36 rfl (by kernel_rfl)) rfl ?_
        exact parse_no HPB.out (by first | exact (((HBEL.out.setCell (p := ⟨w1.heap.size, 2, none⟩) hsz1 _).drew.setCell (p := ⟨w.heap.size, 0, none⟩) (Nat.le_refl _) _).setCell (p := ⟨w.heap.size, 1, none⟩) (Nat.le_refl _) _) | exact (((HBEL.out.drew.setCell (p := ⟨w1.heap.size, 2, none⟩) hsz1 _).setCell (p := ⟨w.heap.size, 0, none⟩) (Nat.le_refl _) _).setCell (p := ⟨w.heap.size, 1, none⟩) (Nat.le_refl _) _) | exact ((((HBEL.out.setCell (p := ⟨w1.heap.size, 2, none⟩) hsz1 _)).setCell (p := ⟨w.heap.size, 0, none⟩) (Nat.le_refl _) _).setCell (p := ⟨w.heap.size, 1, none⟩) (Nat.le_refl _) _).drew)
      · have tn : decide ((n : Int) < (b : Int)) = false := by
          rw [decide_eq_false_iff_not]
          omega
        have hpb : parseL s = .bad b := by rw [HPL.out, if_neg (fun h => hbn h.2)]
        have HPB := Lib.hid hpb
        have tn2 : decide (n < b) = false := decide_eq_false hbn
        clear hl hpb
        go_wp2_with fail
        go_region
        go_wp2_with fail
        refine bodyPost_ret (results_tmp_row rfl _ _ w.heap.size 36 #[.int .i64 50, .int .i64 ((b : Nat) : Int)] (0, 0) _ rfl ((HXF.out.put 0 _).put 1 _) Tryz.underlying36 rfl (by kernel_rfl)) rfl ?_
        exact parse_no HPB.out ((HBEL.out.setCell (p := ⟨w.heap.size, 0, none⟩) (Nat.le_refl _) _).setCell (p := ⟨w.heap.size, 1, none⟩) (Nat.le_refl _) _).drew
  | ok out k2 =>
    obtain ⟨rfl, rfl, rfl, hmc, hops⟩ := hyes out k2 hst
    have HPL := Lib.hid (hpk out k' hst)
    have HMC := Lib.hid hmc
    have HOPS := Lib.hid hops
    have hszw := HBEL.out.size
    clear hpl hpk hst hbad hyes hmc hops
    by_cases hl : ps.getD n [] = []
    · rw [decide_eq_true hl] at HQ0
      have hq := HQ0.out
      have hpb : parseL s = .ok out k' := by rw [HPL.out, if_neg (fun h => h hl)]
      have HPB := Lib.hid hpb
      clear hl hpb
      go_wp2_with fail
      refine bodyPost_ret (results_tmp_row rfl _ _ w.heap.size 36 #[.int .i64 0, .int .i64 0] (0, 0) _ rfl ((HXF.out.put 0 _).put 1 _) Tryz.underlying36 rfl (by kernel_rfl)) rfl ?_
      exact parse_yes HPB.out HMC.out HOPS.out (by have := HB2.out.size; simp; omega) (((HBEL.out.setCell (p := ⟨w.heap.size, 0, none⟩) (Nat.le_refl _) _).setCell (p := ⟨w.heap.size, 1, none⟩) (Nat.le_refl _) _)) (((Kept.refl (fun j => j = w.heap.size) _).setCell (p := ⟨w.heap.size, 0, none⟩) (.inl rfl) _).setCell (p := ⟨w.heap.size, 1, none⟩) (.inl rfl) _)
    · rw [decide_eq_false hl] at HQ0
      have hq := HQ0.out
      have hpb : parseL s = .bad (n + 1) := by rw [HPL.out, if_pos hl]
      have HPB := Lib.hid hpb
      have tn1 : decide ((0 : Int) < (n : Int) + 1) = true := by
        rw [decide_eq_true_iff]
        omega
      clear hl hpb
      go_wp2_with fail
      go_region
      go_wp2_with fail
      refine bodyPost_ret (results_tmp_row rfl _ _ w.heap.size 36 #[.int .i64 50, .int .i64 ((n + 1 : Nat) : Int)] (0, 0) _ rfl (((view_far HXF.out hne2 _).put 0 _).put 1 _) Tryz.underlying36 rfl (by kernel_rfl)) rfl ?_
      exact parse_no HPB.out (by first | exact (((HBEL.out.setCell (p := ⟨w1.heap.size, 2, none⟩) hsz1 _).drew.setCell (p := ⟨w.heap.size, 0, none⟩) (Nat.le_refl _) _).setCell (p := ⟨w.heap.size, 1, none⟩) (Nat.le_refl _) _) | exact (((HBEL.out.drew.setCell (p := ⟨w1.heap.size, 2, none⟩) hsz1 _).setCell (p := ⟨w.heap.size, 0, none⟩) (Nat.le_refl _) _).setCell (p := ⟨w.heap.size, 1, none⟩) (Nat.le_refl _) _) | exact ((((HBEL.out.setCell (p := ⟨w1.heap.size, 2, none⟩) hsz1 _)).setCell (p := ⟨w.heap.size, 0, none⟩) (Nat.le_refl _) _).setCell (p := ⟨w.heap.size, 1, none⟩) (Nat.le_refl _) _).drew)

set_option maxRecDepth 100000 in
set_option maxHeartbeats 8000000 in
theorem scriptParses_walk (s : ByteArray) (hsz : s.size ≤ maxLen) (w : World) (E : Env w) : Calls Tryz.prog 5 #[.string s] w fun e w' => e = .returned (.bool true) ∧ Below w.heap.size w w' := by
  have HE := Lib.hid E
  have HP := Lib.hid prints_any
  have hl := str_len s
  clear E
  by_cases h1 : 4000 < s.size
  · go_enter Tryz.func5, Tryz.ntmps5
    go_wp2_with fail
    refine (HP.out _ HE.out).mono ?_
    rintro e w2 ⟨rfl, hb2⟩
    go_wp2_with fail
    go_ret
    exact ⟨rfl, hb2⟩
  have hps := parse_any s.data.toList w HE.out (by omega)
  have hrp := fun W => rparse_any s.data.toList W (by omega)
  rw [bytes_eq] at hps
  simp only [bytes_eq] at hrp
  have HPS := Lib.hid hps
  have HRP := Lib.hid hrp
  clear hps hrp
  go_enter Tryz.func5, Tryz.ntmps5
  go_wp2_with fail
  refine HPS.out.mono ?_
  rintro e w2 ⟨A2, n2, c2, E2, b2, rfl, hb2, hno2, hyes2⟩
  have HB2 := Lib.hid hb2
  have HNO2 := Lib.hid hno2
  have HYES2 := Lib.hid hyes2
  have HF0 : Hid (Whole (w2.alloc (.cells #[.int .i64 (E2 : Int), .int .i64 (b2 : Int)] 36)) w2.heap.size 36 #[.int .i64 (E2 : Int), .int .i64 (b2 : Int)]) := Lib.hid (Whole.new _ _ _)
  have HB2a : Hid (Below w.heap.size w (w2.alloc (.cells #[.int .i64 (E2 : Int), .int .i64 (b2 : Int)] 36))) := Lib.hid (hb2.alloc hb2.size _)
  clear hb2 hno2 hyes2
  go_wp2_with fail
  refine (HRP.out _).mono ?_
  rintro e w3 ⟨A3, n3, c3, E3, b3, rfl, hb3, hno3, hyes3⟩
  have key : E3 = E2 ∧ b3 = b2 ∧ ∃ l : List Opd, n2 = l.length ∧ n3 = l.length ∧ l.length ≤ maxLen ∧ OpdsAt (fun _ => True) w2 A2 0 l ∧ OpdsAt (fun _ => True) w3 A3 0 l := by
    cases hp : parseL s.data.toList with
    | bad b =>
      obtain ⟨e1, e2, e3, e4, e5⟩ := HNO2.out b hp
      obtain ⟨g1, g2, g3, g4, g5⟩ := hno3 b hp
      exact ⟨by rw [e1, g1], by rw [e2, g2], [], e4, g4, by unfold maxLen; simp, opdsAt_nil, opdsAt_nil⟩
    | ok out k =>
      obtain ⟨e1, e2, e3, e4, e5⟩ := HYES2.out out k hp
      obtain ⟨g1, g2, g3, g4, g5⟩ := hyes3 out k hp
      refine ⟨by rw [e1, g1], by rw [e2, g2], out, e3, g3, ?_, OpdsAt.turn (fun j i u hj hc => ⟨trivial, hc⟩) A2 0 out e5, OpdsAt.turn (fun j i u hj hc => ⟨trivial, hc⟩) A3 0 out g5⟩
      have := e4.1
      have := e4.2
      omega
  obtain ⟨rfl, rfl, l, rfl, rfl, hlm, ho2, ho3⟩ := key
  have hb4 : Below w3.heap.size w3 (w3.alloc (.cells #[.int .i64 (E3 : Int), .int .i64 (b3 : Int)] 36)) := (Below.refl _ _).alloc (Nat.le_refl _) _
  have hba : Below w2.heap.size w2 (w2.alloc (.cells #[.int .i64 (E3 : Int), .int .i64 (b3 : Int)] 36)) := (Below.refl _ _).alloc (Nat.le_refl _) _
  have hb24 : Below w2.heap.size w2 (w3.alloc (.cells #[.int .i64 (E3 : Int), .int .i64 (b3 : Int)] 36)) := below_chain hba (below_chain hb3 hb4)
  have hsm := same_any l A2 A3 c2 c3 _ (OpdsAt.turn (Turn.below hb24) A2 0 l ho2) (OpdsAt.turn (Turn.below hb4) A3 0 l ho3) hlm
  have HSM := Lib.hid hsm
  have HB4 := Lib.hid (below_chain HB2a.out (below_chain hb3 hb4))
  have HF4 : Hid (Whole (w3.alloc (.cells #[.int .i64 (E3 : Int), .int .i64 (b3 : Int)] 36)) w2.heap.size 36 #[.int .i64 (E3 : Int), .int .i64 (b3 : Int)]) := Lib.hid (((below_chain hb3 hb4).block _ HF0.out.lt).trans HF0.out)
  have HG4 : Hid (Whole (w3.alloc (.cells #[.int .i64 (E3 : Int), .int .i64 (b3 : Int)] 36)) w3.heap.size 36 #[.int .i64 (E3 : Int), .int .i64 (b3 : Int)]) := Lib.hid (Whole.new _ _ _)
  clear hno3 hyes3 hb3 hb4 hba hb24 hsm ho2 ho3
  go_wp2_with fail
  refine HSM.out.mono ?_
  rintro e w5 ⟨rfl, hb5⟩
  have hf5 := (hb5.block _ HF4.out.lt).trans HF4.out
  have hg5 := (hb5.block _ HG4.out.lt).trans HG4.out
  have x0 : w5.cell? ⟨w2.heap.size, 0, none⟩ = some (.int .i64 (E3 : Int)) := Whole.cell hf5 0
  have x1 : w5.cell? ⟨w2.heap.size, 1, none⟩ = some (.int .i64 (b3 : Int)) := Whole.cell hf5 1
  have y0 : w5.cell? ⟨w3.heap.size, 0, none⟩ = some (.int .i64 (E3 : Int)) := Whole.cell hg5 0
  have y1 : w5.cell? ⟨w3.heap.size, 1, none⟩ = some (.int .i64 (b3 : Int)) := Whole.cell hg5 1
  have HB5 := Lib.hid (below_chain HB4.out hb5)
  have HPR := Lib.hid (HP.out _ (HE.out.below HB5.out))
  clear hb5 hf5 hg5
  go_wp2_with fail
  refine HPR.out.mono ?_
  rintro e w6 ⟨rfl, hb6⟩
  have HB6 := Lib.hid (below_chain HB5.out hb6)
  clear hb6
  go_wp2_with fail
  go_ret
  exact ⟨rfl, HB6.out⟩
end Go.Proofs.YtifmgmiaeoiidaaGreatDoor
