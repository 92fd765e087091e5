/-
  The walks of image.spread and Spread. No condition but what lies there.
  The walks of image.Spread, Config, and of the document's Config. No condition but what lies there, and the table of sizes.
-/
import Derived.Test.YtoafmlegamjlpaaGreatDoorKS
import Derived.Laws.CopyOwn
import Derived.Deep.RegionLaw
import Derived.Test.YtoafmlegamjlpaaGreatDoorKH
namespace Go.Imgp
theorem runS_none {sz : Nat} {L : List UInt8} {i : Nat} (h : runS sz L i = none) : ∀ d, runS sz L (i + d) = none
  | 0 => h
  | d + 1 => by rw [show i + (d + 1) = (i + d) + 1 by omega, runS, runS_none h d]; rfl
theorem spr_fail {b : List UInt8} (hf : frmE b = 0) {i : Nat} (hi : i ≤ num4 (b.drop 4)) (h : runS (num4 b) (framed b) i = none) : spr b = ([], 4) := by
  rw [spr, if_pos hf]
  have := runS_none h (num4 (b.drop 4) - i)
  rw [show i + (num4 (b.drop 4) - i) = num4 (b.drop 4) by omega] at this
  rw [this]
theorem spr_done {b : List UInt8} (hf : frmE b = 0) {nx : Nat} {acc : List UInt8} (h : runS (num4 b) (framed b) (num4 (b.drop 4)) = some (nx, acc)) : spr b = (acc ++ zs (num4 b - acc.length), 0) := by
  rw [spr, if_pos hf, h]
theorem out_next {acc c : List UInt8} {nx k sz : Nat} (ha : acc.length = 16 * nx) (h1 : nx ≤ k) (h2 : 16 * (k + 1) ≤ sz) (hc : c.length = 16) :
    (acc ++ zs (sz - acc.length)).take (16 * k) ++ c ++ (acc ++ zs (sz - acc.length)).drop (16 * k + 16) = (acc ++ (zs (16 * (k - nx)) ++ c)) ++ zs (sz - (acc ++ (zs (16 * (k - nx)) ++ c)).length) := by
  rw [List.take_append, List.take_of_length_le (by omega), List.drop_append, List.drop_of_length_le (by omega), List.nil_append]
  simp only [zs, List.take_replicate, List.drop_replicate, List.length_append, List.length_replicate, hc, ha, List.append_assoc]
  rw [show min (16 * k - 16 * nx) (sz - 16 * nx) = 16 * (k - nx) by omega, show sz - 16 * nx - (16 * k + 16 - 16 * nx) = sz - (16 * nx + (16 * (k - nx) + 16)) by omega]
end Go.Imgp
namespace Go.Proofs.YtoafmlegamjlpaaGreatDoor
open Go.RowKit Go.Colm Go.Cap Go.Mixp Go.Imgp
set_option linter.unusedVariables false
set_option linter.unusedSimpArgs false
theorem zs_values (n : Nat) : (madeCells #[.int .u8 0] n) = (bytesV (zs n)).toArray := by
  apply Array.ext'
  simp only [madeCells, bytesV, zs, List.map_replicate]
  refine List.eq_replicate_iff.2 ⟨by simp, fun b hb => ?_⟩
  simp [Nat.mod_one] at hb
  first | exact hb.symm | exact hb.2.symm | exact (hb.2).symm
/-- The bytes that are put out. -/
def OutAt (ob sz : Nat) (acc : List UInt8) (W : World) : Prop := W.heap[ob]? = some (.cells (bytesV (acc ++ zs (sz - acc.length))).toArray 5 (0, 0))
theorem OutAt.own {ob sz B : Nat} {acc : List UInt8} {W : World} (h : OutAt ob sz acc W) (hB : B ≤ ob) (ha : acc.length ≤ sz) (hs : sz ≤ 1048576) : BOwn 5 B W (.slice (some ⟨ob, 0, none⟩) sz sz) (acc ++ zs (sz - acc.length)) := by
  have hl : (acc ++ zs (sz - acc.length)).length = sz := by rw [List.length_append, zs_length]; omega
  unfold BOwn
  rw [hl]
  exact ⟨by rw [bytesV_length, hl, Nat.mul_one], .inr ⟨ob, sz, _, rfl, hB, h, Nat.le_refl _, by unfold maxLen; omega, by simp only [List.size_toArray, bytesV_length, hl, Nat.mul_one], by rw [Nat.mul_one]; exact List.take_of_length_le (by simp [bytesV_length, hl])⟩⟩
set_option maxRecDepth 100000 in
set_option maxHeartbeats 12800000 in
theorem sprd_ok (A : Option Addr) (cap : Nat) (b : List UInt8) (w : World) (hr : RowV w A (bytesV b)) (hcap : b.length ≤ cap) (hlen : b.length < 1099511627776) :
    Calls Tryz.prog 33 #[.slice A b.length cap] w fun e w' => ∃ v', e = .returned (.tuple #[v', errV (spr b).2]) ∧ BOwn 5 w.heap.size w' v' (spr b).1 ∧ Below w.heap.size w w' := by
  have HFR := Lib.hid (framed_ok A cap b w hr hcap hlen)
  have HR := Lib.hid hr
  have HLEN : Hid (b.length < 1099511627776 ∧ b.length ≤ cap) := Lib.hid ⟨hlen, hcap⟩
  clear hr
  go_enter Tryz.func33, Tryz.ntmps33
  go_wp2_with fail
  refine HFR.out.mono ?_
  rintro e w1 ⟨⟨r, rfl, hf⟩, hb1⟩
  rcases hf with ⟨hf0, g, off, rfl, rfl⟩ | ⟨hf0, rfl⟩
  · obtain ⟨f1, f2, f3, f4⟩ := frm_ok hf0
    obtain ⟨m1, m2, m3⟩ := Go.Imgp.may_iff.1 f2
    have HF0 := Lib.hid hf0
    have hL : (framed b).length = 20 * num4 (b.drop 4) := by
      simp only [framed, List.length_take, List.length_drop]
      omega
    have HDONE : Hid (∀ nx acc, runS (num4 b) (framed b) (num4 (b.drop 4)) = some (nx, acc) → spr b = (acc ++ zs (num4 b - acc.length), 0)) := Lib.hid fun nx acc h => spr_done hf0 h
    have HFAIL : Hid (∀ i, i ≤ num4 (b.drop 4) → runS (num4 b) (framed b) i = none → spr b = ([], 4)) := Lib.hid fun i hi h => spr_fail hf0 hi h
    have HRL : Hid (RowV w (some ⟨g, off + 8, none⟩) (bytesV (framed b)) ∧ g < w.heap.size) := Lib.hid ⟨HR.out.sub 8 (b.length - 12), by
      obtain ⟨g', off', e, h⟩ := HR.out.some_of (by omega)
      cases e
      exact h⟩
    obtain ⟨n, hn⟩ : ∃ n, n = num4 (b.drop 4) := ⟨_, rfl⟩
    obtain ⟨sz, hsz⟩ : ∃ sz, sz = num4 b := ⟨_, rfl⟩
    obtain ⟨L, hLL⟩ : ∃ L, L = framed b := ⟨_, rfl⟩
    rw [← hn] at hL HDONE HFAIL f3
    rw [← hsz] at m1 m2 m3 HDONE HFAIL
    rw [← hLL] at hL HDONE HFAIL HRL
    rw [← hsz, f3, show 12 + 20 * n - 12 = 20 * n by omega]
    have hcn : 12 + 20 * n ≤ cap := by omega
    have hn40 : n ≤ 54975581388 := by omega
    obtain ⟨c8, hc8⟩ : ∃ c8, c8 = cap - 8 := ⟨_, rfl⟩
    rw [← hc8]
    have hc8b : 20 * n ≤ c8 := by omega
    have HLL := Lib.hid hL
    have hq : (sz : Int) / 16 = ((sz / 16 : Nat) : Int) := by omega
    obtain ⟨q, hqq⟩ : ∃ q, q = sz / 16 := ⟨_, rfl⟩
    have hsq : sz = 16 * q := by omega
    have HSQ := Lib.hid hsq
    have hq2 : (sz : Int) / 16 = (q : Int) := by omega
    have hq3 : q ≤ 65536 := by omega
    have HQ : Hid (sz / 16 = q) := Lib.hid hqq.symm
    obtain ⟨w2, hw2⟩ : ∃ w2, w2 = w1.alloc (.cells (madeCells #[.int .u8 0] sz) 5) := ⟨_, rfl⟩
    obtain ⟨ob, hob⟩ : ∃ ob, ob = w1.heap.size := ⟨_, rfl⟩
    have hb2 : Below w.heap.size w w2 := by rw [hw2]; exact hb1.alloc hb1.size _
    have hO0 : OutAt ob sz [] w2 := by
      unfold OutAt
      rw [hw2, hob, zs_values]
      exact heap_alloc_new _ _
    have hob2 : w.heap.size ≤ ob := by rw [hob]; exact hb1.size
    obtain ⟨i0, hi, hz0, hz1, hz2⟩ := info_parts u8_info
    have hmk := run_make w1 22 5 i0 (.int .u8 0) Tryz.underlying22 hi hz0 .i64 .i64 sz sz (by omega) (by omega) (by rw [hz2]; omega) (by omega)
    rw [hz1, show (Value.int .u8 0).cells = #[.int .u8 0] from rfl] at hmk
    simp only [Int.toNat_natCast, Nat.mul_one] at hmk
    rw [← hw2, ← hob] at hmk
    have HW2 := Lib.hid hw2
    have HOB := Lib.hid hob
    have HB2 := Lib.hid hb2
    have HO0 := Lib.hid hO0
    have HOB2 := Lib.hid hob2
    clear f1 f2 f3 f4 hf0 hn hsz hLL hL hc8 hqq hsq hw2 hob hb2 hO0 hob2 hlen hcap hq hb1
    go_wp2_with fail
    go_loopw [2, 3, 5, 8, 9] (fun s2 s3 s5 s8 _ wr => ∃ (i nx : Nat) (la : Int) (acc : List UInt8) (Ai : Option Addr) (ci li : Nat), i ≤ n ∧ s2 = .slice none 0 0 ∧ s3 = .nilIface ∧ s5 = .slice Ai li ci ∧ s8 = .int .i64 la ∧ -1 ≤ la ∧ la < 65537 ∧ Hid (li = 20 * (n - i) ∧ la = (nx : Int) - 1 ∧ li ≤ ci ∧ (i < n → Ai = some ⟨g, off + 8 + 20 * i, none⟩)) ∧ Hid (runS sz L i = some (nx, acc)) ∧ Hid (OutAt ob sz acc wr) ∧ Hid (Below w.heap.size w wr)) (fun _ _ s5 _ _ _ => match s5 with | .slice _ m _ => m | _ => 0)
    case atStart => exact ⟨0, 0, -1, [], _, _, _, Nat.zero_le _, rfl, rfl, rfl, rfl, by omega, by omega, Lib.hid ⟨by omega, rfl, hc8b, fun _ => rfl⟩, Lib.hid rfl, HO0, HB2⟩
    case round =>
      obtain ⟨i, nx, la, acc, Ai, ci, li, hi, rfl, rfl, rfl, rfl, hla1, hla2, HI, HRUN, HO, HB⟩ := hrel
      by_cases hlt : i < n
      · obtain ⟨i1, i2, i3, i4⟩ := HI.out
        have hA := i4 hlt
        subst hA
        have hli : 20 ≤ li := by omega
        have hli2 : li < 1099511627776 := by omega
        have hrest : ((L.drop (20 * i))).length = li := by rw [List.length_drop, HLL.out]; omega
        have hrow : RowV wr (some ⟨g, off + 8 + 20 * i, none⟩) (bytesV (L.drop (20 * i))) := by
          have h := (HRL.out.1.sub (20 * i) L.length).below HB.out
          rw [List.take_of_length_le (by rw [List.length_drop]; omega)] at h
          exact h
        have hnum := inum_ok g (off + 8 + 20 * i) ci 0 (L.drop (20 * i)) wr hrow (by omega) (by omega) (by omega)
        rw [List.drop_zero, hrest] at hnum
        have hcutA := fun W => run_cut_in (P := Tryz.prog) Tryz.underlying22 Tryz.sizeOf5 (some ⟨g, off + 8 + 20 * i, none⟩) li ci .i64 .i64 (4 : Int) (20 : Int) (by omega) (by omega) (by omega) W
        rw [show ((4 : Int)).toNat = 4 by omega, show ((20 : Int)).toNat - 4 = 16 by omega, cutA_some _ _ _ _ (by omega)] at hcutA
        have hcutB := fun W => run_cut_from (P := Tryz.prog) Tryz.underlying22 Tryz.sizeOf5 (some ⟨g, off + 8 + 20 * i, none⟩) li ci .i64 (20 : Int) (by omega) (by omega) W
        rw [show ((20 : Int)).toNat = 20 by omega] at hcutB
        have hcl : (rowC L i).length = 16 := by simp only [rowC, List.length_take, List.length_drop, HLL.out]; omega
        have hrc : RowV wr (some ⟨g, off + 8 + 20 * i + 4, none⟩) (bytesV (rowC L i)) := by
          have h := hrow.sub 4 16
          rw [List.drop_drop] at h
          exact h
        have hblk := blank_ok g (off + 8 + 20 * i + 4) (ci - 4) (rowC L i) wr hrc hcl
        have hk4 : rowN L i < 4294967296 := num4_lt _
        change Calls _ _ _ _ (fun e w' => e = .returned (.int .i64 ((rowN L i : Nat) : Int)) ∧ w' = wr) at hnum
        obtain ⟨k, hk⟩ : ∃ k, k = rowN L i := ⟨_, rfl⟩
        obtain ⟨c, hc⟩ : ∃ c, c = rowC L i := ⟨_, rfl⟩
        rw [← hk] at hnum hk4
        rw [← hc] at hblk hrc hcl
        have hstep : runS sz L (i + 1) = if nx ≤ k ∧ k < q ∧ blankL c = false then some (k + 1, acc ++ (zs (16 * (k - nx)) ++ c)) else none := by
          rw [runS, HRUN.out]
          show stepS sz L i (nx, acc) = _
          rw [stepS, ← hk, ← hc, HQ.out]
        have HST := Lib.hid hstep
        have HNUM := Lib.hid hnum
        have HBLK := Lib.hid hblk
        have HRC := Lib.hid hrc
        have HCL := Lib.hid hcl
        have HI2 : Hid (la = (nx : Int) - 1) := Lib.hid i2
        have hfail : runS sz L (i + 1) = none → BOwn 5 w.heap.size wr (.slice none 0 0) (spr b).1 ∧ (spr b).2 = 4 := fun h => by
          rw [HFAIL.out (i + 1) (by omega) h]
          exact ⟨BOwn.nil _ _ _, rfl⟩
        have HFA := Lib.hid hfail
        have HNX : Hid (∀ W, OutAt ob sz acc W → acc.length = 16 * nx) := Lib.hid fun _ _ => (runS_inv sz L i nx acc (by rw [HLL.out]; omega) HRUN.out).1
        clear hnum hblk hrc hcl hstep hk hc hrow hrest hfail i1 i2 i3 i4
        go_wp2_with fail
        refine HNUM.out.mono ?_
        rintro e w3 ⟨rfl, rfl⟩
        by_cases h1 : (k : Int) ≤ la
        · have hnone : Hid (runS sz L (i + 1) = none) := Lib.hid (by rw [HST.out, if_neg (by have := HI2.out; omega)])
          go_wp2_with fail
          go_ret2
          exact ⟨_, by rw [(HFA.out hnone.out).2]; rfl, (HFA.out hnone.out).1, HB.out⟩
        by_cases h2 : (q : Int) ≤ (k : Int)
        · have hnone : Hid (runS sz L (i + 1) = none) := Lib.hid (by rw [HST.out, if_neg (by omega)])
          go_wp2_with fail
          go_ret2
          exact ⟨_, by rw [(HFA.out hnone.out).2]; rfl, (HFA.out hnone.out).1, HB.out⟩
        have hk6 : k < 65536 := by omega
        cases hbl : blankL c
        · have hbl2 := hbl
          rw [hbl] at HBLK
          have HOK : Hid (runS sz L (i + 1) = some (k + 1, acc ++ (zs (16 * (k - nx)) ++ c)) ∧ nx ≤ k ∧ k < q) := Lib.hid ⟨by rw [HST.out, if_pos ⟨by have := HI2.out; omega, by omega, hbl⟩], by have := HI2.out; omega, by omega⟩
          have hkz : 16 * k < sz := by have := HSQ.out; omega
          have hcutC := fun W => run_cut_from (P := Tryz.prog) Tryz.underlying22 Tryz.sizeOf5 (some ⟨ob, 0, none⟩) sz sz .i64 ((k : Int) * 16) (by omega) (by omega) W
          rw [show ((k : Int) * 16).toNat = 16 * k by omega, cutA_some _ _ _ _ (by omega), Nat.zero_add] at hcutC
          have hwk : IntKind.i64.wrap ((k : Int) * 16) = (k : Int) * 16 := by rw [IntKind.wrap_i64]; omega
          have HRC2 := Lib.hid (HRC.out)
          have hz16 : 16 * (k + 1) ≤ sz := by have := HSQ.out; have := HOK.out.2.2; omega
          have HZ := Lib.hid hz16
          have HPO : Hid (∀ (j : Nat) v, (bytesV c)[j]? = some v → w3.drew.cell? ((⟨g, off + 8 + 20 * i + 4, none⟩ : Addr).add j) = some v) := Lib.hid (fun j v hj => by
            obtain ⟨g', off', e, h⟩ := HRC.out j v hj
            cases e
            rw [Addr.add_lit]
            exact h)
          have HOD : Hid (w3.drew.heap[ob]? = some (.cells (bytesV (acc ++ zs (sz - acc.length))).toArray 5 (0, 0)) ∧ Below w.heap.size w w3.drew) := Lib.hid ⟨HO.out, HB.out.drew⟩
          have HAC := HNX.out _ HO.out
          have HACL : Hid (acc.length = 16 * nx ∧ (bytesV c).length = 16 ∧ (bytesV (acc ++ zs (sz - acc.length))).length = sz) := Lib.hid ⟨HAC, by rw [bytesV_length, HCL.out], by rw [bytesV_length, List.length_append, zs_length]; have := HOK.out.2; omega⟩
          clear hbl hbl2 HST HFA HAC hz16
          go_wp2_with fail
          refine HBLK.out.mono ?_
          rintro e w4 ⟨rfl, rfl⟩
          go_wp2_with fail
          go_region_law (first
            | (refine step_copy_splice rfl (.tmp 46) (.tmp 48) 22 22 rfl 5 Tryz.underlying22 rfl (some ⟨ob, 16 * k, none⟩) (some ⟨g, off + 8 + 20 * i + 4, none⟩) (sz - 16 * k) (sz - 16 * k) 16 (ci - 4) rfl rfl ob (16 * k) (bytesV (acc ++ zs (sz - acc.length))) 5 HOD.out.1 (bytesV c) (by rw [HACL.out.2.1]; exact (Nat.min_eq_left (by have := HZ.out; omega)).symm) (fun _ => ⟨rfl, _, rfl, HPO.out⟩) (by rw [HACL.out.2.1, HACL.out.2.2]; have := HZ.out; omega) (fun v hv => by simp only [bytesV, List.mem_map] at hv; obtain ⟨x, _, rfl⟩ := hv; rfl) w.heap.size w HOD.out.2 HOB2.out ?_
               intro w5 hg5 hb5
               have HN5 : Hid (OutAt ob sz (acc ++ (zs (16 * (k - nx)) ++ c)) w5 ∧ Below w.heap.size w w5) := Lib.hid ⟨by
                 have h := hg5.out
                 unfold OutAt
                 rw [← out_next HACL.out.1 HOK.out.2.1 HZ.out HCL.out]
                 simp only [splice, HACL.out.2.1] at h
                 rw [h]
                 simp [bytesV], hb5⟩
               clear hg5 hb5))
          all_goals
            go_wp2_with fail
            go_roundw
            case rel =>
              refine ⟨i + 1, k + 1, (k : Int), acc ++ (zs (16 * (k - nx)) ++ c), _, _, _, hlt, rfl, rfl, rfl, rfl, by omega, by omega, Lib.hid ⟨?_, by omega, ?_, ?_⟩, Lib.hid HOK.out.1, Lib.hid HN5.out.1, Lib.hid HN5.out.2⟩
              · have := HI.out.1; omega
              · have := HI.out.2.2.1; omega
              · intro h2
                have h3 := HI.out.2.2.1
                have h4 := HI.out.1
                rw [cutA_some _ _ _ _ (by omega)]
                exact congrArg some (by congr 1)
            case measure => simp; omega
        · have hnone : Hid (runS sz L (i + 1) = none) := Lib.hid (by rw [HST.out, if_neg (by rw [hbl]; rintro ⟨_, _, h⟩; cases h)])
          rw [hbl] at HBLK
          clear hbl
          go_wp2_with fail
          refine HBLK.out.mono ?_
          rintro e w4 ⟨rfl, rfl⟩
          go_wp2_with fail
          go_ret2
          exact ⟨_, by rw [(HFA.out hnone.out).2]; rfl, (HFA.out hnone.out).1, HB.out⟩
      · have hii : i = n := by omega
        have hli : li = 0 := by have := HI.out.1; omega
        subst hii hli
        have HD : Hid (spr b = (acc ++ zs (sz - acc.length), 0)) := Lib.hid (HDONE.out nx acc HRUN.out)
        have hinv := runS_inv sz L i nx acc (by rw [HLL.out]; omega) HRUN.out
        have HOWN := Lib.hid (HO.out.own HOB2.out (by have := hinv.1; have := hinv.2.1; omega) (by omega))
        clear hinv
        go_wp2_with fail
        go_ret2
        rw [HD.out]
        exact ⟨_, rfl, HOWN.out, HB.out⟩
  · have HE : Hid ((spr b) = ([], frmE b)) := Lib.hid (by rw [spr, if_neg (by omega)])
    have hne : (errV (frmE b) = .iface 96 (.int .i64 1)) ∨ (errV (frmE b) = .iface 96 (.int .i64 2)) := by
      rcases hf0 with h | h <;> rw [h]
      · exact .inl rfl
      · exact .inr rfl
    have HN := Lib.hid hne
    obtain ⟨ev, hev⟩ : ∃ ev, ev = errV (frmE b) := ⟨_, rfl⟩
    have HEV := Lib.hid hev
    have HB1 := Lib.hid hb1
    rw [← hev] at hne ⊢
    clear hf0 hev hb1 hlen hcap
    rcases hne with rfl | rfl
    all_goals
      go_wp2_with fail
      go_ret2
      rw [HE.out]
      exact ⟨.slice none 0 0, by rw [← HEV.out]; rfl, BOwn.nil _ _ _, HB1.out⟩
end Go.Proofs.YtoafmlegamjlpaaGreatDoor
namespace Go.Imgp
open Go.Cap
theorem spr_code (b : List UInt8) : (spr b).2 = 0 ∨ (spr b).2 = 3 ∨ (spr b).2 = 4 := by
  rw [spr]
  split
  · split
    · exact .inr (.inr rfl)
    · exact .inl rfl
  · show frmE b = 0 ∨ frmE b = 3 ∨ frmE b = 4
    unfold frmE
    repeat' split
    all_goals simp
/-- An image's config. -/
def cfgL (b : List UInt8) : Nat × Nat × Bool := if 20 ≤ b.length ∧ okC (num4 (b.drop 12)) (num4 (b.drop 16)) = true then (num4 (b.drop 12), num4 (b.drop 16), true) else (0, 0, false)
end Go.Imgp
namespace Go.Proofs.YtoafmlegamjlpaaGreatDoor
open Go.RowKit Go.Colm Go.Cap Go.Mixp Go.Imgp
set_option linter.unusedVariables false
set_option linter.unusedSimpArgs false
set_option maxHeartbeats 1600000 in
theorem ispr_ok (A : Option Addr) (cap : Nat) (b : List UInt8) (w : World) (hr : RowV w A (bytesV b)) (hcap : b.length ≤ cap) (hlen : b.length < 1099511627776) :
    Calls Tryz.prog 12 #[.slice A b.length cap] w fun e w' => ∃ v', e = .returned (.tuple #[v', .int .i64 ((spr b).2 : Int)]) ∧ BOwn 5 w.heap.size w' v' (spr b).1 ∧ Below w.heap.size w w' := by
  have HS := Lib.hid (sprd_ok A cap b w hr hcap hlen)
  have HE := Lib.hid (fun W => errno_ok (spr b).2 W (spr_code b))
  obtain ⟨c, hc⟩ : ∃ c, c = (spr b).2 := ⟨_, rfl⟩
  rw [← hc] at HS HE ⊢
  obtain ⟨ev, hev⟩ : ∃ ev, ev = errV c := ⟨_, rfl⟩
  rw [← hev] at HS HE
  clear hr hc hev
  go_enter Tryz.func12, Tryz.ntmps12
  go_wp2_with fail
  refine HS.out.mono ?_
  rintro e w1 ⟨v1, rfl, h1, h2⟩
  have HV : Hid (BOwn 5 w.heap.size w1 v1 (spr b).1 ∧ Below w.heap.size w w1) := Lib.hid ⟨h1, h2⟩
  clear h1 h2
  go_wp2_with fail
  refine (HE.out _).mono ?_
  rintro e w2 ⟨rfl, rfl⟩
  go_wp2_with fail
  go_ret2
  exact ⟨v1, rfl, HV.out⟩
@[go_sem] theorem build_cfg0 (w : World) : (Instr.build 30 #[]).run Tryz.prog w = .ok (.agg #[.int .i64 0, .int .i64 0]) w := run_build w 30 _ _ (by kernel_rfl)
set_option maxHeartbeats 3200000 in
theorem rright_any (s n : Nat) (w : World) (h1 : s < 8589934592) (h2 : n < 8589934592) : Calls Tryz.prog 32 #[.agg #[.int .i64 (s : Int), .int .i64 (n : Int)]] w fun e w' => e = .returned (.bool (okC s n)) ∧ Below w.heap.size w w' := by
  obtain ⟨w0, hw0, hb0, x0, x1⟩ := cfg_box s n w
  have HB0 := Lib.hid hb0
  have HOK := Lib.hid (@okC_iff s n)
  obtain ⟨q, hq⟩ : ∃ q, q = okC s n := ⟨_, rfl⟩
  rw [← hq] at HOK ⊢
  clear hb0 hq
  go_enter Tryz.func32, Tryz.ntmps32
  go_upto_region 1 with fail
  rw [← hw0]
  clear hw0
  by_cases c1 : 7 ≤ s
  · have d1 : decide ((7 : Int) ≤ (s : Int)) = true := by simp; omega
    by_cases c2 : s ≤ 64
    · have d2 : decide ((s : Int) ≤ 64) = true := by simp; omega
      by_cases c3 : n % 2 = 0
      · have c3' : ((n : Int) % 2 == 0) = true := by rw [beq_iff_eq]; omega
        by_cases c4 : s * 32 ≤ n
        · have c4' : decide (32 * (s : Int) ≤ (n : Int)) = true := by simp; omega
          by_cases c5 : n ≤ 8192
          · have c5' : decide ((n : Int) ≤ 8192) = true := by simp; omega
            obtain rfl : q = true := HOK.out.2 ⟨c1, c2, c3, c4, c5⟩
            go_wp2_with fail
            try go_quiet (fail)
            go_wp2_with fail
            go_ret
            exact ⟨rfl, by first | exact HB0.out | exact below_drewN HB0.out _⟩
          · have c5' : decide ((n : Int) ≤ 8192) = false := by simp; omega
            obtain rfl : q = false := Bool.eq_false_iff.2 fun h => c5 (HOK.out.1 h).2.2.2.2
            go_wp2_with fail
            try go_quiet (fail)
            go_wp2_with fail
            go_ret
            exact ⟨rfl, by first | exact HB0.out | exact below_drewN HB0.out _⟩
        · have c4' : decide (32 * (s : Int) ≤ (n : Int)) = false := by simp; omega
          obtain rfl : q = false := Bool.eq_false_iff.2 fun h => c4 (HOK.out.1 h).2.2.2.1
          go_wp2_with fail
          try go_quiet (fail)
          go_wp2_with fail
          go_ret
          exact ⟨rfl, by first | exact HB0.out | exact below_drewN HB0.out _⟩
      · have c3' : ((n : Int) % 2 == 0) = false := by rw [beq_eq_false_iff_ne]; omega
        obtain rfl : q = false := Bool.eq_false_iff.2 fun h => c3 (HOK.out.1 h).2.2.1
        go_wp2_with fail
        try go_quiet (fail)
        go_wp2_with fail
        go_ret
        exact ⟨rfl, by first | exact HB0.out | exact below_drewN HB0.out _⟩
    · have d2 : decide ((s : Int) ≤ 64) = false := by simp; omega
      obtain rfl : q = false := Bool.eq_false_iff.2 fun h => c2 (HOK.out.1 h).2.1
      go_wp2_with fail
      try go_quiet (fail)
      go_wp2_with fail
      go_ret
      exact ⟨rfl, by first | exact HB0.out | exact below_drewN HB0.out _⟩
  · have d1 : decide ((7 : Int) ≤ (s : Int)) = false := by simp; omega
    obtain rfl : q = false := Bool.eq_false_iff.2 fun h => c1 (HOK.out.1 h).1
    go_wp2_with fail
    try go_quiet (fail)
    go_wp2_with fail
    go_ret
    exact ⟨rfl, by first | exact HB0.out | exact below_drewN HB0.out _⟩
set_option maxRecDepth 100000 in
set_option maxHeartbeats 6400000 in
theorem iconf_ok (A : Option Addr) (cap : Nat) (b : List UInt8) (w : World) (hs : Sz w) (hr : RowV w A (bytesV b)) (hcap : b.length ≤ cap) (hlen : b.length < 1099511627776) :
    Calls Tryz.prog 10 #[.slice A b.length cap] w fun e w' => e = .returned (.tuple #[.agg #[.int .i64 ((cfgL b).1 : Int), .int .i64 ((cfgL b).2.1 : Int)], .bool (cfgL b).2.2]) ∧ Below w.heap.size w w' := by
  obtain ⟨w0, hw0, hb0, x0, x1⟩ := cfg_box 0 0 w
  simp only [show ((0 : Nat) : Int) = 0 from rfl] at hw0 x0 x1
  have hr0 : Whole w0 w.heap.size 30 #[.int .i64 0, .int .i64 0] := by rw [hw0]; exact Whole.new w _ _
  have HR0 := Lib.hid hr0
  have HB0 := Lib.hid hb0
  have f0 := hr0.frozen 0
  have f1 := hr0.frozen 1
  by_cases h20 : b.length < 20
  · have HC : Hid (cfgL b = (0, 0, false)) := Lib.hid (by rw [cfgL, if_neg (by omega)])
    clear hr hr0 hs
    go_enter Tryz.func10, Tryz.ntmps10
    go_upto_region 1 with fail
    rw [← hw0]
    clear hw0
    go_wp2_with fail
    refine bodyPost_ret (results_cell_row2 rfl _ _ w.heap.size 30 _ (0, 0) _ rfl (place2m HR0.out _ _) Tryz.underlying30 rfl (by kernel_rfl)) rfl ?_
    rw [HC.out]
    exact ⟨rfl, HB0.out.trans ((((Kept.refl (fun k => k = w.heap.size) w0).setCell (p := ⟨w.heap.size, 0, none⟩) (.inl rfl) _).setCell (p := ⟨w.heap.size, 1, none⟩) (.inl rfl) _).to_below HB0.out.size fun k hk e => by omega)⟩
  obtain ⟨g, off, rfl, hgw⟩ := hr.some_of (by omega)
  have hn1 := fun (W : World) (hb : Below w.heap.size w W) => inum_ok g off cap 12 b W (hr.below hb) hcap hlen (by omega)
  have hn2 := fun (W : World) (hb : Below w.heap.size w W) => inum_ok g off cap 16 b W (hr.below hb) hcap hlen (by omega)
  have hx4 := num4_lt (b.drop 12)
  have hy4 := num4_lt (b.drop 16)
  have hcf : cfgL b = if okC (num4 (b.drop 12)) (num4 (b.drop 16)) = true then (num4 (b.drop 12), num4 (b.drop 16), true) else (0, 0, false) := by
    unfold cfgL
    by_cases h : okC (num4 (b.drop 12)) (num4 (b.drop 16)) = true
    · rw [if_pos h, if_pos ⟨by omega, h⟩]
    · rw [if_neg h, if_neg (by intro h2; exact h h2.2)]
  obtain ⟨x, hx⟩ : ∃ x, x = num4 (b.drop 12) := ⟨_, rfl⟩
  obtain ⟨y, hy⟩ : ∃ y, y = num4 (b.drop 16) := ⟨_, rfl⟩
  rw [← hx] at hn1 hcf hx4
  rw [← hy] at hn2 hcf hy4
  have HN1 := Lib.hid hn1
  have HN2 := Lib.hid hn2
  have HRT := Lib.hid (fun (W : World) (hb : Below w.heap.size w W) => right_any x y W (hs.below hb) (by omega) (by omega))
  have HCF := Lib.hid hcf
  obtain ⟨L, hL⟩ : ∃ L, L = b.length := ⟨_, rfl⟩
  rw [← hL] at h20 HN1 HN2 ⊢
  clear hr hr0 hs hn1 hn2 hx hy hcf hgw hL hcap hlen
  go_enter Tryz.func10, Tryz.ntmps10
  go_upto_region 1 with fail
  rw [← hw0]
  clear hw0
  go_wp2_with fail
  refine (HN1.out _ HB0.out).mono ?_
  rintro e w1 ⟨rfl, rfl⟩
  have HB1 := HB0
  have HR1 := HR0
  go_wp2_with fail
  refine (HN2.out _ HB1.out).mono ?_
  rintro e w2 ⟨rfl, rfl⟩
  have HB2 := HB1
  have HR2 := HR1
  obtain ⟨w3, hw3⟩ : ∃ w3, w3 = w2.alloc (.cells #[.int .i64 (x : Int), .int .i64 (y : Int)] 30) := ⟨_, rfl⟩
  have hb3 : Below w2.heap.size w2 w3 := by rw [hw3]; exact (Below.refl _ _).alloc (Nat.le_refl _) _
  have hq3 : Whole w3 w2.heap.size 30 #[.int .i64 (x : Int), .int .i64 (y : Int)] := by rw [hw3]; exact Whole.new _ _ _
  have HB3 := Lib.hid (below_chain HB2.out hb3)
  have HR3 : Hid (Whole w3 w.heap.size 30 #[.int .i64 0, .int .i64 0]) := Lib.hid ((hb3.block _ (Whole.lt HR2.out)).trans HR2.out)
  have z0 : w3.cell? ⟨w2.heap.size, 0, none⟩ = some (.int .i64 (x : Int)) := hq3.cell 0
  have z1 : w3.cell? ⟨w2.heap.size, 1, none⟩ = some (.int .i64 (y : Int)) := hq3.cell 1
  have HQ3 := Lib.hid hq3
  have HRT3 := Lib.hid (HRT.out _ HB3.out)
  clear hb3 hq3 x0 x1 f0 f1
  go_upto_region 4 with fail
  rw [← hw3]
  clear hw3
  go_wp2_with fail
  refine HRT3.out.mono ?_
  rintro e w4 ⟨rfl, hb4⟩
  have z0 := cell_on z0 hb4
  have z1 := cell_on z1 hb4
  have HB4 := Lib.hid (below_chain HB3.out hb4)
  have hr4 : Whole w4 w.heap.size 30 #[.int .i64 0, .int .i64 0] := (hb4.block _ (Whole.lt HR3.out)).trans HR3.out
  have f0 := hr4.frozen 0
  have f1 := hr4.frozen 1
  have x0 : w4.cell? ⟨w.heap.size, 0, none⟩ = some (.int .i64 0) := hr4.cell 0
  have x1 : w4.cell? ⟨w.heap.size, 1, none⟩ = some (.int .i64 0) := hr4.cell 1
  have HR4 := Lib.hid hr4
  clear hb4 hr4
  cases hok : okC x y
  · have HC : Hid (cfgL b = (0, 0, false)) := Lib.hid (by rw [HCF.out, hok]; rfl)
    clear hok
    go_wp2_with fail
    refine bodyPost_ret (results_cell_row2 rfl _ _ w.heap.size 30 _ (0, 0) _ rfl (place2m HR4.out _ _) Tryz.underlying30 rfl (by kernel_rfl)) rfl ?_
    rw [HC.out]
    exact ⟨rfl, HB4.out.trans ((((Kept.refl (fun k => k = w.heap.size) w4).setCell (p := ⟨w.heap.size, 0, none⟩) (.inl rfl) _).setCell (p := ⟨w.heap.size, 1, none⟩) (.inl rfl) _).to_below HB4.out.size fun k hk e => by omega)⟩
  · have HC : Hid (cfgL b = (x, y, true)) := Lib.hid (by rw [HCF.out, hok]; rfl)
    clear hok
    go_wp2_with fail
    refine bodyPost_ret (results_cell_row2 rfl _ _ w.heap.size 30 _ (0, 0) _ rfl (place2m HR4.out _ _) Tryz.underlying30 rfl (by kernel_rfl)) rfl ?_
    rw [HC.out]
    exact ⟨rfl, HB4.out.trans ((((Kept.refl (fun k => k = w.heap.size) w4).setCell (p := ⟨w.heap.size, 0, none⟩) (.inl rfl) _).setCell (p := ⟨w.heap.size, 1, none⟩) (.inl rfl) _).to_below HB4.out.size fun k hk e => by omega)⟩
set_option maxRecDepth 100000 in
set_option maxHeartbeats 6400000 in
theorem rconf_ok (A : Option Addr) (cap : Nat) (b : List UInt8) (w : World) (hs : Sz w) (hr : RowV w A (bytesV b)) (hcap : b.length ≤ cap) (hlen : b.length < 1099511627776) :
    Calls Tryz.prog 11 #[.slice A b.length cap] w fun e w' => e = .returned (.tuple #[.agg #[.int .i64 ((cfgL b).1 : Int), .int .i64 ((cfgL b).2.1 : Int)], .bool (cfgL b).2.2]) ∧ Below w.heap.size w w' := by
  obtain ⟨w0, hw0, hb0, x0, x1⟩ := cfg_box 0 0 w
  simp only [show ((0 : Nat) : Int) = 0 from rfl] at hw0 x0 x1
  have hr0 : Whole w0 w.heap.size 30 #[.int .i64 0, .int .i64 0] := by rw [hw0]; exact Whole.new w _ _
  have HR0 := Lib.hid hr0
  have HB0 := Lib.hid hb0
  have f0 := hr0.frozen 0
  have f1 := hr0.frozen 1
  by_cases h20 : b.length < 20
  · have HC : Hid (cfgL b = (0, 0, false)) := Lib.hid (by rw [cfgL, if_neg (by omega)])
    clear hr hr0 hs
    go_enter Tryz.func11, Tryz.ntmps11
    go_upto_region 1 with fail
    rw [← hw0]
    clear hw0
    go_wp2_with fail
    refine bodyPost_ret (results_cell_row2 rfl _ _ w.heap.size 30 _ (0, 0) _ rfl (place2m HR0.out _ _) Tryz.underlying30 rfl (by kernel_rfl)) rfl ?_
    rw [HC.out]
    exact ⟨rfl, HB0.out.trans ((((Kept.refl (fun k => k = w.heap.size) w0).setCell (p := ⟨w.heap.size, 0, none⟩) (.inl rfl) _).setCell (p := ⟨w.heap.size, 1, none⟩) (.inl rfl) _).to_below HB0.out.size fun k hk e => by omega)⟩
  obtain ⟨g, off, rfl, hgw⟩ := hr.some_of (by omega)
  have hn1 := fun (W : World) (hb : Below w.heap.size w W) => rnum_ok g off cap 12 b W (hr.below hb) hcap hlen (by omega)
  have hn2 := fun (W : World) (hb : Below w.heap.size w W) => rnum_ok g off cap 16 b W (hr.below hb) hcap hlen (by omega)
  have hx4 := num4_lt (b.drop 12)
  have hy4 := num4_lt (b.drop 16)
  have hcf : cfgL b = if okC (num4 (b.drop 12)) (num4 (b.drop 16)) = true then (num4 (b.drop 12), num4 (b.drop 16), true) else (0, 0, false) := by
    unfold cfgL
    by_cases h : okC (num4 (b.drop 12)) (num4 (b.drop 16)) = true
    · rw [if_pos h, if_pos ⟨by omega, h⟩]
    · rw [if_neg h, if_neg (by intro h2; exact h h2.2)]
  obtain ⟨x, hx⟩ : ∃ x, x = num4 (b.drop 12) := ⟨_, rfl⟩
  obtain ⟨y, hy⟩ : ∃ y, y = num4 (b.drop 16) := ⟨_, rfl⟩
  rw [← hx] at hn1 hcf hx4
  rw [← hy] at hn2 hcf hy4
  have HN1 := Lib.hid hn1
  have HN2 := Lib.hid hn2
  have HRT := Lib.hid (fun (W : World) (hb : Below w.heap.size w W) => rright_any x y W (by omega) (by omega))
  have HCF := Lib.hid hcf
  obtain ⟨L, hL⟩ : ∃ L, L = b.length := ⟨_, rfl⟩
  rw [← hL] at h20 HN1 HN2 ⊢
  clear hr hr0 hs hn1 hn2 hx hy hcf hgw hL hcap hlen
  go_enter Tryz.func11, Tryz.ntmps11
  go_upto_region 1 with fail
  rw [← hw0]
  clear hw0
  go_wp2_with fail
  refine (HN1.out _ HB0.out).mono ?_
  rintro e w1 ⟨rfl, nd, hw1⟩
  have hb1 : Below w0.heap.size w0 w1 := by rw [hw1]; exact below_of_drewN _ _
  have HB1 := Lib.hid (below_chain HB0.out hb1)
  have HR1 := Lib.hid ((hb1.block _ HR0.out.lt).trans HR0.out)
  clear hw1 hb1
  go_wp2_with fail
  refine (HN2.out _ HB1.out).mono ?_
  rintro e w2 ⟨rfl, nd, hw2⟩
  have hb2 : Below w1.heap.size w1 w2 := by rw [hw2]; exact below_of_drewN _ _
  have HB2 := Lib.hid (below_chain HB1.out hb2)
  have HR2 : Hid (Whole w2 w.heap.size 30 #[.int .i64 0, .int .i64 0]) := Lib.hid ((hb2.block _ (Whole.lt HR1.out)).trans HR1.out)
  clear hw2 hb2
  obtain ⟨w3, hw3⟩ : ∃ w3, w3 = w2.alloc (.cells #[.int .i64 (x : Int), .int .i64 (y : Int)] 30) := ⟨_, rfl⟩
  have hb3 : Below w2.heap.size w2 w3 := by rw [hw3]; exact (Below.refl _ _).alloc (Nat.le_refl _) _
  have hq3 : Whole w3 w2.heap.size 30 #[.int .i64 (x : Int), .int .i64 (y : Int)] := by rw [hw3]; exact Whole.new _ _ _
  have HB3 := Lib.hid (below_chain HB2.out hb3)
  have HR3 : Hid (Whole w3 w.heap.size 30 #[.int .i64 0, .int .i64 0]) := Lib.hid ((hb3.block _ (Whole.lt HR2.out)).trans HR2.out)
  have z0 : w3.cell? ⟨w2.heap.size, 0, none⟩ = some (.int .i64 (x : Int)) := hq3.cell 0
  have z1 : w3.cell? ⟨w2.heap.size, 1, none⟩ = some (.int .i64 (y : Int)) := hq3.cell 1
  have HQ3 := Lib.hid hq3
  have HRT3 := Lib.hid (HRT.out _ HB3.out)
  clear hb3 hq3 x0 x1 f0 f1
  go_upto_region 4 with fail
  rw [← hw3]
  clear hw3
  go_wp2_with fail
  refine HRT3.out.mono ?_
  rintro e w4 ⟨rfl, hb4⟩
  have z0 := cell_on z0 hb4
  have z1 := cell_on z1 hb4
  have HB4 := Lib.hid (below_chain HB3.out hb4)
  have hr4 : Whole w4 w.heap.size 30 #[.int .i64 0, .int .i64 0] := (hb4.block _ (Whole.lt HR3.out)).trans HR3.out
  have f0 := hr4.frozen 0
  have f1 := hr4.frozen 1
  have x0 : w4.cell? ⟨w.heap.size, 0, none⟩ = some (.int .i64 0) := hr4.cell 0
  have x1 : w4.cell? ⟨w.heap.size, 1, none⟩ = some (.int .i64 0) := hr4.cell 1
  have HR4 := Lib.hid hr4
  clear hb4 hr4
  cases hok : okC x y
  · have HC : Hid (cfgL b = (0, 0, false)) := Lib.hid (by rw [HCF.out, hok]; rfl)
    clear hok
    go_wp2_with fail
    refine bodyPost_ret (results_cell_row2 rfl _ _ w.heap.size 30 _ (0, 0) _ rfl (place2m HR4.out _ _) Tryz.underlying30 rfl (by kernel_rfl)) rfl ?_
    rw [HC.out]
    exact ⟨rfl, HB4.out.trans ((((Kept.refl (fun k => k = w.heap.size) w4).setCell (p := ⟨w.heap.size, 0, none⟩) (.inl rfl) _).setCell (p := ⟨w.heap.size, 1, none⟩) (.inl rfl) _).to_below HB4.out.size fun k hk e => by omega)⟩
  · have HC : Hid (cfgL b = (x, y, true)) := Lib.hid (by rw [HCF.out, hok]; rfl)
    clear hok
    go_wp2_with fail
    refine bodyPost_ret (results_cell_row2 rfl _ _ w.heap.size 30 _ (0, 0) _ rfl (place2m HR4.out _ _) Tryz.underlying30 rfl (by kernel_rfl)) rfl ?_
    rw [HC.out]
    exact ⟨rfl, HB4.out.trans ((((Kept.refl (fun k => k = w.heap.size) w4).setCell (p := ⟨w.heap.size, 0, none⟩) (.inl rfl) _).setCell (p := ⟨w.heap.size, 1, none⟩) (.inl rfl) _).to_below HB4.out.size fun k hk e => by omega)⟩
end Go.Proofs.YtoafmlegamjlpaaGreatDoor
