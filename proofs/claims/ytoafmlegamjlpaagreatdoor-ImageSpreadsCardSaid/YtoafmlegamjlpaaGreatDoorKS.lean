/-
  The walk of the document's Squeeze. No condition but what lies there.
  The walk of errors.Is over layer image's two errors; of its errno. No condition.
  The walk of image.framed. No condition but what lies there.
-/
import Derived.Test.YtoafmlegamjlpaaGreatDoorKR
import Derived.LaidEql
import Derived.Stop.Asserts
import Derived.RowKitTokens
import Derived.Lib.IfaceEq
namespace Go.Proofs.YtoafmlegamjlpaaGreatDoor
open Go.RowKit Go.Colm Go.Cap Go.Mixp Go.Imgp
set_option linter.unusedVariables false
set_option linter.unusedSimpArgs false
theorem four_any (n : Nat) (w : World) (hn : n < 4294967296) : Calls Tryz.prog 27 #[.int .i64 (n : Int)] w fun e w' => ∃ v, e = .returned v ∧ ∃ g, v = .slice (some ⟨g, 0, none⟩) 4 4 ∧ BOwn 5 w.heap.size w' v (le4 n) ∧ RowV w' (some ⟨g, 0, none⟩) (bytesV (le4 n)) ∧ Below w.heap.size w w' := by
  refine (four_ok n w hn).mono ?_
  rintro e w' ⟨rfl, h1, h2⟩
  refine ⟨_, rfl, _, rfl, h1, ?_, h2⟩
  obtain ⟨A, c, e1, _, hr, _⟩ := h1.slice
  cases e1
  exact hr
theorem row_apart {B : Nat} {w w' : World} {v : Value} {l m : List UInt8} {A : Option Addr} (h : BOwn 5 B w v l) (hr : RowV w A (bytesV m)) (hk : Kept (fun k => v.ownBlock = some k) w w') (hA : ∀ a, A = some a → a.block < B ∨ v.ownBlock ≠ some a.block) : RowV w' A (bytesV m) :=
  row_kept hr hk fun a e hh => by
    rcases hA a e with h1 | h1
    · have := (own_ge h hh).1
      omega
    · exact h1 hh
set_option maxRecDepth 100000 in
set_option maxHeartbeats 12800000 in
theorem rsqz_ok (A : Option Addr) (cap : Nat) (b : List UInt8) (w : World) (hr : RowV w A (bytesV b)) (hcap : b.length ≤ cap) (hlen : b.length < 1099511627776) :
    Calls Tryz.prog 9 #[.slice A b.length cap] w fun e w' => ∃ v', e = .returned (.tuple #[v', .int .i64 ((sqz b).2 : Int)]) ∧ BOwn 5 w.heap.size w' v' (sqz b).1 ∧ Below w.heap.size w w' := by
  have HM := Lib.hid (rmay_any b.length w hlen)
  cases hm : mayB b.length
  · rw [hm] at HM
    have HS : Hid (sqz b = ([], 2)) := Lib.hid (by rw [sqz, hm]; rfl)
    go_enter Tryz.func9, Tryz.ntmps9
    go_wp2_with fail
    refine HM.out.mono ?_
    rintro e w1 ⟨rfl, rfl⟩
    go_wp2_with fail
    go_ret2
    rw [HS.out]
    exact ⟨_, rfl, BOwn.nil _ _ _, Below.refl _ _⟩
  · rw [hm] at HM
    obtain ⟨m1, m2, m3⟩ := Go.Imgp.may_iff.1 hm
    have HS : Hid (sqz b = (sqzL b, 0)) := Lib.hid (by rw [sqz, hm]; rfl)
    obtain ⟨g, off, rfl, hgw⟩ := hr.some_of (by omega)
    have HR := Lib.hid hr
    have HGW := Lib.hid hgw
    obtain ⟨q, hq⟩ : ∃ q, q = b.length / 16 := ⟨_, rfl⟩
    have hq16 : b.length = 16 * q := by omega
    have HQ := Lib.hid hq
    have HQ16 := Lib.hid hq16
    have HLL : Hid (∀ i, i ≤ q → (linesL b i).length = 20 * cnt b i ∧ cnt b i ≤ i) := Lib.hid fun i hi => ⟨linesL_length b i (by omega), cnt_le b i⟩
    have hql : q ≤ 65536 := by omega
    have HBL : Hid (b.length ≤ 1048576) := Lib.hid (by omega)
    obtain ⟨L, hL⟩ : ∃ L, L = b.length := ⟨_, rfl⟩
    have HLE := Lib.hid hL
    have hLq : L = 16 * q := by omega
    have HLQ := Lib.hid hLq
    have hL2 : L ≤ 1048576 := by omega
    have hcapL : L ≤ cap := by omega
    rw [← hL] at HM ⊢
    have HW0 : Hid (∀ s4 : Value, s4 = .slice none 0 0 → BOwn 5 w.heap.size w s4 (linesL b 0)) := Lib.hid fun s h => by rw [h]; exact BOwn.nil _ _ _
    clear hr hgw hq m1 m2 m3 hm hq16 hL hLq hlen hcap
    go_enter Tryz.func9, Tryz.ntmps9
    go_wp2_with fail
    refine HM.out.mono ?_
    rintro e w1 ⟨rfl, rfl⟩
    go_wp2_with fail
    go_loopw [4, 5, 6] (fun s4 s5 s6 wr => ∃ (i at_ n : Nat) (v : Value), i ≤ q ∧ s6 = .int .i64 at_ ∧ s5 = .int .i64 n ∧ v = s4 ∧ Hid (at_ = 16 * i ∧ n = cnt b i) ∧ Hid (BOwn 5 w1.heap.size wr v (linesL b i)) ∧ Hid (Below w1.heap.size w1 wr)) (fun _ _ s6 _ => match s6 with | .int _ m => L - m.toNat | _ => 0)
    case atStart => exact ⟨0, 0, 0, _, Nat.zero_le _, rfl, rfl, rfl, Lib.hid ⟨rfl, rfl⟩, Lib.hid (HW0.out _ rfl), Lib.hid (Below.refl _ _)⟩
    case round =>
      obtain ⟨i, at_, n, v, hi, rfl, rfl, hv4, HI, HL, HB⟩ := hrel
      subst hv4
      have hat := HI.out.1
      have hLq := HLQ.out
      have hcn := (HLL.out i hi).2
      have hn6 : n ≤ 65536 := by have := HI.out.2; omega
      by_cases hlt : i < q
      · have hlt2 : at_ < L := by omega
        have hat2 : at_ ≤ 1048576 := by omega
        have hrr : RowV wr (some ⟨g, off, none⟩) (bytesV b) := HR.out.below HB.out
        have hbk := rblank_ok g off cap at_ b wr hrr (by have := HBL.out; omega) (by have := HLE.out; omega)
        rw [← HLE.out] at hbk
        have hce : (b.drop at_).take 16 = chunk b i := by rw [chunk, hat]
        rw [hce] at hbk
        have HBK := Lib.hid hbk
        have HCE := Lib.hid hce
        have h16 : at_ + 16 ≤ L := by omega
        cases hb : blankL (chunk b i)
        · have hcut := fun W => run_cut_in (P := Tryz.prog) Tryz.underlying22 Tryz.sizeOf5 (some ⟨g, off, none⟩) L cap .i64 .i64 (at_ : Int) ((at_ : Int) + 16) (by omega) (by omega) (by omega) W
          rw [show ((at_ : Int)).toNat = at_ by omega, show ((at_ : Int) + 16).toNat - at_ = 16 by omega, cutA_some _ _ _ _ (by omega)] at hcut
          have hdiv : (at_ : Int) / 16 = (i : Int) := by omega
          have hiv : IntKind.i64.wrap (i : Int) = (i : Int) := by rw [IntKind.wrap_i64]; omega
          have hwr : IntKind.i64.wrap ((at_ : Int) + 16) = (at_ : Int) + 16 := by rw [IntKind.wrap_i64]; omega
          have HF := Lib.hid (fun W => four_any i W (by omega))
          have HLN : Hid ((linesL b i).length ≤ 2000000 ∧ (chunk b i).length = 16 ∧ linesL b (i + 1) = linesL b i ++ le4 i ++ chunk b i ∧ cnt b (i + 1) = cnt b i + 1) := Lib.hid ⟨by have := (HLL.out i hi).1; omega, chunk_length (by have := HLE.out; omega), by rw [linesL, addL, if_neg (by rw [hb]; decide), List.append_assoc], by rw [cnt, if_neg (by rw [hb]; decide)]⟩
          rw [hb] at HBK
          have HD : Hid (BOwn 5 w1.heap.size wr.drew v (linesL b i) ∧ Below w1.heap.size w1 wr.drew ∧ RowV wr.drew (some ⟨g, off, none⟩) (bytesV b)) := Lib.hid ⟨HL.out, HB.out.drew, hrr⟩
          have HGE : Hid (w1.heap.size ≤ wr.heap.size) := Lib.hid HB.out.size
          clear hbk hce hb hat hLq hcn hrr
          go_wp2_with fail
          refine HBK.out.mono ?_
          rintro e w2 ⟨rfl, rfl⟩
          go_wp2_with fail
          go_region_law (first
            | (refine step_call2i rfl 27 #[.int .i64 (i : Int)] (by first | kernel_rfl | rfl | (simp [execOp, go_sem])) _ (HF.out _) ?_
               intro v5 w5 h5
               obtain ⟨g5, rfl, h5a, h5b, h5c⟩ := h5
               have HV5 : Hid (BOwn 5 w1.heap.size w5 v (linesL b i) ∧ RowV w5 (some ⟨g5, 0, none⟩) (bytesV (le4 i)) ∧ Below w1.heap.size w1 w5 ∧ RowV w5 (some ⟨g, off, none⟩) (bytesV b)) := Lib.hid ⟨HD.out.1.stays (Kept.below h5c fun _ => False) fun _ _ h => h, h5b, below_chain HD.out.2.1 h5c, HD.out.2.2.below h5c⟩
               clear h5a h5b h5c)
            | (refine step_app_b rfl _ _ 22 rfl 5 Tryz.underlying22 u8_info w1.heap.size v (linesL b i) rfl HV5.out.1 (some ⟨g5, 0, none⟩) (le4 i) 4 rfl HV5.out.2.1 (fun h => by cases h) (by have := HLN.out.1; rw [le4_length]; omega) HV5.out.2.2.1.size ?_
               intro v6 w6 h6 hk6 _
               have HV6 : Hid (BOwn 5 w1.heap.size w6 v6 (linesL b i ++ le4 i) ∧ RowV w6 (some ⟨g, off, none⟩) (bytesV b) ∧ Below w1.heap.size w1 w6) := Lib.hid ⟨h6, row_apart HV5.out.1 HV5.out.2.2.2 hk6 (fun a e => by cases e; exact .inl HGW.out), HV5.out.2.2.1.trans (hk6.to_below HV5.out.2.2.1.size fun k hk e => by have := (own_ge HV5.out.1 e).1; omega)⟩
               clear h6 hk6)
            | (refine step_app_b rfl _ _ 22 rfl 5 Tryz.underlying22 u8_info w1.heap.size v6 (linesL b i ++ le4 i) rfl HV6.out.1 (some ⟨g, off + at_, none⟩) (chunk b i) (cap - at_) (by rw [HLN.out.2.1]; rfl) (by have h := HV6.out.2.1.sub at_ 16; rw [HCE.out] at h; exact h) (fun h => by cases h) (by have := HLN.out.1; have := HLN.out.2.1; rw [List.length_append, le4_length]; omega) HV6.out.2.2.size ?_
               intro v7 w7 h7 hk7 _
               have HV7 : Hid (BOwn 5 w1.heap.size w7 v7 (linesL b (i + 1)) ∧ Below w1.heap.size w1 w7) := Lib.hid ⟨by rw [HLN.out.2.2.1]; exact h7, HV6.out.2.2.trans (hk7.to_below HV6.out.2.2.size fun k hk e => by have := (own_ge HV6.out.1 e).1; omega)⟩
               clear h7 hk7))
          all_goals
            go_wp2_with fail
            go_roundw
            case rel => exact ⟨i + 1, at_ + 16, n + 1, v7, hlt, by go_num, by go_num, rfl, Lib.hid ⟨by have := HI.out.1; omega, by rw [HLN.out.2.2.2, HI.out.2]⟩, Lib.hid HV7.out.1, Lib.hid HV7.out.2⟩
            case measure => simp; omega
        · have HN : Hid (linesL b (i + 1) = linesL b i ∧ cnt b (i + 1) = cnt b i) := Lib.hid ⟨by rw [linesL, addL, if_pos hb], by rw [cnt, if_pos hb]⟩
          rw [hb] at HBK
          clear hbk hce hb hat hLq hcn hrr
          go_wp2_with fail
          refine HBK.out.mono ?_
          rintro e w2 ⟨rfl, rfl⟩
          go_wp2_with fail
          go_roundw
          case rel => exact ⟨i + 1, at_ + 16, n, v, hlt, by go_num, rfl, rfl, Lib.hid ⟨by have := HI.out.1; omega, by rw [HN.out.2, HI.out.2]⟩, Lib.hid (by rw [HN.out.1]; exact HL.out), HB⟩
          case measure => simp; omega
      · have hii : i = q := by omega
        subst hii
        have hlt2 : ¬ at_ < L := by omega
        have hsz : w1.heap.size ≤ wr.heap.size := HB.out.size
        obtain ⟨A3, c3, hv, hc3, hrv, hnone, hA3⟩ := HL.out.slice
        have hhd : headL b = le4 L ++ le4 n ++ linesL b i := by
          rw [headL, HLE.out, show b.length / 16 = i by have := HLE.out; omega, (HLL.out i hi).1, HI.out.2, show 20 * cnt b i / 20 = cnt b i by omega]
        have HHD := Lib.hid hhd
        have HLZ : Hid ((linesL b i).length ≤ 2000000) := Lib.hid (by have := (HLL.out i hi).1; omega)
        have HF := Lib.hid (fun W n (hn : n < 4294967296) => four_any n W hn)
        have HF1 := Lib.hid (HF.out wr L (by omega))
        have HRV : Hid (RowV wr A3 (bytesV (linesL b i)) ∧ (A3 = none → c3 = 0) ∧ ∀ a, A3 = some a → a.block < wr.heap.size) := Lib.hid ⟨hrv, hnone, fun a e => (own_ge HL.out (k := a.block) (by rw [hv, e]; rfl)).2⟩
        have HVE := Lib.hid hv
        obtain ⟨ln, hln⟩ : ∃ ln, ln = (linesL b i).length := ⟨_, rfl⟩
        have HLN := Lib.hid hln
        rw [← hln] at hv
        clear hat hLq hcn hhd hrv hnone hA3 hc3 hln HLL
        subst hv
        go_wp2_with fail
        refine HF1.out.mono ?_
        rintro e w2 ⟨v2, rfl, g2, rfl, h2a, h2b, h2c⟩
        have HF2 := Lib.hid (HF.out w2 n (by omega))
        have HV2 : Hid (BOwn 5 wr.heap.size w2 (.slice (some ⟨g2, 0, none⟩) 4 4) (le4 L) ∧ Below wr.heap.size wr w2) := Lib.hid ⟨h2a, h2c⟩
        clear h2a h2b h2c HF1
        go_wp2_with fail
        refine HF2.out.mono ?_
        rintro e w3 ⟨v3, rfl, g3, rfl, h3a, h3b, h3c⟩
        have HV3 : Hid (BOwn 5 wr.heap.size w3 (.slice (some ⟨g2, 0, none⟩) 4 4) (le4 L) ∧ RowV w3 (some ⟨g3, 0, none⟩) (bytesV (le4 n)) ∧ RowV w3 A3 (bytesV (linesL b i)) ∧ Below wr.heap.size wr w3) := Lib.hid ⟨HV2.out.1.stays (Kept.below h3c fun _ => False) fun _ _ h => h, h3b, (HRV.out.1.below HV2.out.2).below h3c, below_chain HV2.out.2 h3c⟩
        clear h3a h3b h3c HF2
        obtain ⟨hl, hhl⟩ : ∃ hl, hl = (headL b).length := ⟨_, rfl⟩
        have HHL := Lib.hid hhl
        have hhl2 : hl ≤ 3000000 := by rw [hhl, HHD.out, List.length_append, List.length_append, le4_length, le4_length]; have := HLZ.out; omega
        have hsm := sum_lt (headL b)
        obtain ⟨sm, hsm2⟩ : ∃ sm, sm = sumL (headL b) := ⟨_, rfl⟩
        rw [← hsm2] at hsm
        have HSM := Lib.hid hsm2
        clear hhl hsm2
        go_wp2_with (first
          | (at_builtin; refine wpList_app_b rfl _ _ 22 rfl 5 Tryz.underlying22 u8_info wr.heap.size (.slice (some ⟨g2, 0, none⟩) 4 4) (le4 L) rfl HV3.out.1 (some ⟨g3, 0, none⟩) (le4 n) 4 rfl HV3.out.2.1 (fun h => by cases h) (by rw [le4_length, le4_length]; omega) HV3.out.2.2.2.size ?_; intro v4 w4 h4 hk4 hat4; have HV4 : Hid (BOwn 5 wr.heap.size w4 v4 (le4 L ++ le4 n) ∧ RowV w4 A3 (bytesV (linesL b i)) ∧ Below wr.heap.size wr w4) := Lib.hid ⟨h4, row_apart HV3.out.1 HV3.out.2.2.1 hk4 (fun a e => .inl (HRV.out.2.2 a e)), HV3.out.2.2.2.trans (hk4.to_below HV3.out.2.2.2.size fun k hk e => by have := (own_ge HV3.out.1 e).1; omega)⟩; clear h4 hk4 hat4)
          | (at_builtin; refine wpList_app_b rfl _ _ 22 rfl 5 Tryz.underlying22 u8_info wr.heap.size v4 (le4 L ++ le4 n) rfl HV4.out.1 A3 (linesL b i) c3 (by rw [← HLN.out]; rfl) HV4.out.2.1 HRV.out.2.1 (by have := HLZ.out; rw [List.length_append, le4_length, le4_length]; omega) HV4.out.2.2.size ?_; intro v5 w5 h5 hk5 _; have HV5 : Hid (BOwn 5 wr.heap.size w5 v5 (headL b) ∧ Below wr.heap.size wr w5) := Lib.hid ⟨by rw [HHD.out]; exact h5, HV4.out.2.2.trans (hk5.to_below HV4.out.2.2.size fun k hk e => by have := (own_ge HV4.out.1 e).1; omega)⟩; clear h5 hk5; obtain ⟨A5, c5, e5, _, hr5, _⟩ := HV5.out.1.slice; have HR5 := Lib.hid hr5; rw [← HHL.out] at e5; clear hr5; subst e5))
        have hby := rbytes_any 2166136261 A5 (headL b) c5 w5 (by decide) (by decide) (by rw [← HHL.out]; omega) HR5.out
        rw [← HHL.out, show mBytes (Int.toNat 2166136261) (headL b) = sm from HSM.out.symm] at hby
        have HBY := Lib.hid hby
        clear hby
        refine HBY.out.mono ?_
        rintro e w6 ⟨rfl, nd, hw6⟩
        have hbd : Below w5.heap.size w5 w6 := by rw [hw6]; exact below_of_drewN _ _
        have HV6 : Hid (BOwn 5 wr.heap.size w6 (.slice A5 hl c5) (headL b) ∧ Below wr.heap.size wr w6) := Lib.hid ⟨HV5.out.1.stays (Kept.below hbd fun _ => False) fun _ _ h => h, HV5.out.2.trans (hbd.mono HV5.out.2.size)⟩
        have HF6 := Lib.hid (HF.out w6 sm hsm)
        clear hw6 hbd HBY
        go_wp2_with fail
        refine HF6.out.mono ?_
        rintro e w7 ⟨v7, rfl, g7, rfl, h7a, h7b, h7c⟩
        have HV7 : Hid (BOwn 5 wr.heap.size w7 (.slice A5 hl c5) (headL b) ∧ RowV w7 (some ⟨g7, 0, none⟩) (bytesV (le4 sm)) ∧ Below wr.heap.size wr w7) := Lib.hid ⟨HV6.out.1.stays (Kept.below h7c fun _ => False) fun _ _ h => h, h7b, below_chain HV6.out.2 h7c⟩
        clear h7a h7b h7c HF6
        go_wp2_with (at_builtin; refine wpList_app_b rfl _ _ 22 rfl 5 Tryz.underlying22 u8_info wr.heap.size (.slice A5 hl c5) (headL b) rfl HV7.out.1 (some ⟨g7, 0, none⟩) (le4 sm) 4 rfl HV7.out.2.1 (fun h => by cases h) (by rw [le4_length, ← HHL.out]; omega) HV7.out.2.2.size ?_; intro v8 w8 h8 hk8 _; have HV8 : Hid (BOwn 5 wr.heap.size w8 v8 (sqzL b) ∧ Below wr.heap.size wr w8) := Lib.hid ⟨by rw [sqzL, ← HSM.out]; exact h8, HV7.out.2.2.trans (hk8.to_below HV7.out.2.2.size fun k hk e => by have := (own_ge HV7.out.1 e).1; omega)⟩; clear h8 hk8)
        go_ret2
        rw [HS.out]
        exact ⟨_, rfl, HV8.out.1.base hsz, HB.out.trans (HV8.out.2.mono hsz)⟩
end Go.Proofs.YtoafmlegamjlpaaGreatDoor
namespace Go.Proofs.YtoafmlegamjlpaaGreatDoor
open Go.RowKit Go.Extern.Stop Go.Stop Go.Extern
theorem imTypeOf (v : Value) (w : World) : (Extern.ReflectliteType.typeOf #[.iface 96 v]).run Tryz.prog w = .ok (.iface 202 (.agg #[.pointer (some ⟨7, 96, none⟩)])) w := by kernel_rfl
/-- What Comparable of a type's description does. -/
def imCmp : Array Value → Sem Value := Extern.ReflectliteType.method fun t => do Extern.Rtype.noPackHeld "Comparable" t; pure (.bool (← typeInfo t).comparable)
theorem imComparable (w : World) : (imCmp #[.agg #[.pointer (some ⟨7, 96, none⟩)]]).run Tryz.prog w = .ok (.bool true) w := by kernel_rfl
theorem imMethod (v : Value) (w : World) : (Go.method 461 202 v "Comparable").run Tryz.prog w = .ok (336, v) w := by kernel_rfl
theorem imComp : (Tryz.prog.info? 96).map (·.comparable) = some true := by kernel_rfl
theorem imNoIs (v : Value) (xT : TypeId) (w : World) : (Instr.typeAssert (.iface 96 v) xT 204 true).run Tryz.prog w = .ok (.tuple #[.nilIface, .bool false]) w := run_typeAssert_lacksB Tryz.underlying204 (by kernel_rfl) (by kernel_rfl) v xT w
theorem imNoUnwrap (v : Value) (xT : TypeId) (w : World) : (Instr.typeAssert (.iface 96 v) xT 207 true).run Tryz.prog w = .ok (.tuple #[.nilIface, .bool false]) w := run_typeAssert_lacksB Tryz.underlying207 (by kernel_rfl) (by kernel_rfl) v xT w
theorem imNoUnwraps (v : Value) (xT : TypeId) (w : World) : (Instr.typeAssert (.iface 96 v) xT 209 true).run Tryz.prog w = .ok (.tuple #[.nilIface, .bool false]) w := run_typeAssert_lacksB Tryz.underlying209 (by kernel_rfl) (by kernel_rfl) v xT w
set_option maxHeartbeats 1600000 in
theorem imis_any (a : Int) (q : Bool) (hq : (a == 1) = q) (w : World) :
    Calls Tryz.prog 97 #[.iface 96 (.int .i64 a), .iface 96 (.int .i64 1), .bool true] w fun e w' => e = .returned (.bool q) ∧ w' = w := by
  have nE := imNoIs
  have uE := imNoUnwrap
  have vE := imNoUnwraps
  have heq := fun w => Lib.run_eql_iface_int (P := Tryz.prog) w (t := 54) (tx := 96) (k := .i64) a 1 Tryz.underlying54 imComp Tryz.underlying96
  rw [hq] at heq
  clear hq
  go_enter Tryz.func97, Tryz.ntmps97
  cases q
  · go_wp2
    refine wp_loop_rounds 1 ?_
    rw [rounds_succ]
    go_wp2
    go_ret
    exact ⟨rfl, rfl⟩
  · go_wp2
    refine wp_loop_rounds 1 ?_
    rw [rounds_succ]
    go_wp2
    go_ret
    exact ⟨rfl, rfl⟩
set_option maxHeartbeats 1600000 in
theorem imIs_any (a : Int) (q : Bool) (hq : (a == 1) = q) (w : World) :
    Calls Tryz.prog 56 #[.iface 96 (.int .i64 a), .iface 96 (.int .i64 1)] w fun e w' => e = .returned (.bool q) ∧ w' = w := by
  have h8 := @run_callFunc_extern Tryz.prog 96 _ Extern.ReflectliteType.typeOf Tryz.func96 (by kernel_rfl) (by kernel_rfl) (by kernel_rfl) (by kernel_rfl)
  have h32 := @run_callFunc_extern Tryz.prog 336 _ imCmp Tryz.func336 (by kernel_rfl) (by kernel_rfl) (by kernel_rfl) (by kernel_rfl)
  have tT := imTypeOf
  have cT := imComparable
  have mR := imMethod
  have HI := Lib.hid (imis_any a q hq)
  clear hq
  go_enter Tryz.func56, Tryz.ntmps56
  go_wp2_with fail
  refine (HI.out _).mono ?_
  rintro e w1 ⟨rfl, rfl⟩
  go_wp2_with fail
  go_ret
  exact ⟨rfl, rfl⟩
/-- An error's value; 0: none. -/
def errV (n : Nat) : Value := if n = 0 then .nilIface else .iface 96 (.int .i64 ((n : Int) - 2))
set_option maxHeartbeats 1600000 in
theorem errno_ok (n : Nat) (w : World) (h : n = 0 ∨ n = 3 ∨ n = 4) : Calls Tryz.prog 34 #[errV n] w fun e w' => e = .returned (.int .i64 (n : Int)) ∧ w' = w := by
  have HI := Lib.hid (fun a q hq => imIs_any a q hq w)
  rcases h with rfl | rfl | rfl
  · show Calls _ _ #[.nilIface] _ _
    go_enter Tryz.func34, Tryz.ntmps34
    go_wp2_with fail
    go_ret
    exact ⟨rfl, rfl⟩
  · show Calls _ _ #[.iface 96 (.int .i64 1)] _ _
    go_enter Tryz.func34, Tryz.ntmps34
    go_wp2_with fail
    refine (HI.out 1 true rfl).mono ?_
    rintro e w1 ⟨rfl, rfl⟩
    go_wp2_with fail
    go_ret
    exact ⟨rfl, rfl⟩
  · show Calls _ _ #[.iface 96 (.int .i64 2)] _ _
    go_enter Tryz.func34, Tryz.ntmps34
    go_wp2_with fail
    refine (HI.out 2 false rfl).mono ?_
    rintro e w1 ⟨rfl, rfl⟩
    go_wp2_with fail
    go_ret
    exact ⟨rfl, rfl⟩
end Go.Proofs.YtoafmlegamjlpaaGreatDoor
namespace Go.Proofs.YtoafmlegamjlpaaGreatDoor
open Go.RowKit Go.Colm Go.Cap Go.Mixp Go.Imgp
set_option linter.unusedVariables false
set_option linter.unusedSimpArgs false
/-- What framed answers. -/
def FrmR (b : List UInt8) (A : Option Addr) (cap : Nat) (r : Value) : Prop :=
  (frmE b = 0 ∧ ∃ g off, A = some ⟨g, off, none⟩ ∧ r = .tuple #[.int .i64 (num4 b : Nat), .slice (some ⟨g, off + 8, none⟩) (b.length - 12) (cap - 8), .nilIface]) ∨
  ((frmE b = 3 ∨ frmE b = 4) ∧ r = .tuple #[.int .i64 0, .slice none 0 0, errV (frmE b)])
theorem FrmR.short {b : List UInt8} {A : Option Addr} {cap : Nat} (h : frmE b = 3) : FrmR b A cap (.tuple #[.int .i64 0, .slice none 0 0, .iface 96 (.int .i64 1)]) := .inr ⟨.inl h, by rw [h]; rfl⟩
theorem FrmR.form {b : List UInt8} {A : Option Addr} {cap : Nat} (h : frmE b = 4) : FrmR b A cap (.tuple #[.int .i64 0, .slice none 0 0, .iface 96 (.int .i64 2)]) := .inr ⟨.inr h, by rw [h]; rfl⟩
theorem FrmR.fine {b : List UInt8} {g off : Nat} {cap : Nat} (h : frmE b = 0) : FrmR b (some ⟨g, off, none⟩) cap (.tuple #[.int .i64 (num4 b : Nat), .slice (some ⟨g, off + 8, none⟩) (b.length - 12) (cap - 8), .nilIface]) := .inl ⟨h, g, off, rfl, rfl⟩
set_option maxRecDepth 100000 in
set_option maxHeartbeats 6400000 in
theorem framed_ok (A : Option Addr) (cap : Nat) (b : List UInt8) (w : World) (hr : RowV w A (bytesV b)) (hcap : b.length ≤ cap) (hlen : b.length < 1099511627776) :
    Calls Tryz.prog 55 #[.slice A b.length cap] w fun e w' => (∃ r, e = .returned r ∧ FrmR b A cap r) ∧ Below w.heap.size w w' := by
  by_cases h12 : b.length < 12
  · have HF : Hid (frmE b = 3) := Lib.hid (by rw [frmE, if_pos h12])
    clear hr
    go_enter Tryz.func55, Tryz.ntmps55
    go_wp2_with fail
    go_ret3
    exact ⟨⟨_, rfl, .short HF.out⟩, Below.refl _ _⟩
  obtain ⟨g, off, rfl, hgw⟩ := hr.some_of (by omega)
  have h0 := inum_ok g off cap 0 b w hr hcap hlen (by omega)
  have h4 := inum_ok g off cap 4 b w hr hcap hlen (by omega)
  rw [List.drop_zero] at h0
  have HE := fun n => inum_ok g off cap (b.length - 4) b (w.drewN n) (hr.drewN n) hcap hlen (by omega)
  have HEND := Lib.hid HE
  have hcut := fun W => run_cut_to (P := Tryz.prog) Tryz.underlying22 Tryz.sizeOf5 (some ⟨g, off, none⟩) b.length cap .i64 ((b.length : Int) - 4) (by omega) (by omega) W
  rw [show ((b.length : Int) - 4).toNat = b.length - 4 by omega] at hcut
  have HS := fun n => isum_ok (some ⟨g, off, none⟩) cap (b.take (b.length - 4)) (w.drewN n) (by have h := hr.take (b.length - 4); rw [show (bytesV b).take (b.length - 4) = bytesV (b.take (b.length - 4)) by simp [bytesV]] at h; exact h.drewN n) (by rw [List.length_take]; omega)
  rw [show (b.take (b.length - 4)).length = b.length - 4 by rw [List.length_take]; omega] at HS
  have HSUM := Lib.hid HS
  have hcut2 := fun W => run_cut_in (P := Tryz.prog) Tryz.underlying22 Tryz.sizeOf5 (some ⟨g, off, none⟩) b.length cap .i64 .i64 (8 : Int) ((b.length : Int) - 4) (by omega) (by omega) (by omega) W
  rw [show ((8 : Int)).toNat = 8 by omega, show ((b.length : Int) - 4).toNat - 8 = b.length - 12 by omega, cutA_some _ _ _ _ (by omega)] at hcut2
  have hF : frmE b = if mayB (num4 b) = false then 4 else if (b.length - 12) / 20 < num4 (b.drop 4) then 3 else if num4 (b.drop 4) * 20 < b.length - 12 then 4 else if num4 (b.drop (b.length - 4)) = sumL (b.take (b.length - 4)) then 0 else 4 := by rw [frmE, if_neg h12]
  have hfine : frmE b = 0 → FrmR b (some ⟨g, off, none⟩) cap (.tuple #[.int .i64 (num4 b : Nat), .slice (some ⟨g, off + 8, none⟩) (b.length - 12) (cap - 8), .nilIface]) := FrmR.fine
  obtain ⟨x, hx⟩ : ∃ x, x = num4 b := ⟨_, rfl⟩
  obtain ⟨y, hy⟩ : ∃ y, y = num4 (b.drop 4) := ⟨_, rfl⟩
  obtain ⟨z, hz⟩ : ∃ z, z = num4 (b.drop (b.length - 4)) := ⟨_, rfl⟩
  obtain ⟨u, hu⟩ : ∃ u, u = sumL (b.take (b.length - 4)) := ⟨_, rfl⟩
  have hx4 := num4_lt b
  have hy4 := num4_lt (b.drop 4)
  have hz4 := num4_lt (b.drop (b.length - 4))
  have hu4 := sum_lt (b.take (b.length - 4))
  rw [← hx] at h0 hF hfine hx4
  rw [← hy] at h4 hF hy4
  rw [← hz] at HEND hF hz4
  rw [← hu] at HSUM hF hu4
  have HX := Lib.hid hx
  obtain ⟨L, hL⟩ : ∃ L, L = b.length := ⟨_, rfl⟩
  have hHD : Hid (∀ r, frmE b = 3 ∨ frmE b = 4 ∨ frmE b = 0 → FrmR b (some ⟨g, off, none⟩) cap r → FrmR b (some ⟨g, off, none⟩) cap r) := Lib.hid fun _ _ h => h
  rw [← hL] at h0 h4 HEND HSUM hcut hcut2 hF hfine h12 ⊢
  have hL12 : L < 1099511627776 := by omega
  have hLc : L ≤ cap := by omega
  have H0 := Lib.hid h0
  have H4 := Lib.hid h4
  have HF := Lib.hid hF
  have HFI := Lib.hid hfine
  have HM := Lib.hid (imay_any x w (by omega))
  have e4 : ((L : Int) - 4) = ((L - 4 : Nat) : Int) := by omega
  rw [e4] at hcut hcut2
  clear hr hcap hlen hgw h0 h4 hF hfine hx hy hz hu hL HE HS hHD
  go_enter Tryz.func55, Tryz.ntmps55
  go_wp2_with fail
  refine H0.out.mono ?_
  rintro e w1 ⟨rfl, rfl⟩
  go_wp2_with fail
  refine H4.out.mono ?_
  rintro e w1 ⟨rfl, rfl⟩
  go_wp2_with fail
  refine HM.out.mono ?_
  rintro e w1 ⟨rfl, rfl⟩
  cases hm : mayB x
  · have h4 : frmE b = 4 := by rw [HF.out, if_pos hm]
    have H4 := Lib.hid h4
    clear h4 hm
    go_wp2_with fail
    go_ret3
    exact ⟨⟨_, rfl, .form H4.out⟩, Below.refl _ _⟩
  have hm' : ¬ (mayB x = false) := by rw [hm]; decide
  by_cases h1 : (L - 12) / 20 < y
  · have h3 : frmE b = 3 := by rw [HF.out, if_neg hm', if_pos h1]
    have H3 := Lib.hid h3
    have d1 : ((L : Int) - 12) / 20 < (y : Int) := by omega
    clear h3 hm hm'
    go_wp2_with fail
    go_ret3
    exact ⟨⟨_, rfl, .short H3.out⟩, Below.refl _ _⟩
  have d1 : ¬ (((L : Int) - 12) / 20 < (y : Int)) := by omega
  by_cases h2 : y * 20 < L - 12
  · have h4 : frmE b = 4 := by rw [HF.out, if_neg hm', if_neg h1, if_pos h2]
    have H4 := Lib.hid h4
    have d2 : (y : Int) * 20 < (L : Int) - 12 := by omega
    clear h4 hm hm'
    go_wp2_with fail
    go_ret3
    exact ⟨⟨_, rfl, .form H4.out⟩, Below.refl _ _⟩
  have d2 : ¬ ((y : Int) * 20 < (L : Int) - 12) := by omega
  clear hm
  by_cases h5 : z = u
  · have h0 : frmE b = 0 := by rw [HF.out, if_neg hm', if_neg h1, if_neg h2, if_pos h5]
    have HR := Lib.hid (HFI.out h0)
    subst h5
    clear h0 hm'
    go_wp2_with fail
    go_quiet (first
      | (go_at_call 29; exact Calls.quiet_of_same (HEND.out _))
      | (go_at_call 24; exact Calls.quiet_of_same (HSUM.out _)))
    go_wp2_with fail
    go_quiet (fail)
    go_wp2_with fail
    go_ret3
    exact ⟨⟨_, rfl, HR.out⟩, below_drewN (below_of_drewN _ _) _⟩
  · have h4 : frmE b = 4 := by rw [HF.out, if_neg hm', if_neg h1, if_neg h2, if_neg h5]
    have H4 := Lib.hid h4
    have t1 : ((z : Int) != (u : Int)) = true := by rw [bne_iff_ne]; omega
    clear h4 hm'
    go_wp2_with fail
    go_quiet (first
      | (go_at_call 29; exact Calls.quiet_of_same (HEND.out _))
      | (go_at_call 24; exact Calls.quiet_of_same (HSUM.out _)))
    go_wp2_with fail
    go_ret3
    exact ⟨⟨_, rfl, .form H4.out⟩, below_of_drewN _ _⟩
end Go.Proofs.YtoafmlegamjlpaaGreatDoor
