/-
  Rows of bytes that are the call's own: noughts appended. Over any program. No condition.
  The walk of the document's Spread. No condition but what lies there.
-/
import Derived.Test.YtoafmlegamjlpaaGreatDoorKI
import Derived.Test.YtoafmlegamjlpaaGreatDoorKQ
import Derived.Lib.AppendZerosOnto
import Derived.Laws.CopyRow
import Derived.Test.YtoafmlegamjlpaaGreatDoorKT
set_option linter.unusedVariables false
set_option linter.unusedSimpArgs false
namespace Go.Colm
open Go.Proofs.YtoafmlegamjlpaaGreatDoor Go.Imgp
set_option linter.unusedVariables false
theorem zeroCells_bytes (n : Nat) : (Builtin.zeroCells #[.int .u8 0] n).toList = bytesV (zs n) := by
  simp only [Builtin.zeroCells, bytesV, zs, List.map_replicate]
  refine List.eq_replicate_iff.2 ⟨by simp, fun b hb => ?_⟩
  simp [Nat.mod_one] at hb
  exact hb.2.symm
theorem bytesV_append (l m : List UInt8) : bytesV (l ++ m) = bytesV l ++ bytesV m := by simp [bytesV]
theorem run_app_z {P : Program} (w : World) (t tn ty e : TypeId) (kq kn : IntKind) (ht : P.underlying t = some (.slice e)) (htn : P.underlying tn = some (.int kn)) (hi : (P.info? e).map (fun i => (i.zero, i.size, i.bytes)) = some (some (.int .u8 0), 1, 1)) (B : Nat) (v : Value) (l : List UInt8) (hown : BOwn e B w v l)
    (n : Nat) (hlen : l.length + n ≤ 1000000000) (hB : B ≤ w.heap.size) :
    ∃ v' w', (Builtin.append_ #[t, tn] ty #[v, .int kq n]).run P w = .ok v' w' ∧ BOwn e B w' v' (l ++ zs n) ∧ Kept (fun k => v.ownBlock = some k) w w' ∧ (v'.ownBlock = v.ownBlock ∨ v'.ownBlock = some w.heap.size) := by
  obtain ⟨i, hi0, hi1⟩ := Option.map_eq_some_iff.1 hi
  simp only [Prod.mk.injEq] at hi1
  obtain ⟨hz, hs, hb⟩ := hi1
  have hw : IntKind.i64.wrap (n : Int) = n := by rw [IntKind.wrap_i64]; omega
  have h48i : ¬ (281474976710656 < (n : Int)) := by omega
  have hneg : ¬ ((n : Int) < 0) := by omega
  have hgrow : ∀ (olds : List Value) (m cap : Nat), olds = bytesV l → l.length + n ≤ cap → cap ≤ maxLen →
      BOwn e B (w.drew.alloc (.cells (olds.toArray ++ Builtin.zeroCells #[.int .u8 0] n ++ Builtin.zeroCells #[.int .u8 0] (cap - (l.length + n))) e)) (.slice (some ⟨w.heap.size, 0, none⟩) (l.length + n) cap) (l ++ zs n) := by
    intro olds m cap ho hc hm
    subst ho
    have hl : (l ++ zs n).length = l.length + n := by simp [zs]
    unfold BOwn
    rw [hl]
    refine ⟨by rw [bytesV_length, hl, Nat.mul_one], .inr ⟨w.heap.size, cap, _, rfl, hB, heap_alloc_new w.drew _, hc, hm, ?_, ?_⟩⟩
    · simp only [Array.size_append, List.size_toArray, size_zeroCells, bytesV_length]
      simp
      omega
    · simp only [Array.toList_append, zeroCells_bytes, Nat.mul_one, bytesV_append]
      exact List.take_left' (by simp [bytesV_length, zs])
  rcases hown.2 with ⟨rfl, h0⟩ | ⟨g, cap, cur, rfl, hbg, hg, hnc, hcm, hcs, htake⟩
  · obtain rfl : l = [] := List.eq_nil_of_length_eq_zero h0
    by_cases hn : n = 0
    · subst hn
      refine ⟨.slice none 0 0, w, ?_, BOwn.nil _ _ _, Kept.refl _ _, .inl rfl⟩
      simp [Builtin.append_, run_underlying ht, run_underlying htn, sizeOf, typeInfo, hi0, asInt, asIntOf, Builtin.zeroCells, storeCells, show IntKind.i64.wrap 0 = 0 from rfl]
    · have hr := Lib.run_append_nil_zeros (P := P) w t tn ty e i (.int .u8 0) kq kn ht htn hi0 hz n (by omega) (by omega) (by omega) (by rw [hb]; omega)
      refine ⟨_, _, hr, ?_, ((Kept.refl _ w).drew.alloc _), .inr rfl⟩
      have hge := grownCap_ge w n 0 e
      have hcl := grownCap_le_maxLen w n 0 e (by unfold maxLen; omega)
      have h := hgrow [] 0 (grownCap w n 0 e) rfl (by simpa using hge) hcl
      simp only [List.length_nil, Nat.zero_add] at h
      rw [show (Value.int .u8 0).cells = #[.int .u8 0] from rfl]
      simpa using h
  · by_cases hroom : l.length + n ≤ cap
    · have hst := run_storeCells_at P g l.length e (Builtin.zeroCells #[.int .u8 0] n).toList 0 cur w hg (by rw [zeroCells_bytes, bytesV_length, zs_length, hcs]; omega) (fun v hv => by
        rw [zeroCells_bytes] at hv
        simp only [bytesV, List.mem_map] at hv
        obtain ⟨x, _, rfl⟩ := hv
        rfl)
      have hadd : (⟨g, 0, none⟩ : Addr).add l.length = ⟨g, l.length, none⟩ := by rw [Addr.add_lit, Nat.zero_add]
      refine ⟨.slice (some ⟨g, 0, none⟩) (l.length + n) cap, w.setRow g (cur.toList.take (l.length + 0) ++ (Builtin.zeroCells #[.int .u8 0] n).toList ++ cur.toList.drop (l.length + 0 + (Builtin.zeroCells #[.int .u8 0] n).toList.length)).toArray, ?_, ?_, ⟨rfl, rfl, rfl, by simp [World.setRow], fun k _ hk => setRow_other w g k _ (fun e => hk (by simp [Value.ownBlock, e]))⟩, .inl rfl⟩
      rotate_left
      · have hl : (l ++ zs n).length = l.length + n := by simp [zs]
        unfold BOwn
        rw [hl]
        refine ⟨by rw [bytesV_length, hl, Nat.mul_one], .inr ⟨g, cap, _, rfl, hbg, setRow_heap w g cur _ e _ hg, hroom, hcm, ?_, ?_⟩⟩
        · rw [zeroCells_bytes]
          simp only [List.size_toArray, List.length_append, List.length_take, List.length_drop, Array.length_toList, bytesV_length, zs_length]
          omega
        · rw [zeroCells_bytes, bytesV_append]
          rw [Nat.mul_one] at htake
          simp only [Nat.add_zero, htake, Nat.mul_one]
          exact List.take_left' (by simp [bytesV_length, zs])
      · by_cases hn : n = 0
        · subst hn
          simp [Builtin.append_, run_underlying ht, run_underlying htn, sizeOf, typeInfo, zeroValue, hi0, hz, hs, hb, asInt, asIntOf, Builtin.zeroCells, storeCells, show IntKind.i64.wrap 0 = 0 from rfl, hnc]
          exact (setRow_self w g cur e (0, 0) hg).symm
        · simp [Builtin.append_, run_underlying ht, run_underlying htn, sizeOf, typeInfo, zeroValue, hi0, hz, hs, hb, asInt, asIntOf, hw, hneg, h48i, hn, hroom, Value.cells, hadd, hst]
    · have holds : (Builtin.firstCells i.size l.length (.slice (some ⟨g, 0, none⟩) l.length cap)).run P w.drew = .ok (bytesV l).toArray w.drew := by
        have hc := hown.cells (g := g) rfl
        have hl := run_loadCells_list (P := P) w.drew ⟨g, 0, none⟩ (bytesV l) (fun j v hj => hc j v hj)
        rw [bytesV_length] at hl
        simp [Builtin.firstCells, hs, hl]
      have hfit := growslice_fits (need := l.length + n) (old := cap) (bytes := 1) (by omega) (by omega)
      have hr := Lib.run_append_grow_zeros (P := P) w t tn ty e i (.int .u8 0) kq kn ht htn hi0 hz (some ⟨g, 0, none⟩) l.length cap (bytesV l) holds n (by omega) (by omega) (by omega) (by omega) (by rw [hb]; omega) (by rw [hb]; omega)
      refine ⟨_, _, hr, ?_, ((Kept.refl _ w).drew.alloc _), .inr rfl⟩
      rw [show (Value.int .u8 0).cells = #[.int .u8 0] from rfl]
      exact hgrow (bytesV l) 0 _ rfl (grownCap_ge w _ _ e) (grownCap_le_maxLen w _ _ e (by unfold maxLen; omega))
theorem step_app_z {P : Program} {w : World} {ops : Array Oper} {o : Oper} {a : Act} {K : Act → World → Prop} {Q : Exit → Act → World → Prop} {E : Prop} (hgd : o.guard = none) (s x : Operand) (t tn : TypeId)
    (ho : o.op = .call { callee := .builtin .append, args := #[s, x], argTypes := #[t, tn] })
    (e : TypeId) (kq kn : IntKind) (ht : P.underlying t = some (.slice e)) (htn : P.underlying tn = some (.int kn)) (hi : (P.info? e).map (fun i => (i.zero, i.size, i.bytes)) = some (some (.int .u8 0), 1, 1)) (B : Nat) (v : Value) (l : List UInt8) (hs : a.eval s = v) (hown : BOwn e B w v l)
    (n : Nat) (z : Int) (hz : z = (n : Int)) (hx : a.eval x = .int kq z) (hlen : l.length + n ≤ 1000000000) (hB : B ≤ w.heap.size)
    (h : ∀ v' w', BOwn e B w' v' (l ++ zs n) → Kept (fun k => v.ownBlock = some k) w w' → (v'.ownBlock = v.ownBlock ∨ v'.ownBlock = some w.heap.size) → K (a.put o.dst v') w') :
    if Region.wanted o (yielded ops a.tmps) = true then Oper.wp P o a w K Q else E := by
  rw [if_pos (by simp [Region.wanted, hgd])]
  subst hz
  obtain ⟨v', w', hrun, h2, h3, h4⟩ := run_app_z (P := P) w t tn o.type e kq kn ht htn hi B v l hown n hlen hB
  exact Lib.wp_append_run w s x t tn ho v _ hs hx v' w' hrun (h v' w' h2 h3 h4)
theorem wpList_app_z {P : Program} {w : World} {ops : Array Oper} {rest : List Oper} {o : Oper} {a : Act} {Q : Exit → Act → World → Prop} (hgd : o.guard = none) (s x : Operand) (t tn : TypeId)
    (ho : o.op = .call { callee := .builtin .append, args := #[s, x], argTypes := #[t, tn] })
    (e : TypeId) (kq kn : IntKind) (ht : P.underlying t = some (.slice e)) (htn : P.underlying tn = some (.int kn)) (hi : (P.info? e).map (fun i => (i.zero, i.size, i.bytes)) = some (some (.int .u8 0), 1, 1)) (B : Nat) (v : Value) (l : List UInt8) (hs : a.eval s = v) (hown : BOwn e B w v l)
    (n : Nat) (z : Int) (hz : z = (n : Int)) (hx : a.eval x = .int kq z) (hlen : l.length + n ≤ 1000000000) (hB : B ≤ w.heap.size)
    (h : ∀ v' w', BOwn e B w' v' (l ++ zs n) → Kept (fun k => v.ownBlock = some k) w w' → (v'.ownBlock = v.ownBlock ∨ v'.ownBlock = some w.heap.size) → wpList P ops Q rest (a.put o.dst v') w') : wpList P ops Q (o :: rest) a w := by
  subst hz
  obtain ⟨v', w', hrun, h2, h3, h4⟩ := run_app_z (P := P) w t tn o.type e kq kn ht htn hi B v l hown n hlen hB
  exact wpList_plain hgd fun _ hK => Lib.wp_append_run w s x t tn ho v _ hs hx v' w' hrun (hK _ _ (h v' w' h2 h3 h4))
end Go.Colm
namespace Go.Imgp
theorem num4_take {l : List UInt8} {m : Nat} (h : 4 ≤ m) : num4 (l.take m) = num4 l := by
  have e : ∀ j, j < 4 → (l.take m).getD j 0 = l.getD j 0 := fun j hj => by
    simp only [List.getD_eq_getElem?_getD, List.getElem?_take]
    rw [if_pos (by omega)]
  simp only [num4, e 0 (by decide), e 1 (by decide), e 2 (by decide), e 3 (by decide)]
theorem rowN_at {b : List UInt8} {i n : Nat} (hl : b.length = 12 + 20 * n) (hi : i < n) : rowN (framed b) i = num4 (b.drop (8 + 20 * i)) := by
  rw [rowN, framed, List.drop_take, List.drop_drop, num4_take (by omega)]
theorem rowC_at {b : List UInt8} {i n : Nat} (hl : b.length = 12 + 20 * n) (hi : i < n) : rowC (framed b) i = (b.drop (8 + 20 * i + 4)).take 16 := by
  rw [rowC, framed, List.drop_take, List.drop_drop, List.take_take, Nat.min_eq_left (by omega), show 8 + (20 * i + 4) = 8 + 20 * i + 4 by omega]
end Go.Imgp
namespace Go.Proofs.YtoafmlegamjlpaaGreatDoor
open Go.RowKit Go.Colm Go.Cap Go.Mixp Go.Imgp
set_option linter.unusedVariables false
set_option linter.unusedSimpArgs false
theorem u8_zinfo : (Tryz.prog.info? 5).map (fun i => (i.zero, i.size, i.bytes)) = some (some (.int .u8 0), 1, 1) := u8_info
/-- What Spread answers. -/
def SprR (b : List UInt8) (w : World) (e : Ending) (w' : World) : Prop := ∃ v', e = .returned (.tuple #[v', .int .i64 ((spr b).2 : Int)]) ∧ BOwn 5 w.heap.size w' v' (spr b).1 ∧ Below w.heap.size w w'
theorem SprR.bad {b : List UInt8} {w w' : World} {c : Nat} (h : spr b = ([], c)) (hb : Below w.heap.size w w') {e : Ending} (he : e = .returned (.tuple #[.slice none 0 0, .int .i64 (c : Int)])) : SprR b w e w' := ⟨.slice none 0 0, by rw [h]; exact he, by rw [h]; exact BOwn.nil _ _ _, hb⟩
theorem spr_frm {b : List UInt8} {c : Nat} (h : frmE b = c) (hc : c ≠ 0) : spr b = ([], c) := by rw [spr, if_neg (by rw [h]; exact hc), h]
set_option maxRecDepth 100000 in
set_option maxHeartbeats 12800000 in
theorem rspr_ok (A : Option Addr) (cap : Nat) (b : List UInt8) (w : World) (hr : RowV w A (bytesV b)) (hcap : b.length ≤ cap) (hlen : b.length < 100000000) :
    Calls Tryz.prog 13 #[.slice A b.length cap] w (SprR b w) := by
  by_cases h12 : b.length < 12
  · have HF : Hid (spr b = ([], 3)) := Lib.hid (spr_frm (by rw [frmE, if_pos h12]) (by decide))
    clear hr
    go_enter Tryz.func13, Tryz.ntmps13
    go_wp2_with fail
    go_ret2
    exact SprR.bad HF.out (Below.refl _ _) rfl
  obtain ⟨g, off, rfl, hgw⟩ := hr.some_of (by omega)
  have HNUM : Hid (∀ (a : Nat) (W : World), a + 4 ≤ b.length → Below w.heap.size w W → Calls Tryz.prog 31 #[.slice (some ⟨g, off, none⟩) b.length cap, .int .i64 (a : Int)] W fun e w' => e = .returned (.int .i64 (num4 (b.drop a) : Nat)) ∧ ∃ n, w' = W.drewN n) := Lib.hid fun a W ha hb => rnum_ok g off cap a b W (hr.below hb) hcap (by omega) ha
  have HBK : Hid (∀ (a : Nat) (W : World), a + 16 ≤ b.length → Below w.heap.size w W → Calls Tryz.prog 26 #[.slice (some ⟨g, off, none⟩) b.length cap, .int .i64 (a : Int)] W fun e w' => e = .returned (.bool (blankL ((b.drop a).take 16))) ∧ w' = W) := Lib.hid fun a W ha hb => rblank_ok g off cap a b W (hr.below hb) (by omega) ha
  have h0 := HNUM.out 0 w (by omega) (Below.refl _ _)
  rw [List.drop_zero] at h0
  have hBY := fun (W : World) (hb : Below w.heap.size w W) => rbytes_any 2166136261 (some ⟨g, off, none⟩) (b.take (b.length - 4)) cap W (by decide) (by decide) (by rw [List.length_take]; omega) (by have h := (hr.below hb).take (b.length - 4); rw [show (bytesV b).take (b.length - 4) = bytesV (b.take (b.length - 4)) by simp [bytesV]] at h; exact h)
  rw [show (b.take (b.length - 4)).length = b.length - 4 by rw [List.length_take]; omega] at hBY
  change ∀ (W : World), Below w.heap.size w W → Calls _ _ _ W (fun e w' => e = .returned (.int .u32 ((sumL (b.take (b.length - 4)) : Nat) : Int)) ∧ ∃ n, w' = W.drewN n) at hBY
  have HE : Hid (∀ W, Below w.heap.size w W → Calls Tryz.prog 31 #[.slice (some ⟨g, off, none⟩) b.length cap, .int .i64 ((b.length : Int) - 4)] W fun e w' => e = .returned (.int .i64 (num4 (b.drop (b.length - 4)) : Nat)) ∧ ∃ n, w' = W.drewN n) := Lib.hid fun W hb => by
    have h := HNUM.out (b.length - 4) W (by omega) hb
    rw [show ((b.length - 4 : Nat) : Int) = (b.length : Int) - 4 by omega] at h
    exact h
  have hcut := fun W => run_cut_to (P := Tryz.prog) Tryz.underlying22 Tryz.sizeOf5 (some ⟨g, off, none⟩) b.length cap .i64 ((b.length : Int) - 4) (by omega) (by omega) W
  rw [show ((b.length : Int) - 4).toNat = b.length - 4 by omega] at hcut
  have hF : frmE b = if mayB (num4 b) = false then 4 else if (b.length - 12) / 20 < num4 (b.drop 4) then 3 else if num4 (b.drop 4) * 20 < b.length - 12 then 4 else if num4 (b.drop (b.length - 4)) = sumL (b.take (b.length - 4)) then 0 else 4 := by rw [frmE, if_neg h12]
  have HDONE : Hid (frmE b = 0 → ∀ nx acc, runS (num4 b) (framed b) (num4 (b.drop 4)) = some (nx, acc) → spr b = (acc ++ zs (num4 b - acc.length), 0)) := Lib.hid fun hf0 nx acc h => spr_done hf0 h
  have HFAIL : Hid (frmE b = 0 → ∀ i, i ≤ num4 (b.drop 4) → runS (num4 b) (framed b) i = none → spr b = ([], 4)) := Lib.hid fun hf0 i hi h => spr_fail hf0 hi h
  have HFRM : Hid (frmE b = 0 → b.length = 12 + 20 * num4 (b.drop 4) ∧ 16 ≤ num4 b ∧ num4 b ≤ 1048576 ∧ num4 b % 16 = 0) := Lib.hid fun h => by
    obtain ⟨f1, f2, f3, f4⟩ := frm_ok h
    exact ⟨f3, Go.Imgp.may_iff.1 f2⟩
  obtain ⟨x, hx⟩ : ∃ x, x = num4 b := ⟨_, rfl⟩
  obtain ⟨y, hy⟩ : ∃ y, y = num4 (b.drop 4) := ⟨_, rfl⟩
  obtain ⟨z, hz⟩ : ∃ z, z = num4 (b.drop (b.length - 4)) := ⟨_, rfl⟩
  obtain ⟨u, hu⟩ : ∃ u, u = sumL (b.take (b.length - 4)) := ⟨_, rfl⟩
  have hx4 := num4_lt b
  have hy4 := num4_lt (b.drop 4)
  have hz4 := num4_lt (b.drop (b.length - 4))
  have hu4 := sum_lt (b.take (b.length - 4))
  have h4 := fun W (hb : Below w.heap.size w W) => HNUM.out 4 W (by omega) hb
  rw [← hx] at h0 hF HDONE HFAIL HFRM hx4
  rw [← hy] at h4 hF HDONE HFAIL HFRM hy4
  rw [← hz] at HE hF hz4
  rw [← hu] at hBY hF hu4
  obtain ⟨L, hL⟩ : ∃ L, L = b.length := ⟨_, rfl⟩
  have HLB := Lib.hid hL
  have hL12 : L < 100000000 := by omega
  have hLc : L ≤ cap := by omega
  rw [← hL] at h0 h4 HE hBY HNUM HBK HFRM hcut hF h12 ⊢
  have H0 := Lib.hid h0
  have H4 := Lib.hid h4
  have HF := Lib.hid hF
  have HBY := Lib.hid hBY
  have HM := Lib.hid (fun W => rmay_any x W (by omega))
  have HR := Lib.hid hr
  have HGW := Lib.hid hgw
  clear hr hcap hlen hgw h0 h4 hF hx hy hz hu hL hBY
  go_enter Tryz.func13, Tryz.ntmps13
  go_wp2_with fail
  refine H0.out.mono ?_
  rintro e w1 ⟨rfl, n1, hw1⟩
  have HB1 : Hid (Below w.heap.size w w1) := Lib.hid (by rw [hw1]; exact below_of_drewN _ _)
  clear hw1 H0
  go_wp2_with fail
  refine (H4.out _ HB1.out).mono ?_
  rintro e w2 ⟨rfl, n2, hw2⟩
  have HB2 : Hid (Below w.heap.size w w2) := Lib.hid (by rw [hw2]; exact below_drewN HB1.out _)
  clear hw2 HB1 H4
  go_wp2_with fail
  refine (HM.out _).mono ?_
  rintro e w3 ⟨rfl, rfl⟩
  cases hm : mayB x
  · have H4 : Hid (spr b = ([], 4)) := Lib.hid (spr_frm (by rw [HF.out, if_pos hm]) (by decide))
    clear hm
    go_wp2_with fail
    go_ret2
    exact SprR.bad H4.out HB2.out rfl
  have hm' : ¬ (mayB x = false) := by rw [hm]; decide
  clear hm
  by_cases h1 : (L - 12) / 20 < y
  · have H3 : Hid (spr b = ([], 3)) := Lib.hid (spr_frm (by rw [HF.out, if_neg hm', if_pos h1]) (by decide))
    have d1 : ((L : Int) - 12) / 20 < (y : Int) := by omega
    clear hm'
    go_wp2_with fail
    go_ret2
    exact SprR.bad H3.out HB2.out rfl
  have d1 : ¬ (((L : Int) - 12) / 20 < (y : Int)) := by omega
  have hy6 : y ≤ 5000000 := by omega
  have HB2d : Hid (Below w.heap.size w w3.drew) := Lib.hid HB2.out.drew
  by_cases h2 : y * 20 < L - 12
  · have H4 : Hid (spr b = ([], 4)) := Lib.hid (spr_frm (by rw [HF.out, if_neg hm', if_neg h1, if_pos h2]) (by decide))
    have d2 : decide (12 + 20 * (y : Int) < (L : Int)) = true := by simp; omega
    clear hm'
    go_wp2_with fail
    go_quiet (fail)
    go_wp2_with fail
    go_ret2
    exact SprR.bad H4.out (below_drewN HB2.out _) rfl
  have d2 : decide (12 + 20 * (y : Int) < (L : Int)) = false := by simp; omega
  by_cases h5 : z = u
  rotate_left
  · have H4 : Hid (spr b = ([], 4)) := Lib.hid (spr_frm (by rw [HF.out, if_neg hm', if_neg h1, if_neg h2, if_neg h5]) (by decide))
    have t1 : ((z : Int) != (u : Int)) = true := by rw [bne_iff_ne]; omega
    clear hm'
    go_wp2_with fail
    go_quiet (first
      | (go_at_call 31; exact Calls.quiet_of (HE.out _ (below_drewN HB2.out _)))
      | (go_at_call 28; exact Calls.quiet_of (HBY.out _ (below_drewN HB2.out _))))
    go_wp2_with fail
    go_ret2
    exact SprR.bad H4.out (below_drewN HB2.out _) rfl
  have hf0 : frmE b = 0 := by rw [HF.out, if_neg hm', if_neg h1, if_neg h2, if_pos h5]
  have HF0 := Lib.hid hf0
  obtain ⟨f1, f2, f3, f4⟩ := HFRM.out hf0
  subst h5
  obtain ⟨q, hqq⟩ : ∃ q, q = x / 16 := ⟨_, rfl⟩
  have hsq : x = 16 * q := by omega
  have HSQ := Lib.hid hsq
  have hq2 : (x : Int) / 16 = (q : Int) := by omega
  have hq3 : q ≤ 65536 := by omega
  have HQ : Hid (x / 16 = q) := Lib.hid hqq.symm
  have HLY := Lib.hid f1
  have hfl : (framed b).length = 20 * y := by
    simp only [framed, List.length_take, List.length_drop]
    have := HLB.out
    omega
  have HFL := Lib.hid hfl
  have HN0 := Lib.hid (BOwn.nil 5 w.heap.size w3)
  clear hf0 hm' hqq hsq hfl f1
  go_wp2_with fail
  go_quiet (first
    | (go_at_call 31; exact Calls.quiet_of (HE.out _ (below_drewN HB2.out _)))
    | (go_at_call 28; exact Calls.quiet_of (HBY.out _ (below_drewN HB2.out _))))
  have HB3 : Hid (Below w.heap.size w (w3.drewN nq) ∧ BOwn 5 w.heap.size (w3.drewN nq) (.slice none 0 0) []) := Lib.hid ⟨below_drewN HB2.out _, BOwn.nil _ _ _⟩
  obtain ⟨w4, hw4⟩ : ∃ w4, w4 = w3.drewN nq := ⟨_, rfl⟩
  rw [← hw4] at HB3 ⊢
  clear hw4 HE HBY HB2 HB2d HN0
  go_wp2_with fail
  go_loopw [2, 3, 6, 7, 8, 9, 10] (fun s2 s3 s6 s7 s8 _ _ wr => ∃ (i nx : Nat) (la : Int) (acc : List UInt8) (v : Value), i ≤ y ∧ s2 = .slice none 0 0 ∧ s3 = .int .i64 0 ∧ s8 = .int .i64 i ∧ s7 = .int .i64 la ∧ v = s6 ∧ -1 ≤ la ∧ la < 65537 ∧ Hid (la = (nx : Int) - 1) ∧ Hid (runS x (framed b) i = some (nx, acc)) ∧ Hid (BOwn 5 w.heap.size wr v acc) ∧ Hid (Below w.heap.size w wr)) (fun _ _ _ _ s8 _ _ _ => match s8 with | .int _ m => y - m.toNat | _ => 0)
  case atStart => exact ⟨0, 0, -1, [], _, Nat.zero_le _, rfl, rfl, rfl, rfl, rfl, by omega, by omega, Lib.hid rfl, Lib.hid rfl, Lib.hid HB3.out.2, Lib.hid HB3.out.1⟩
  case round =>
    obtain ⟨i, nx, la, acc, v, hi, rfl, rfl, rfl, rfl, hv6, hla1, hla2, HI, HRUN, HO, HB⟩ := hrel
    subst hv6
    have hinv := runS_inv x (framed b) i nx acc (by rw [HFL.out]; omega) HRUN.out
    have hnq : nx ≤ q := by have := hinv.2.1; have := HQ.out; omega
    have HAC := Lib.hid hinv.1
    clear hinv
    by_cases hlt : i < y
    · have hly := HLY.out
      have hnum := HNUM.out (8 + 20 * i) wr (by omega) HB.out
      have hblk := fun W (h : Below w.heap.size w W) => HBK.out (8 + 20 * i + 4) W (by omega) h
      rw [← rowN_at (n := y) (by have := HLB.out; omega) hlt] at hnum
      rw [← rowC_at (n := y) (by have := HLB.out; omega) hlt] at hblk
      have hcl : (rowC (framed b) i).length = 16 := by simp only [rowC, List.length_take, List.length_drop, HFL.out]; omega
      have hk4 : rowN (framed b) i < 4294967296 := num4_lt _
      have hrc : RowV w (some ⟨g, off + (8 + 20 * i + 4), none⟩) (bytesV (rowC (framed b) i)) := by
        rw [rowC_at (n := y) (by have := HLB.out; omega) hlt]
        exact HR.out.sub _ _
      obtain ⟨k, hk⟩ : ∃ k, k = rowN (framed b) i := ⟨_, rfl⟩
      obtain ⟨c, hc⟩ : ∃ c, c = rowC (framed b) i := ⟨_, rfl⟩
      rw [← hk] at hnum hk4
      rw [← hc] at hblk hcl hrc
      have hstep : runS x (framed b) (i + 1) = if nx ≤ k ∧ k < q ∧ blankL c = false then some (k + 1, acc ++ (zs (16 * (k - nx)) ++ c)) else none := by
        rw [runS, HRUN.out]
        show stepS x (framed b) i (nx, acc) = _
        rw [stepS, ← hk, ← hc, HQ.out]
      have HST := Lib.hid hstep
      have HFA : Hid (runS x (framed b) (i + 1) = none → spr b = ([], 4)) := Lib.hid (HFAIL.out HF0.out (i + 1) (by omega))
      obtain ⟨at_, hat⟩ : ∃ at_, at_ = 8 + 20 * i := ⟨_, rfl⟩
      have hatv : 8 + 20 * (i : Int) = (at_ : Int) := by omega
      rw [← hat] at hnum hblk hrc
      have hat2 : at_ + 20 ≤ L := by omega
      have hnv : ((at_ + 4 : Nat) : Int) = (at_ : Int) + 4 := by omega
      simp only [hnv] at hblk
      have hwat : IntKind.i64.wrap ((at_ : Int) + 4) = (at_ : Int) + 4 := by rw [IntKind.wrap_i64]; omega
      have hwat2 : IntKind.i64.wrap ((at_ : Int) + 20) = (at_ : Int) + 20 := by rw [IntKind.wrap_i64]; omega
      have hcutA := fun W => run_cut_in (P := Tryz.prog) Tryz.underlying22 Tryz.sizeOf5 (some ⟨g, off, none⟩) L cap .i64 .i64 ((at_ : Int) + 4) ((at_ : Int) + 20) (by omega) (by omega) (by omega) W
      rw [show ((at_ : Int) + 4).toNat = at_ + 4 by omega, show ((at_ : Int) + 20).toNat - (at_ + 4) = 16 by omega, cutA_some _ _ _ _ (by omega)] at hcutA
      have HNUM1 := Lib.hid hnum
      have HBLK := Lib.hid hblk
      have HRC := Lib.hid hrc
      have HCL := Lib.hid hcl
      have HAT := Lib.hid hat
      clear hnum hblk hrc hcl hstep hk hc hly hat
      go_wp2_with fail
      refine HNUM1.out.mono ?_
      rintro e w5 ⟨rfl, n5, hw5⟩
      have HB5 : Hid (Below w.heap.size w w5) := Lib.hid (by rw [hw5]; exact below_drewN HB.out _)
      have HO5 : Hid (BOwn 5 w.heap.size w5 v acc) := Lib.hid (by rw [hw5]; exact HO.out)
      clear hw5
      by_cases h1 : (k : Int) ≤ la
      · have HN := Lib.hid (HFA.out (by rw [HST.out, if_neg (by have := HI.out; omega)]))
        go_wp2_with fail
        go_ret2
        exact SprR.bad HN.out HB5.out rfl
      by_cases h2 : (q : Int) ≤ (k : Int)
      · have HN := Lib.hid (HFA.out (by rw [HST.out, if_neg (by omega)]))
        go_wp2_with fail
        go_ret2
        exact SprR.bad HN.out HB5.out rfl
      have hk6 : k < 65536 := by omega
      have HBLK5 := Lib.hid (HBLK.out w5 HB5.out)
      cases hbl : blankL c
      · have HOK : Hid (runS x (framed b) (i + 1) = some (k + 1, acc ++ zs (16 * (k - nx)) ++ c) ∧ nx ≤ k ∧ k < q) := Lib.hid ⟨by rw [HST.out, if_pos ⟨by have := HI.out; omega, by omega, hbl⟩, List.append_assoc], by have := HI.out; omega, by omega⟩
        rw [hbl] at HBLK5
        have HZ : Hid (16 * ((k : Int) - la - 1) = ((16 * (k - nx) : Nat) : Int)) := Lib.hid (by have := HI.out; have := HOK.out.2.1; omega)
        have HACL : Hid (acc.length + 16 * (k - nx) ≤ 1048576) := Lib.hid (by have := HAC.out; have := HOK.out.2; omega)
        have hw1 : IntKind.i64.wrap ((k : Int) - la) = (k : Int) - la := by rw [IntKind.wrap_i64]; omega
        have hw2 : IntKind.i64.wrap ((k : Int) - la - 1) = (k : Int) - la - 1 := by rw [IntKind.wrap_i64]; omega
        have hw3 : IntKind.i64.wrap (16 * ((k : Int) - la - 1)) = 16 * ((k : Int) - la - 1) := by rw [IntKind.wrap_i64]; omega
        have HD : Hid (BOwn 5 w.heap.size w5.drew v acc ∧ Below w.heap.size w w5.drew) := Lib.hid ⟨HO5.out, HB5.out.drew⟩
        clear hbl HST HFA
        go_wp2_with fail
        refine HBLK5.out.mono ?_
        rintro e w6 ⟨rfl, rfl⟩
        go_wp2_with fail
        go_region_law (first
          | (refine step_app_z rfl _ _ 22 3 rfl 5 .i64 .i64 Tryz.underlying22 Tryz.underlying3 u8_info w.heap.size v acc (by go_simp) HD.out.1 (16 * (k - nx)) (16 * ((k : Int) - la - 1)) HZ.out (by go_simp) (by have := HACL.out; omega) HD.out.2.size ?_
             intro v7 w7 h7 hk7 _
             have HV7 : Hid (BOwn 5 w.heap.size w7 v7 (acc ++ zs (16 * (k - nx))) ∧ Below w.heap.size w w7 ∧ RowV w7 (some ⟨g, off + (at_ + 4), none⟩) (bytesV c)) := Lib.hid ⟨h7, HD.out.2.trans (hk7.to_below HD.out.2.size fun k hk e => by have := (own_ge HD.out.1 e).1; omega), row_apart HD.out.1 (HRC.out.below HD.out.2) hk7 (fun a e => by cases e; exact .inl HGW.out)⟩
             clear h7 hk7)
          | (refine step_app_b rfl _ _ 22 rfl 5 Tryz.underlying22 u8_info w.heap.size v7 (acc ++ zs (16 * (k - nx))) (by go_simp) HV7.out.1 (some ⟨g, off + (at_ + 4), none⟩) c (cap - (at_ + 4)) (by rw [HCL.out]; go_simp) HV7.out.2.2 (fun h => by cases h) (by have := HACL.out; rw [List.length_append, zs_length, HCL.out]; omega) HV7.out.2.1.size ?_
             intro v8 w8 h8 hk8 _
             have HV8 : Hid (BOwn 5 w.heap.size w8 v8 (acc ++ zs (16 * (k - nx)) ++ c) ∧ Below w.heap.size w w8) := Lib.hid ⟨h8, HV7.out.2.1.trans (hk8.to_below HV7.out.2.1.size fun k hk e => by have := (own_ge HV7.out.1 e).1; omega)⟩
             clear h8 hk8))
        all_goals
          go_wp2_with fail
          go_roundw
          case rel => exact ⟨i + 1, k + 1, (k : Int), acc ++ zs (16 * (k - nx)) ++ c, v8, hlt, rfl, rfl, by go_num, rfl, rfl, by omega, by omega, Lib.hid (by omega), Lib.hid HOK.out.1, Lib.hid HV8.out.1, Lib.hid HV8.out.2⟩
          case measure => simp; omega
      · have HN := Lib.hid (HFA.out (by rw [HST.out, if_neg (by rw [hbl]; rintro ⟨_, _, h⟩; cases h)]))
        rw [hbl] at HBLK5
        clear hbl
        go_wp2_with fail
        refine HBLK5.out.mono ?_
        rintro e w6 ⟨rfl, rfl⟩
        go_wp2_with fail
        go_ret2
        exact SprR.bad HN.out HB5.out rfl
    · have hii : i = y := by omega
      subst hii
      have HD : Hid (spr b = (acc ++ zs (x - acc.length), 0)) := Lib.hid (HDONE.out HF0.out nx acc HRUN.out)
      obtain ⟨al, hal⟩ : ∃ al, al = acc.length := ⟨_, rfl⟩
      have hal2 : al ≤ x := by have := HAC.out; have := HSQ.out; omega
      have HAL := Lib.hid hal
      obtain ⟨A6, c6, hv6, _⟩ := HO.out.slice
      rw [← hal] at hv6
      subst hv6
      have hzi : (x : Int) - (al : Int) = ((x - al : Nat) : Int) := by omega
      have HZI := Lib.hid hzi
      clear hal hzi
      go_wp2_with (at_builtin; refine wpList_app_z rfl _ _ 22 3 rfl 5 .i64 .i64 Tryz.underlying22 Tryz.underlying3 u8_info w.heap.size _ acc rfl HO.out (x - al) ((x : Int) - (al : Int)) HZI.out rfl (by have := HAL.out; omega) HB.out.size ?_; intro v7 w7 h7 hk7 _; have HV7 : Hid (BOwn 5 w.heap.size w7 v7 (acc ++ zs (x - al)) ∧ Below w.heap.size w w7) := Lib.hid ⟨h7, HB.out.trans (hk7.to_below HB.out.size fun k hk e => by have := (own_ge HO.out e).1; omega)⟩; clear h7 hk7)
      go_ret2
      refine ⟨v7, by rw [HD.out]; rfl, ?_, HV7.out.2⟩
      rw [HD.out, ← HAL.out]
      exact HV7.out.1
end Go.Proofs.YtoafmlegamjlpaaGreatDoor
