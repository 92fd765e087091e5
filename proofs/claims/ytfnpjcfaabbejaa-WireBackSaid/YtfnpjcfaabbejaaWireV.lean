/-
  The walk of the packer's put. Names of at most 2^14 bytes in all.
-/
import Derived.Test.YtfnpjcfaabbejaaWireU
namespace Go.Proofs.Ytfnpjcfaabbejaa
open Go.RowKit Go.Foldp Go.Colm Go.Wirep Go.Maps
set_option linter.unusedVariables false

/-- A call of a Go function by its contract, as one step of a region that draws its order: what comes back is told by a relation. -/
theorem step_call2 {P : Program} {ops : Array Oper} {o : Oper} {a : Act} {w : World} {K : Act → World → Prop} {Q : Exit → Act → World → Prop} {E : Prop} (hg : o.guard = none) (f : FuncId) (args : Array Value) (hrun : (execOp a.eval o).run P w = .ok (.enter f args) w)
    (R : Value → World → Prop) (hc : Calls P f args w fun e w' => ∃ v, e = .returned v ∧ R v w') (h : ∀ v w', R v w' → K (a.put o.dst v) w') :
    if Region.wanted o (yielded ops a.tmps) = true then Oper.wp P o a w K Q else E := by
  have hw : Region.wanted o (yielded ops a.tmps) = true := by simp [Region.wanted, hg]
  rw [if_pos hw]
  unfold Oper.wp
  rw [hrun, Oper.upon_enter]
  refine hc.mono fun e w' hh => ?_
  obtain ⟨v, rfl, hR⟩ := hh
  exact h v w' hR
theorem wf_nat {n : Nat} (h : n < 1099511627776) : (Lit.int .i64 (n : Int)).wf = true := by
  have h0 : IntKind.i64.min = -9223372036854775808 := by decide
  have h1 : IntKind.i64.max = 9223372036854775807 := by decide
  simp only [Lit.wf, h0, h1]
  simp
  omega
theorem or_192 {x : Int} (h0 : 0 ≤ x) (h1 : x < 64) : bits BinOp.or IntKind.i64 192 x = 192 + x := by
  have h : ∀ n : Fin 64, bits BinOp.or IntKind.i64 192 (n.val : Int) = 192 + (n.val : Int) := by decide +kernel
  have := h ⟨x.toNat, by omega⟩
  rwa [show ((⟨x.toNat, by omega⟩ : Fin 64).val : Int) = x by simp; omega] at this
theorem point_row (w : World) {to : Nat} (h : to < 16384) : ∀ j u, (bytesV [UInt8.ofNat (192 + to / 256), UInt8.ofNat (to % 256)])[j]? = some u →
    (w.alloc (.cells #[.int .u8 (bits BinOp.or IntKind.i64 192 ((to : Int) / 256) % 256), .int .u8 ((to : Int) % 256)] 5)).cell? ((⟨w.heap.size, 0, none⟩ : Addr).add j) = some u := by
  intro j u hj
  have e1 : ((UInt8.ofNat (192 + to / 256)).toNat : Int) = bits BinOp.or IntKind.i64 192 ((to : Int) / 256) % 256 := by
    rw [or_192 (by omega) (by omega), UInt8.toNat_ofNat']
    omega
  have e2 : ((UInt8.ofNat (to % 256)).toNat : Int) = (to : Int) % 256 := by
    rw [UInt8.toNat_ofNat']
    omega
  have hb : bytesV [UInt8.ofNat (192 + to / 256), UInt8.ofNat (to % 256)] = [.int .u8 (bits BinOp.or IntKind.i64 192 ((to : Int) / 256) % 256), .int .u8 ((to : Int) % 256)] := by
    simp only [bytesV, List.map_cons, List.map_nil, e1, e2]
  rw [hb] at hj
  have hlt : j < 2 := by
    have := (List.getElem?_eq_some_iff.1 hj).1
    simpa using this
  have hn := heap_new w (.cells #[.int .u8 (bits BinOp.or IntKind.i64 192 ((to : Int) / 256) % 256), .int .u8 ((to : Int) % 256)] 5)
  rw [show (⟨w.heap.size, 0, none⟩ : Addr).add j = ⟨w.heap.size, j, none⟩ by
    unfold Addr.add
    split <;> simp_all]
  simp only [World.cell?, hn]
  simpa using hj
theorem zeroI (w : World) : (zeroValue 3).run Try.prog w = .ok (.int .i64 0) w := by kernel_rfl

theorem putF_at {l : List (List UInt8)} {k to : Nat} {p : Packed} (hk : k < l.length) (h : lookL (keyL (l.drop k)) p.2 = some to) : putF (l.drop k) p = (p.1 ++ [UInt8.ofNat (192 + to / 256), UInt8.ofNat (to % 256)], p.2) := by
  rw [List.drop_eq_getElem_cons hk] at h ⊢
  exact putF_some h
theorem putF_on {l : List (List UInt8)} {k : Nat} {p : Packed} (hk : k < l.length) (h : lookL (keyL (l.drop k)) p.2 = none) : putF (l.drop k) p = putF (l.drop (k + 1)) (putL p.1 l[k], (keyL (l.drop k), p.1.length) :: p.2) := by
  rw [List.drop_eq_getElem_cons hk] at h ⊢
  exact putF_none h

/-- What comes of laying a label. -/
def LabelIs (B : Nat) (b : List UInt8) (w : World) (v : Value) (w' : World) : Prop := ∃ A' c', v = .slice A' b.length c' ∧ w'.ownsRow B 5 1 (.slice A' b.length c') b.length (bytesV b) ∧ KeptU B w w'
theorem labelIs_of {B : Nat} {b : List UInt8} {w w' : World} {e : Ending} (h : ∃ A' c', e = .returned (.slice A' b.length c') ∧ w'.ownsRow B 5 1 (.slice A' b.length c') b.length (bytesV b) ∧ KeptU B w w') : ∃ v, e = .returned v ∧ LabelIs B b w v w' := by
  obtain ⟨A', c', rfl, h1, h2⟩ := h
  exact ⟨_, rfl, A', c', rfl, h1, h2⟩
theorem wireL_mem : ∀ {l : List (List UInt8)} {s : List UInt8}, s ∈ l → s.length < wireL l
  | x :: r, s, h => by
    rcases List.mem_cons.1 h with rfl | h
    · simp only [wireL]
      omega
    · have := wireL_mem h
      simp only [wireL]
      omega

/-- What is carried from suffix to suffix. -/
structure PutAt (pb mb B : Nat) (l : List (List UInt8)) (p0 : Packed) (w w1 : World) (k : Nat) (v : Value) (p : Packed) (wr : World) : Prop where
  pack : PackAt pb mb B v p wr
  all : putF l p0 = putF (l.drop k) p
  kept : KeptT B w wr
  kept1 : KeptT B w1 wr
  small : ∀ e ∈ p.2, e.2 < 16384
  few : p.2.length ≤ p.1.length
  room : p.1.length + wireL (l.drop k) ≤ 16384

theorem PutAt.next {pb mb B : Nat} {l : List (List UInt8)} {p0 : Packed} {w w1 wr w' : World} {k : Nat} {v v' : Value} {p : Packed} {ks b2 : List UInt8} (h : PutAt pb mb B l p0 w w1 k v p wr) (hlk : lookL ks p.2 = none) (hks : ks = keyL (l.drop k)) {hlt : k < l.length}
    (hb : b2 = (p.1 ++ [UInt8.ofNat l[k].length]) ++ lowL l[k]) (hp : PackAt pb mb B v' (b2, (ks, p.1.length) :: p.2) w') (hk : KeptT B wr w') (_ : k < l.length) : PutAt pb mb B l p0 w w1 (k + 1) v' (b2, (ks, p.1.length) :: p.2) w' := by
  subst hks
  have hr := h.room
  have hw : wireL (l.drop k) = l[k].length + 1 + wireL (l.drop (k + 1)) := by
    rw [List.drop_eq_getElem_cons hlt]
    rfl
  have hl2 : b2.length = p.1.length + 1 + l[k].length := by
    rw [hb]
    simp [lowL_length]
    omega
  refine ⟨hp, ?_, h.kept.trans hk, h.kept1.trans hk, ?_, ?_, ?_⟩
  · rw [h.all, putF_on hlt hlk, hb]
    rfl
  · intro e he
    rcases List.mem_cons.1 he with rfl | he
    · simp only
      omega
    · exact h.small e he
  · have := h.few
    simp only [List.length_cons]
    omega
  · simp only
    omega

set_option maxRecDepth 100000 in
set_option maxHeartbeats 4000000 in
theorem put_any (pb mb B : Nat) (v : Value) (p : Packed) (A : Option Addr) (c : Nat) (l : List (List UInt8)) (w : World) (h : PackAt pb mb B v p w) (hr : ∀ W, KeptT B w W → RowV W A (labV l)) (hcap : l.length ≤ c) (hB : B ≤ w.heap.size)
    (hs : ∀ e ∈ p.2, e.2 < 16384) (hf : p.2.length ≤ p.1.length) (hw : p.1.length + wireL l ≤ 16384) (h255 : wireL l ≤ 255) :
    Calls Try.prog 25 #[.pointer (some ⟨pb, 0, none⟩), .slice A l.length c] w fun e w' => e = .returned (.tuple #[]) ∧ (∃ v', PackAt pb mb B v' (putF l p) w') ∧ KeptT B w w' := by
  have hlen := wireL_len l
  have HSUF := Lib.hid (suffixes_any A c l w (hr w (KeptT.refl _ _)) hcap (by omega))
  have HR := Lib.hid hr
  have H := Lib.hid h
  have hwl : l.length < 16384 := by omega
  clear hr h
  go_enter Try.func25, Try.ntmps25
  go_wp2_with fail
  refine HSUF.out.mono ?_
  rintro e w1 ⟨sv, rfl, hSU, hb1⟩
  have HP0 : Hid (PutAt pb mb B l p w w1 0 v p w1) := Lib.hid ⟨H.out.below hb1, by rw [List.drop_zero], KeptT.below hb1, KeptT.refl _ _, hs, hf, by rw [List.drop_zero]; exact hw⟩
  obtain ⟨A1, c1, vs, rfl, hS1, hS2⟩ := hSU
  have HS1 := Lib.hid hS1
  have HS2 := Lib.hid hS2
  have hsz1 := hb1.size
  clear hS1 hS2 hb1 hs hf HSUF H
  go_wp2_with fail
  go_loopw [12] (fun i wr => ∃ (k : Nat) (v' : Value) (p' : Packed), k ≤ l.length ∧ i = .int .i64 k ∧ Hid (PutAt pb mb B l p w w1 k v' p' wr)) (fun i _ => l.length - (intOf i).toNat)
  case atStart => exact ⟨0, v, p, Nat.zero_le _, rfl, HP0⟩
  case round =>
    obtain ⟨k, v', p', hk, rfl, HPK⟩ := hrel
    by_cases hlt : k < l.length
    · obtain ⟨Au, cu, hvk, hcu, hru⟩ := HS2.out k hlt
      obtain ⟨ba, oa, csa, fza, rfl, hha, hca⟩ := (rowT_keptT HS1.out HPK.out.kept1 (by decide) (by decide)) k _ hvk
      have x1 : wr.cell? ⟨ba, oa + k, none⟩ = some (.slice Au (l.length - k) cu) := by simp [World.cell?, hha, hca]
      have hrow := (rowT_keptT hru HPK.out.kept1 (by decide) (by decide)).row
      have hdl : (l.drop k).length = l.length - k := List.length_drop
      have hroom := HPK.out.room
      have hkey := key_any (l.drop k) Au cu wr hrow (by intro e; rw [e] at hdl; simp at hdl; omega) (by omega) (by omega)
      rw [hdl] at hkey
      obtain ⟨ks, hks⟩ : ∃ ks, ks = keyL (l.drop k) := ⟨_, rfl⟩
      rw [← hks] at hkey
      have HKEY := Lib.hid hkey
      have HKS := Lib.hid hks
      clear hvk hru hha hca hrow hkey hdl hcu hks
      go_wp2_with fail
      refine HKEY.out.mono ?_
      rintro e w2 ⟨rfl, hb2⟩
      have HPK2 := Lib.hid (HPK.out.pack.below hb2)
      have HK2 := Lib.hid (KeptT.below (B := B) hb2)
      have c1 : w2.cell? ⟨pb, 1, none⟩ = some (.map (some mb)) := HPK2.out.box.cell 1
      have c0 : w2.cell? ⟨pb, 0, none⟩ = some v' := HPK2.out.box.cell 0
      have f0 := HPK2.out.box.frozen 0
      have hkl : ks.length ≤ 16384 := by
        have := join_len (l.drop k)
        rw [HKS.out, keyL, lowL_length]
        omega
      have HKY : Hid (keyOf Try.prog 9 (.string ⟨ks.toArray⟩) = some (.string ks)) := Lib.hid (WideMaps.keyOf_string_mk Try.underlying9 (s := ⟨ks.toArray⟩) (by rw [str_size]; unfold maxLen; omega))
      have HHAS := Lib.hid (datL_has ks p'.2)
      clear hb2 HKEY
      rcases hlk : lookL ks p'.2 with _ | to
      · have hhas : Maps.has (datL p'.2) (.string ks) = false := by rw [HHAS.out, hlk]; rfl
        have HLK := Lib.hid hlk
        have HHS := Lib.hid hhas
        have HPD : Hid (PackAt pb mb B v' p' w2.drew) := Lib.hid (HPK2.out.drewN 1)
        have hown2 := own_row HPK2.out.row
        obtain ⟨Av, cv, hv', _⟩ := hown2
        subst hv'
        have hlv : p'.1.length ≤ 16384 := by omega
        have hfew := HPK.out.few
        clear hlk hhas HHAS
        go_wp2_with (at_lookup; refine wpList_lookup_own_ok_int _ rfl _ _ 57 rfl 9 3 .i64 (string_keyed Try.underlying9) Try.underlying57 Try.underlying3 (zeroI _) mb p'.2.length (datL p'.2) rfl HPK2.out.map (.string ⟨ks.toArray⟩) (.string ks) rfl HKY.out ?_; intro c hat hwc; clear hat hwc; rw [HHS.out])
        obtain ⟨w3, hrun3, hm3, hg3⟩ := HPD.out.map.update (val := .int .i64 (p'.1.length : Int)) (string_keyed Try.underlying9) Try.underlying57 (by unfold maxLen; omega) HKY.out (plainElem_int Try.underlying3 (wf_nat (by omega)))
        obtain ⟨hp3, ht3⟩ := HPD.out.put hm3 hg3
        have HP3 := Lib.hid hp3
        have HT3 := Lib.hid ht3
        have d0 : w2.drew.cell? ⟨pb, 0, none⟩ = some (.slice Av p'.1.length cv) := c0
        have d1 : w2.drew.cell? ⟨pb, 1, none⟩ = some (.map (some mb)) := c1
        have g0 : w3.cell? ⟨pb, 0, none⟩ = some (.slice Av p'.1.length cv) := hp3.box.cell 0
        clear hm3 hg3 hp3 ht3
        go_region
        clear hrun3
        obtain ⟨bl, ol, rfl, xl⟩ := labV_at (HR.out w3 (HPK.out.kept.trans ((HK2.out.drewN 1).trans HT3.out))) hlt
        have xld : w3.drew.cell? ⟨bl, ol + k, none⟩ = some (.string ⟨l[k].toArray⟩) := xl
        have gd : w3.drew.cell? ⟨pb, 0, none⟩ = some (.slice Av p'.1.length cv) := g0
        have hsl : l[k].length < 256 := by
          have := wireL_mem (List.getElem_mem hlt)
          omega
        have hBw : B ≤ w3.drew.heap.size := by
          have h1 := HP3.out.box.lt
          have h2 := HP3.out.hpb
          have h3 : w3.drew.heap.size = w3.heap.size := rfl
          omega
        have hlab := (labelP_any B (.slice Av p'.1.length cv) p'.1 l[k] w3.drew (HP3.out.drewN 1).row hBw hsl (by omega)).mono (fun e w' => labelIs_of)
        obtain ⟨sk, hsk⟩ : ∃ sk, sk = ByteArray.mk l[k].toArray := ⟨_, rfl⟩
        rw [← hsk] at xl xld hlab
        obtain ⟨b2, hb2⟩ : ∃ b2, b2 = (p'.1 ++ [UInt8.ofNat l[k].length]) ++ lowL l[k] := ⟨_, rfl⟩
        rw [← hb2] at hlab
        have HLAB := Lib.hid hlab
        have HSK := Lib.hid hsk
        have HB2 := Lib.hid hb2
        clear hlab hsk hb2
        go_wp2_with fail
        go_region_law (
          (refine step_call2 (w := w3.drew) rfl 26 #[.slice Av p'.1.length cv, .string sk] (by first | kernel_rfl | rfl | (simp [execOp, go_sem])) (LabelIs B b2 w3.drew) HLAB.out ?_
           rintro v4 w4 ⟨A4, c4, rfl, hown4, hk4⟩
           obtain ⟨hp4, ht4⟩ := (HP3.out.drewN 1).store hk4 hown4
           have hx4 : Whole w4 pb 59 #[.slice Av p'.1.length cv, .map (some mb)] := hk4.whole (HP3.out.drewN 1).box (by decide)
           have g4 := hx4.cell 0
           have gf := hx4.frozen 0
           have HP4 := Lib.hid hp4
           have HT4 := Lib.hid ht4
           clear hown4 hk4 hp4 ht4 hx4))
        all_goals
          go_wp2_with fail
          go_roundw
          case rel => exact ⟨k + 1, _, (b2, (ks, p'.1.length) :: p'.2), by omega, by go_num, Lib.hid (HPK.out.next HLK.out HKS.out HB2.out HP4.out (((HK2.out.drewN 1).trans HT3.out).trans ((KeptT.refl B w3).drewN 1 |>.trans HT4.out)) hlt)⟩
          case measure => simp [intOf]; omega
      · have hto := HPK.out.small _ (lookL_mem hlk)
        simp only at hto
        have HAT := Lib.hid (datL_at ks (.lit (.int .i64 0)) p'.2 to hlk)
        have hhas : Maps.has (datL p'.2) (.string ks) = true := by rw [HHAS.out, hlk]; rfl
        have HLK := Lib.hid hlk
        have HHS := Lib.hid hhas
        clear hlk hhas HHAS
        go_wp2_with (at_lookup; go_loud (refine wpList_lookup_own_ok_int _ rfl _ _ 57 rfl 9 3 .i64 (string_keyed Try.underlying9) Try.underlying57 Try.underlying3 (zeroI _) mb p'.2.length (datL p'.2) rfl HPK2.out.map (.string ⟨ks.toArray⟩) (.string ks) rfl HKY.out ?_; intro c hat hwc; rw [HAT.out] at hat; simp only [DataW.lit.injEq, Lit.int.injEq, true_and] at hat; subst hat; rw [HHS.out]))
        have hlaid := laid_any B v' p'.1 ⟨w2.heap.size, 0, none⟩ 2 2 [UInt8.ofNat (192 + to / 256), UInt8.ofNat (to % 256)] (w2.alloc (.cells #[.int .u8 (bits BinOp.or IntKind.i64 192 ((to : Int) / 256) % 256), .int .u8 ((to : Int) % 256)] 5)) (HPK2.out.row.alloc _) rfl (point_row w2 hto) (by have := HPK2.out.box.lt; have := HPK2.out.hpb; simp; omega) (by omega)
        obtain ⟨b3, hb3⟩ : ∃ b3, b3 = p'.1 ++ [UInt8.ofNat (192 + to / 256), UInt8.ofNat (to % 256)] := ⟨_, rfl⟩
        simp only [← hb3] at hlaid
        have HB3 := Lib.hid hb3
        refine hlaid.mono ?_
        rintro e w3 ⟨A3, c3, rfl, hown3, hk3⟩
        obtain ⟨hp3, ht3⟩ := (HPK2.out.alloc _).store hk3 hown3
        have hx3 : Whole w3 pb 59 #[v', .map (some mb)] := hk3.whole (HPK2.out.alloc _).box (by decide)
        have g0 := hx3.cell 0
        have gf := hx3.frozen 0
        have HP3 := Lib.hid hp3
        have HT3 := Lib.hid ht3
        clear hlaid hown3 hk3 hp3 ht3 hx3 hb3
        go_wp2_with fail
        refine bodyPost_ret (results_none rfl _ _ _) rfl ?_
        refine ⟨rfl, Exists.intro (.slice A3 _ c3) (by
          rw [HPK.out.all, putF_at hlt (HKS.out ▸ HLK.out), ← HB3.out]
          exact HP3.out), ?_⟩
        exact HPK.out.kept.trans ((HK2.out.alloc _).trans HT3.out)
    · obtain rfl : k = l.length := by omega
      have c0 : wr.cell? ⟨pb, 0, none⟩ = some v' := HPK.out.pack.box.cell 0
      have hroom := HPK.out.room
      have hlaid := laid_any B v' p'.1 ⟨wr.heap.size, 0, none⟩ 1 1 [0] (wr.alloc (.cells #[.int .u8 0] 5)) (HPK.out.pack.row.alloc _) rfl (cell_one_new wr (.int .u8 0) 5) (by have := HPK.out.pack.box.lt; have := HPK.out.pack.hpb; simp; omega) (by omega)
      obtain ⟨b3, hb3⟩ : ∃ b3, b3 = p'.1 ++ [0] := ⟨_, rfl⟩
      simp only [← hb3] at hlaid
      have HB3 := Lib.hid hb3
      have HL := Lib.hid hlaid
      clear hlaid hb3
      go_wp2_with fail
      refine HL.out.mono ?_
      rintro e w3 ⟨A3, c3, rfl, hown3, hk3⟩
      obtain ⟨hp3, ht3⟩ := (HPK.out.pack.alloc _).store hk3 hown3
      have hx3 : Whole w3 pb 59 #[v', .map (some mb)] := hk3.whole (HPK.out.pack.alloc _).box (by decide)
      have g0 := hx3.cell 0
      have gf := hx3.frozen 0
      have HP3 := Lib.hid hp3
      have HT3 := Lib.hid ht3
      clear hown3 hk3 hp3 ht3 hx3
      go_wp2_with fail
      go_end0
      refine ⟨rfl, Exists.intro (.slice A3 _ c3) (by
        rw [HPK.out.all, List.drop_length, putF_nil, ← HB3.out]
        exact HP3.out), ?_⟩
      exact (HPK.out.kept.alloc _).trans HT3.out

end Go.Proofs.Ytfnpjcfaabbejaa
