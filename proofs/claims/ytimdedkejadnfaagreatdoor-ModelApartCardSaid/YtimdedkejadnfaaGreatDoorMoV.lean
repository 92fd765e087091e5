/-
  The walk of a model's Put, of a key that isn't there, into a model with blocks enough. No condition but sizes.
-/
import Derived.Test.YtimdedkejadnfaaGreatDoorMoU
import Derived.Test.YtimdedkejadnfaaGreatDoorRgo
namespace Go.Proofs.YtimdedkejadnfaaGreatDoor
open Go.RowKit Go.Foldp Go.Colm Go.Wirep Go.Maps
set_option linter.unusedVariables false
set_option linter.unusedSimpArgs false
set_option linter.unusedSectionVars false

/-- A Put goes well: what there is then. -/
structure PutR (M : Mod) (nm : List UInt8) (typ : Nat) (recs : List (List UInt8)) (life : Nat) (M' : Mod) : Prop where
  lent : M.lent = 0
  parse : (parseL nm).2 = 0
  known : knownF M (parseL nm).1 0 = (none, (parseL nm).1.length)
  new : getA (keyL nm, typ) M.ents = none
  now : M.now < 18446744073709551616
  rest : ∃ size M1 pin1 cc s b M2 p x, sizeR recs = (size, 0) ∧ GrowR (parseL nm).1 (parseL nm).1.length M none M1 pin1 ∧ entryC size = (cc, 0) ∧ size < 1099511627776 ∧ 1 ≤ blocksC cc ∧ M1.parts.length < 1099511627776 ∧
    (∀ p ∈ M1.parts, p.free.length < 1099511627776 ∧ ∀ b ∈ p.free, b < 4611686018427387904) ∧ takeM M1 cc = (some (s, b), M2) ∧ Valid M2 ∧ (∀ i, pin1 = some i → i < M2.ntab.length) ∧ M2.now = M.now ∧ M2.parts[s]? = some p ∧ getA b p.live = some x ∧ b < 4611686018427387904 ∧ M2.ring.length < 1099511627776 ∧
    M' = enterM { M2 with etab := M2.etab ++ [⟨s, b, keyL nm, typ, pin1, recs, endC M.now life, false⟩] } M2.etab.length ⟨s, b, keyL nm, typ, pin1, recs, endC M.now life, false⟩ p

/-- The block that a pointer points to. -/
def blkOf : Value → Nat
  | .pointer (some a) => a.block
  | _ => 0
def keyF (A : Option Addr) (n c : Nat) (k : List UInt8) (typ kb h : Nat) : Nat → Value → World → Prop
  | 0, v, _ => v = .slice A n c
  | 1, v, _ => v = .string ⟨k.toArray⟩
  | 2, v, _ => v = .pointer (some ⟨kb, 1, none⟩)
  | 3, v, _ => v = .int .u16 (typ : Int)
  | 4, v, _ => v = .agg #[.string ⟨k.toArray⟩, .int .u16 (typ : Int)]
  | 5, v, w => v = .pointer (some ⟨blkOf v, 0, none⟩) ∧ h ≤ blkOf v ∧ Whole w (blkOf v) 34 #[.string ⟨#[]⟩, .int .u16 0]
  | _, _, _ => True
theorem keyF_stab (A : Option Addr) (n c : Nat) (k : List UInt8) (typ kb h : Nat) : ∀ (j : Nat) (v : Value) (w w' : World), Below w.heap.size w w' → keyF A n c k typ kb h j v w → keyF A n c k typ kb h j v w'
  | 0, _, _, _, _, h => h
  | 1, _, _, _, _, h => h
  | 2, _, _, _, _, h => h
  | 3, _, _, _, _, h => h
  | 4, _, _, _, _, h => h
  | 5, _, _, _, hb, ⟨e, h1, h2⟩ => ⟨e, h1, (hb.block _ h2.lt).trans h2⟩
  | _ + 6, _, _, _, _, _ => trivial

theorem newEntG {L : Lay} {M : Mod} {w w' : World} (h : Has L M w) (hv : Valid M) (d : Ent) (b : Nat) (A : Option Addr) (c : Nat) (hb : w.heap.size ≤ b) (hb' : b < w'.heap.size) (hn : ∀ i, d.node = some i → i < M.ntab.length)
    (hrec : RecAt (fun k => w.heap.size ≤ k ∧ k < b) w' A d.recs) (hk : Below w.heap.size w w') (hx : Whole w' b 95 (entC { L with rcs := upd L.rcs M.etab.length (.slice A d.recs.length c) } M.etab.length d)) :
    Goes L M w { L with eb := upd L.eb M.etab.length b, rcs := upd L.rcs M.etab.length (.slice A d.recs.length c), G := fun k => if k = b then some (.ent M.etab.length) else if w.heap.size ≤ k ∧ k < b then some .recs else L.G k } { M with etab := M.etab ++ [d] } w' := by
  refine ⟨h.newEnt hv d b b _ A c hb (Nat.le_refl _) hb' hn rfl hrec hk hx, rfl, Kept.below hk _, fun k hk' => ?_, fun _ _ => rfl, fun i hi => upd_other _ _ (by omega), Nat.le_refl _, by simp⟩
  simp only at hk'
  by_cases e : k = b
  · exact .inr (by omega)
  · rw [if_neg e] at hk'
    by_cases e2 : w.heap.size ≤ k ∧ k < b
    · exact .inr e2.1
    · rw [if_neg e2] at hk'
      exact .inl hk'
def putF (s b : Nat) (k : List UInt8) (typ : Nat) (pv : Option Addr) (A : Option Addr) (n c : Nat) (recs : List (List UInt8)) (xb now life fin h : Nat) : Nat → Value → World → Prop
  | 0, v, _ => v = .pointer (some ⟨xb, 0, none⟩)
  | 1, v, _ => v = .agg #[.int .i64 (s : Int), .int .i64 (b : Int)]
  | 2, v, _ => v = .agg #[.string ⟨k.toArray⟩, .int .u16 (typ : Int)]
  | 3, v, _ => v = .pointer pv
  | 4, v, _ => v = .slice A n c
  | 5, v, w => ∃ A', v = .slice A' n n ∧ RecAt (fun k => h ≤ k ∧ k < w.heap.size) w A' recs
  | 6, v, _ => v = .pointer (some ⟨xb, 0, none⟩)
  | 7, v, _ => v = .pointer (some ⟨xb, 0, none⟩)
  | 8, v, _ => v = .pointer (some ⟨xb, 5, none⟩)
  | 9, v, _ => v = .int .u64 (now : Int)
  | 10, v, _ => v = .int .u64 (life : Int)
  | 11, v, _ => v = .int .u64 (fin : Int)
  | 12, v, w => ∃ A', v = .agg #[.int .i64 (s : Int), .int .i64 (b : Int), .string ⟨k.toArray⟩, .int .u16 (typ : Int), .pointer pv, .slice A' n n, .int .u64 (fin : Int), .bool false] ∧ RecAt (fun k => h ≤ k ∧ k < w.heap.size) w A' recs
  | 13, v, w => ∃ A' be, v = .pointer (some ⟨be, 0, none⟩) ∧ h ≤ be ∧ Whole w be 95 #[.int .i64 (s : Int), .int .i64 (b : Int), .string ⟨k.toArray⟩, .int .u16 (typ : Int), .pointer pv, .slice A' n n, .int .u64 (fin : Int), .bool false] ∧ RecAt (fun k => h ≤ k ∧ k < be) w A' recs
  | _, _, _ => True
theorem putF_stab (s b : Nat) (k : List UInt8) (typ : Nat) (pv : Option Addr) (A : Option Addr) (n c : Nat) (recs : List (List UInt8)) (xb now life fin h : Nat) : ∀ (j : Nat) (v : Value) (w w' : World), Below w.heap.size w w' → putF s b k typ pv A n c recs xb now life fin h j v w → putF s b k typ pv A n c recs xb now life fin h j v w'
  | 0, _, _, _, _, h => h
  | 1, _, _, _, _, h => h
  | 2, _, _, _, _, h => h
  | 3, _, _, _, _, h => h
  | 4, _, _, _, _, h => h
  | 5, _, _, _, hb, ⟨A', e, h1⟩ => ⟨A', e, (h1.below hb).mono fun k hk => ⟨hk.1, Nat.lt_of_lt_of_le hk.2 hb.size⟩⟩
  | 6, _, _, _, _, h => h
  | 7, _, _, _, _, h => h
  | 8, _, _, _, _, h => h
  | 9, _, _, _, _, h => h
  | 10, _, _, _, _, h => h
  | 11, _, _, _, _, h => h
  | 12, _, _, _, hb, ⟨A', e, h1⟩ => ⟨A', e, (h1.below hb).mono fun k hk => ⟨hk.1, Nat.lt_of_lt_of_le hk.2 hb.size⟩⟩
  | 13, _, _, _, hb, ⟨A', be, e, h1, h2, h3⟩ => ⟨A', be, e, h1, (hb.block _ h2.lt).trans h2, h3.below hb⟩
  | _ + 14, _, _, _, _, _ => trivial

set_option maxRecDepth 100000 in
set_option maxHeartbeats 12800000 in
theorem put_ok (L : Lay) (M : Mod) (w : World) (N : Nat → Prop) (nm : List UInt8) (typ : Nat) (recs : List (List UInt8)) (A : Option Addr) (c life : Nat) (M' : Mod) (h : Has L M w) (hn : nm.length ≤ 100000) (ht : typ < 65536) (hlife : life < 18446744073709551616)
    (hr : RecAt N w A recs) (hN : ∀ k, N k → L.G k = none) (hl2 : recs.length < 4294967296) (hll : ∀ x ∈ recs, x.length < 1099511627776) (hput : PutR M nm typ recs life M') :
    Calls Tryz.prog 8 #[.pointer (some ⟨L.xb, 0, none⟩), keyV nm typ, .slice A recs.length c, .int .u64 (life : Int)] w fun e w' => e = .returned (.tuple #[.slice none 0 0, .int .i64 0]) ∧ ∃ L', Goes L M w L' M' w' := by
  have hl : recs.length < 1099511627776 := by omega
  obtain ⟨hlent, hp, hkn, hnew, hnow, size, M1, pin1, cc, s, b, M2, p, x, hsize, hgrow, hent, hsl, hbl, hps, hfr, htk, hv, hpin, hnow2, hpp, hx, hb, hring, rfl⟩ := hput
  obtain ⟨w0, hw0⟩ : ∃ w0, w0 = w.alloc (.cells #[.string ⟨nm.toArray⟩, .int .u16 (typ : Int)] 34) := ⟨_, rfl⟩
  have hb0 : Below w.heap.size w w0 := by rw [hw0]; exact (Below.refl _ w).alloc (Nat.le_refl _) _
  have hr0 : Whole w0 w.heap.size 34 #[.string ⟨nm.toArray⟩, .int .u16 (typ : Int)] := by rw [hw0]; exact Whole.new w _ _
  have h0 := h.below hb0
  have x0 : w0.cell? ⟨w.heap.size, 0, none⟩ = some (.string ⟨nm.toArray⟩) := hr0.cell 0
  have hfree := free_any L M w0 h0
  rw [show freeE M = 0 by rw [freeE, hlent]; rfl] at hfree
  have hparse := parse_any nm w0 (h0.comp .glob).2 hn
  have HFR := Lib.hid hfree
  have HP := Lib.hid hparse
  have H0 := Lib.hid h0
  have HB0 := Lib.hid hb0
  have HR0 := Lib.hid hr0
  have H := Lib.hid h
  have HREC := Lib.hid hr
  have HN := Lib.hid hN
  have HPP := Lib.hid hp
  clear h h0 hfree hparse hb0 hr0 hr hN
  unfold keyV strV
  go_enter Tryz.func8, Tryz.ntmps8
  go_upto_region 1 with fail
  rw [← hw0]
  clear hw0
  go_wp2_with fail
  refine HFR.out.mono ?_
  rintro e w1 ⟨rfl, rfl⟩
  go_wp2_with fail
  refine HP.out.mono ?_
  rintro e w2 ⟨A2, c2, rfl, hrow, hcap, hb2, hfresh⟩
  have hck := parse_ok hp
  rw [hp]
  have hrec2 : RecAt N w2 A recs := (HREC.out.below HB0.out).below hb2
  have hsz := sizer_any N A c recs w2 hl hll hrec2
  rw [hsize] at hsz
  have HSZ := Lib.hid hsz
  have h2 := H0.out.below hb2
  have hkno := known_any L M w2 (parseL nm).1 A2 c2 h2 hrow hcap (by have := checkL_wire hck; omega)
  rw [hkn] at hkno
  have HKN := Lib.hid hkno
  have HB2 := Lib.hid hb2
  have H2 := Lib.hid h2
  have HROW := Lib.hid hrow
  have HFRESH : Hid (∀ a, A2 = some a → w.heap.size ≤ a.block) := Lib.hid fun a ha => Nat.le_trans HB0.out.size (hfresh a ha)
  clear hfresh
  clear hsz hkno hb2 h2 hrow hrec2 hp
  go_wp2_with fail
  refine HSZ.out.mono ?_
  rintro e w3 ⟨rfl, rfl⟩
  go_wp2_with fail
  refine HKN.out.mono ?_
  rintro e w4 ⟨rfl, hb4⟩
  have HB4 := Lib.hid hb4
  have H4 := Lib.hid (H2.out.below hb4)
  have HROW4 := Lib.hid (HROW.out.below hb4)
  have hkb4 : Whole w4 w.heap.size 34 #[.string ⟨nm.toArray⟩, .int .u16 (typ : Int)] := (hb4.block _ (by have := HB2.out.size; have := HR0.out.lt; omega)).trans ((HB2.out.block _ HR0.out.lt).trans HR0.out)
  have HKB4 := Lib.hid hkb4
  clear hb4 hkb4
  simp only [ptrN, Option.map_none]
  go_upto_region 13 with fail
  go_cut [16] from 60 to 64 (fun s16 wx => ∃ kb, s16 = .pointer (some ⟨kb, 0, none⟩) ∧ Hid (Whole wx kb 34 #[.string ⟨(keyL nm).toArray⟩, .int .u16 (typ : Int)]) ∧ Hid (w4.heap.size ≤ kb) ∧ Hid (Below w4.heap.size w4 wx))
  case first =>
    have htx := fun W (hW : Below w4.heap.size w4 W) => textM_any (parseL nm).1 A2 c2 W (HROW4.out.below hW) hcap (by have := checkL_wire hck; omega)
    rw [show (textL (parseL nm).1).1 = keyL nm from rfl] at htx
    unfold strV at htx
    have HTX := Lib.hid htx
    have x3 : w4.cell? ⟨w.heap.size, 1, none⟩ = some (.int .u16 (typ : Int)) := HKB4.out.cell 1
    clear htx hcap hck
    refine wp_region_last (keyF A2 (parseL nm).1.length c2 (keyL nm) typ w.heap.size w4.heap.size) (fun w w' => Below w.heap.size w w') 6 _ rfl (m := 139) rfl (by kernel_rfl) rfl (by kernel_rfl) (by kernel_rfl) (fun w => Below.refl _ _) (fun _ _ _ => below_chain) (keyF_stab _ _ _ _ _ _ _) ?_ ?_
    · refine steps_cons ?_ (steps_cons ?_ (steps_cons ?_ (steps_cons ?_ (steps_cons ?_ (steps_cons ?_ steps_nil)))))
      · intro L9 a9 W9 hm hn hp hr K9 hK
        have e11 : a9.tmps[11]? = some (.slice A2 (parseL nm).1.length c2) := (hm.keep2 hn (by rfl)).trans rfl
        exact stepV rfl (by go_simp) (hK _ _ rfl (Below.refl _ _))
      · intro L9 a9 W9 hm hn hp hr K9 hK
        obtain ⟨v0, e60, hf0⟩ := hm.val2 (j := 0) (t := 60) rfl rfl (hp ⟨0, .data⟩ (by simp) rfl)
        obtain rfl : v0 = .slice A2 (parseL nm).1.length c2 := hf0
        refine stepC rfl 22 #[.slice A2 (parseL nm).1.length c2] (by simp [execOp, go_sem, e60]) (fun v w' => v = .string ⟨(keyL nm).toArray⟩ ∧ Below W9.heap.size W9 w') ?_ ?_
        · refine (HTX.out W9 (below_chain (Below.refl _ w4).drew hr)).mono ?_
          rintro e w5 ⟨rfl, hb5⟩
          exact ⟨_, rfl, rfl, hb5⟩
        · rintro v w5 ⟨rfl, hb5⟩
          exact hK _ _ rfl hb5
      · intro L9 a9 W9 hm hn hp hr K9 hK
        have e5 : a9.tmps[5]? = some (.pointer (some ⟨w.heap.size, 0, none⟩)) := (hm.keep2 hn (by rfl)).trans rfl
        exact stepV rfl (by go_simp) (hK _ _ rfl (Below.refl _ _))
      · intro L9 a9 W9 hm hn hp hr K9 hK
        obtain ⟨v2, e62, hf2⟩ := hm.val2 (j := 2) (t := 62) rfl rfl (hp ⟨2, .data⟩ (by simp) rfl)
        obtain rfl : v2 = .pointer (some ⟨w.heap.size, 1, none⟩) := hf2
        have x9 : W9.cell? ⟨w.heap.size, 1, none⟩ = some (.int .u16 (typ : Int)) := ((below_chain (Below.refl _ w4).drew hr).cell (lt_of_cell x3)).trans x3
        exact stepV rfl (by go_simp) (hK _ _ rfl (Below.refl _ _))
      · intro L9 a9 W9 hm hn hp hr K9 hK
        obtain ⟨v1, e61, hf1⟩ := hm.val2 (j := 1) (t := 61) rfl rfl (hp ⟨1, .data⟩ (by simp) rfl)
        obtain rfl : v1 = .string ⟨(keyL nm).toArray⟩ := hf1
        obtain ⟨v3, e63, hf3⟩ := hm.val2 (j := 3) (t := 63) rfl rfl (hp ⟨3, .data⟩ (by simp) rfl)
        obtain rfl : v3 = .int .u16 (typ : Int) := hf3
        exact stepV rfl (by go_simp) (hK _ _ rfl (Below.refl _ _))
      · intro L9 a9 W9 hm hn hp hr K9 hK
        refine stepV (v := .pointer (some ⟨W9.heap.size, 0, none⟩)) (w' := W9.alloc (.cells #[.string ⟨#[]⟩, .int .u16 0] 34)) rfl (by go_simp) (hK _ _ ?_ ?_)
        · exact ⟨rfl, hr.size, Whole.new _ _ _⟩
        · exact (Below.refl _ _).alloc (Nat.le_refl _) _
    · intro vs a9 W ha hF hR K hK
      have h60 : vs 0 = .slice A2 (parseL nm).1.length c2 := hF 0 (by decide)
      have h61 : vs 1 = .string ⟨(keyL nm).toArray⟩ := hF 1 (by decide)
      have h62 : vs 2 = .pointer (some ⟨w.heap.size, 1, none⟩) := hF 2 (by decide)
      have h63 : vs 3 = .int .u16 (typ : Int) := hF 3 (by decide)
      have h64 : vs 4 = .agg #[.string ⟨(keyL nm).toArray⟩, .int .u16 (typ : Int)] := hF 4 (by decide)
      have h5 := hF 5 (by decide)
      clear hF
      simp only [keyF] at h5
      have h16 := h5.1
      have hkl := h5.2.1
      have hkw := h5.2.2
      clear h5
      generalize blkOf (vs 5) = kb at h16 hkl hkw
      have c0 := hkw.cell 0
      have c1 := hkw.cell 1
      have f0 := hkw.frozen 0
      have f1 := hkw.frozen 1
      simp only [List.getElem?_toArray, List.getElem?_cons_zero, List.getElem?_cons_succ] at c0 c1
      have HKW := Lib.hid hkw
      have HRR := Lib.hid hR
      clear hR hkw HTX
      have e16 : a9.tmps[16]? = some (.pointer (some ⟨kb, 0, none⟩)) := by
        rw [ha]
        simp only [List.take_succ_cons, List.take_zero, putAll, Act.put, List.setIfInBounds_toArray, List.set_cons_zero, List.set_cons_succ, Nat.zero_add, Nat.reduceAdd, h16]
        rfl
      have e64 : a9.tmps[64]? = some (.agg #[.string ⟨(keyL nm).toArray⟩, .int .u16 (typ : Int)]) := by
        rw [ha]
        simp only [List.take_succ_cons, List.take_zero, putAll, Act.put, List.setIfInBounds_toArray, List.set_cons_zero, List.set_cons_succ, Nat.zero_add, Nat.reduceAdd, h64]
        rfl
      have HA9 := Lib.hid ha
      clear ha
      refine stepS (w' := (W.setCell ⟨kb, 0, none⟩ (.string ⟨(keyL nm).toArray⟩)).setCell ⟨kb, 1, none⟩ (.int .u16 (typ : Int))) rfl (by go_simp) (hK _ _ ?_)
      rw [HA9.out]
      clear HA9 e16 e64 hK
      simp only [List.take_succ_cons, List.take_zero, putAll, Act.put, List.setIfInBounds_toArray, List.set_cons_zero, List.set_cons_succ, Nat.zero_add, Nat.reduceAdd, h60, h61, h62, h63, h64, h16]
      go_wp2_with fail
      go_meet
      exact ⟨kb, rfl, Lib.hid (place2 HKW.out _ _), Lib.hid hkl, Lib.hid ((below_chain (Below.refl _ w4).drew HRR.out).trans ((keptP W kb _ _).to_below (below_chain (Below.refl _ w4).drew HRR.out).size (fun k hk e => by omega)))⟩
  case rest =>
    obtain ⟨kb, rfl, HKB, HKL, HB5⟩ := hcut
    have h5 := H4.out.below HB5.out
    have x2 : wc.cell? ⟨L.xb, 2, none⟩ = some (.map (some L.em)) := h5.xcell 2
    have k0 : wc.cell? ⟨kb, 0, none⟩ = some (.string ⟨(keyL nm).toArray⟩) := HKB.out.cell 0
    have k1 : wc.cell? ⟨kb, 1, none⟩ = some (.int .u16 (typ : Int)) := HKB.out.cell 1
    have hlook : (Instr.lookup 61 (.map (some L.em)) (.agg #[.string ⟨(keyL nm).toArray⟩, .int .u16 (typ : Int)]) true).run Tryz.prog wc.drew = .ok (.tuple #[.pointer none, .bool false]) wc.drew := by
      rcases look_ents h5 (k := keyL nm) (t := typ) (Nat.le_trans text_len (by omega)) ht with ⟨_, hl⟩ | ⟨i, hg, _⟩
      · exact hl _ (Below.refl _ wc).drew
      · rw [hnew] at hg
        cases hg
    have hchain : Below w.heap.size w wc := below_chain HB0.out (below_chain HB2.out (below_chain HB4.out HB5.out))
    have HCH := Lib.hid hchain
    have HROW5 := Lib.hid (HROW4.out.below HB5.out)
    clear h5 hchain hnew x0
    go_upto_region 14 with fail
    go_region
    clear hlook x2 k0 k1
    go_upto_region 18 with fail
    obtain ⟨w6, hw6⟩ : ∃ w6, w6 = (wc.alloc (.cells #[.pointer (some ⟨L.xb, 0, none⟩), .slice none 0 0] 84)).drew := ⟨_, rfl⟩
    rw [← hw6]
    have hb6 : Below wc.heap.size wc w6 := by rw [hw6]; exact ((Below.refl _ wc).alloc (Nat.le_refl _) _).drew
    have hwb : Whole w6 wc.heap.size 84 #[.pointer (some ⟨L.xb, 0, none⟩), .slice none 0 0] := by rw [hw6]; exact Whole.new wc _ _
    have hg6 := (Goes.refl H.out).below (below_chain HCH.out hb6)
    have hgr := grow_any L M w6 wc.heap.size (.slice none 0 0) (parseL nm).1 A2 c2 (parseL nm).1.length none M1 pin1 hg6.has hwb (H.out.none_new HCH.out.size) (HROW5.out.below hb6) (fun a ha => H.out.none_new (HFRESH.out a ha)) hcap hck hgrow (Nat.le_refl _)
    rw [show ptrN L none = .pointer none from rfl] at hgr
    have HGR := Lib.hid hgr
    have HG6 := Lib.hid hg6
    have HWB := Lib.hid hwb
    have HB6 := Lib.hid hb6
    have HWN : Hid (L.G wc.heap.size = none) := Lib.hid (H.out.none_new HCH.out.size)
    clear hgr hg6 hwb hb6 hgrow hw6
    go_wp2_with fail
    refine HGR.out.mono ?_
    rintro e w7 ⟨L7, rfl, hg7⟩
    have hg7' := HG6.out.trans hg7
    obtain ⟨pv, hpv⟩ : ∃ pv : Option Addr, ptrN L7 pin1 = .pointer pv := ⟨_, rfl⟩
    rw [hpv]
    have hent' := entry_any size w7 (hg7'.has.comp .glob).1 hsl
    rw [hent] at hent'
    have hW7 : Whole w7 wc.heap.size 84 #[.pointer (some ⟨L.xb, 0, none⟩), .slice none 0 0] := hg7.kept.whole HWB.out fun hne => hne HWN.out
    have hx7 : L7.xb = L.xb := hg7'.xb
    have hkb6 : Whole w6 kb 34 #[.string ⟨(keyL nm).toArray⟩, .int .u16 (typ : Int)] := (HB6.out.block _ HKB.out.lt).trans HKB.out
    have hkbn : L.G kb = none := H.out.none_new (Nat.le_trans HB0.out.size (Nat.le_trans HB2.out.size (Nat.le_trans HB4.out.size HKL.out)))
    have hkb7 : Whole w7 kb 34 #[.string ⟨(keyL nm).toArray⟩, .int .u16 (typ : Int)] := hg7.kept.whole hkb6 fun hne => hne hkbn
    have HKB7 := Lib.hid hkb7
    have HKN7 : Hid (L7.G kb = none) := Lib.hid (hg7.none_at hkbn hkb6.lt)
    have HWB7 := Lib.hid hW7
    have HWN7 : Hid (L7.G wc.heap.size = none) := Lib.hid (hg7.none_at HWN.out HWB.out.lt)
    clear hkb6 hkbn hkb7
    have hhave := have_any L7 M1 w7 wc.heap.size (.slice none 0 0) cc s b M2 hg7'.has (by rw [hx7]; exact hW7) hbl hps hfr htk
    have hnt : M2.ntab = M1.ntab := by
      have := congrArg (fun x => x.2.ntab) htk
      rw [show (takeM M1 cc).2.ntab = M1.ntab from takeM_ntab M1 cc] at this
      exact this.symm
    have HEN := Lib.hid hent'
    have HHV := Lib.hid hhave
    have HG7 := Lib.hid hg7'
    have HPV := Lib.hid hpv
    clear hent' hhave hg7 hg7' hpv hW7 hent htk
    go_wp2_with fail
    refine HEN.out.mono ?_
    rintro e w8 ⟨rfl, rfl⟩
    go_wp2_with fail
    refine HHV.out.mono ?_
    rintro e w9 ⟨rfl, L8, hg8⟩
    have hg8' := HG7.out.trans hg8
    have hkb9 : Whole w9 kb 34 #[.string ⟨(keyL nm).toArray⟩, .int .u16 (typ : Int)] := hg8.kept.whole HKB7.out fun hne => hne HKN7.out
    have hwb9 : Whole w9 wc.heap.size 84 #[.pointer (some ⟨L.xb, 0, none⟩), .slice none 0 0] := hg8.kept.whole HWB7.out fun hne => hne HWN7.out
    have hwn8 : L8.G wc.heap.size = none := hg8.none_at HWN7.out HWB7.out.lt
    have hpv8 : ptrN L8 pin1 = .pointer pv := by
      rw [← HPV.out]
      cases pin1 with
      | none => rfl
      | some j =>
        simp only [ptrN, Option.map_some]
        rw [hg8.nb j (by
          have := hpin j rfl
          rw [← hnt]
          exact this)]
    go_upto_region 27 with fail
    obtain ⟨w10, hw10⟩ : ∃ w10, w10 = w9.alloc (.cells #[.int .i64 (s : Int), .int .i64 (b : Int)] 76) := ⟨_, rfl⟩
    rw [← hw10]
    have hb10 : Below w9.heap.size w9 w10 := by rw [hw10]; exact (Below.refl _ _).alloc (Nat.le_refl _) _
    have hp10 : Whole w10 w9.heap.size 76 #[.int .i64 (s : Int), .int .i64 (b : Int)] := by rw [hw10]; exact Whole.new _ _ _
    have hg10 := hg8'.below hb10
    have hkb10 : Whole w10 kb 34 #[.string ⟨(keyL nm).toArray⟩, .int .u16 (typ : Int)] := (hb10.block _ hkb9.lt).trans hkb9
    have hwb10 : Whole w10 wc.heap.size 84 #[.pointer (some ⟨L.xb, 0, none⟩), .slice none 0 0] := (hb10.block _ hwb9.lt).trans hwb9
    have HWB10 := Lib.hid hwb10
    have HWN8 := Lib.hid hwn8
    clear hwb10 hwn8 hkb9 hwb9
    have hrec10 : RecAt N w10 A recs := HREC.out.kept hg10.kept fun k hk hne => hne (HN.out k hk)
    have hx10 : L8.xb = L.xb := hg10.xb
    have z0 : w10.cell? ⟨w9.heap.size, 0, none⟩ = some (.int .i64 (s : Int)) := hp10.cell 0
    have z1 : w10.cell? ⟨w9.heap.size, 1, none⟩ = some (.int .i64 (b : Int)) := hp10.cell 1
    have z2 : w10.cell? ⟨kb, 0, none⟩ = some (.string ⟨(keyL nm).toArray⟩) := hkb10.cell 0
    have z3 : w10.cell? ⟨kb, 1, none⟩ = some (.int .u16 (typ : Int)) := hkb10.cell 1
    have z5 : w10.cell? ⟨L.xb, 5, none⟩ = some (.int .u64 (M.now : Int)) := by
      rw [← hx10, ← hnow2]
      exact hg10.has.xcell 5
    have hall : ∀ W, Below w10.heap.size w10 W → W.cell? ⟨w9.heap.size, 0, none⟩ = some (.int .i64 (s : Int)) ∧ W.cell? ⟨w9.heap.size, 1, none⟩ = some (.int .i64 (b : Int)) ∧ W.cell? ⟨kb, 0, none⟩ = some (.string ⟨(keyL nm).toArray⟩) ∧ W.cell? ⟨kb, 1, none⟩ = some (.int .u16 (typ : Int)) ∧ W.cell? ⟨L.xb, 5, none⟩ = some (.int .u64 (M.now : Int)) := fun W hW =>
      ⟨(hW.cell (lt_of_cell z0)).trans z0, (hW.cell (lt_of_cell z1)).trans z1, (hW.cell (lt_of_cell z2)).trans z2, (hW.cell (lt_of_cell z3)).trans z3, (hW.cell (lt_of_cell z5)).trans z5⟩
    have HREC10 := Lib.hid hrec10
    have HG10 := Lib.hid hg10
    have HPV8 := Lib.hid hpv8
    have HX10 := Lib.hid hx10
    have hl32 : recs.length < 4294967296 := hl2
    obtain ⟨wbk, hwbk⟩ : ∃ wbk, wbk = wc.heap.size := ⟨_, rfl⟩
    rw [← hwbk] at HWB10 HWN8 ⊢
    clear hwbk
    clear z0 z1 z2 z3 z5 hrec10 hg10 hpv8 hp10 hb10 hkb10 hg8 hg8' hw10 hx10 hsize hkn
    go_cut [] from 120 to 134 (fun wx => Hid (Whole wx wbk 84 #[.pointer (some ⟨L.xb, 0, none⟩), .slice none 0 0]) ∧ Hid (∃ L', Goes L M w L' (enterM { M2 with etab := M2.etab ++ [⟨s, b, keyL nm, typ, pin1, recs, endC M.now life, false⟩] } M2.etab.length ⟨s, b, keyL nm, typ, pin1, recs, endC M.now life, false⟩ p) wx))
    case first =>
      refine wp_region_last (putF s b (keyL nm) typ pv A recs.length c recs L.xb M.now life (endC M.now life) w10.heap.size) (fun w w' => Below w.heap.size w w') 14 _ rfl (m := 139) rfl (by kernel_rfl) rfl (by kernel_rfl) (by kernel_rfl) (fun w => Below.refl _ _) (fun _ _ _ => below_chain) (putF_stab _ _ _ _ _ _ _ _ _ _ _ _ _ _) ?_ ?_
      · refine steps_cons ?_ (steps_cons ?_ (steps_cons ?_ (steps_cons ?_ (steps_cons ?_ (steps_cons ?_ (steps_cons ?_ (steps_cons ?_ (steps_cons ?_ (steps_cons ?_ (steps_cons ?_ (steps_cons ?_ (steps_cons ?_ (steps_cons ?_ steps_nil)))))))))))))
        · intro L9 a9 W9 hm hn hp hr K9 hK
          have e0 : a9.tmps[0]? = some (.pointer (some ⟨L.xb, 0, none⟩)) := (hm.keep2 hn (by rfl)).trans rfl
          exact stepV rfl (by go_simp) (hK _ _ rfl (Below.refl _ _))
        · intro L9 a9 W9 hm hn hp hr K9 hK
          have e22 : a9.tmps[22]? = some (.pointer (some ⟨w9.heap.size, 0, none⟩)) := (hm.keep2 hn (by rfl)).trans rfl
          obtain ⟨y0, y1, _, _, _⟩ := hall W9 (below_chain (Below.refl _ w10).drew hr)
          exact stepV rfl (by go_simp) (hK _ _ rfl (Below.refl _ _))
        · intro L9 a9 W9 hm hn hp hr K9 hK
          have e16 : a9.tmps[16]? = some (.pointer (some ⟨kb, 0, none⟩)) := (hm.keep2 hn (by rfl)).trans rfl
          obtain ⟨_, _, y2, y3, _⟩ := hall W9 (below_chain (Below.refl _ w10).drew hr)
          exact stepV rfl (by go_simp) (hK _ _ rfl (Below.refl _ _))
        · intro L9 a9 W9 hm hn hp hr K9 hK
          have e14 : a9.tmps[14]? = some (.pointer pv) := (hm.keep2 hn (by rfl)).trans rfl
          exact stepV rfl (by go_simp) (hK _ _ rfl (Below.refl _ _))
        · intro L9 a9 W9 hm hn hp hr K9 hK
          have e2 : a9.tmps[2]? = some (.slice A recs.length c) := (hm.keep2 hn (by rfl)).trans rfl
          exact stepV rfl (by go_simp) (hK _ _ rfl (Below.refl _ _))
        · intro L9 a9 W9 hm hn hp hr K9 hK
          obtain ⟨v4, e124, hf4⟩ := hm.val2 (j := 4) (t := 124) rfl rfl (hp ⟨4, .data⟩ (by simp) rfl)
          obtain rfl : v4 = .slice A recs.length c := hf4
          refine stepC rfl 29 #[.slice A recs.length c] (by simp [execOp, go_sem, e124]) (fun v w' => ∃ us, RecOwn W9.heap.size w' v us recs ∧ Below W9.heap.size W9 w') ?_ ?_
          · refine (clone_any N A c recs W9 hl32 hll (HREC10.out.below (below_chain (Below.refl _ w10).drew hr))).mono ?_
            rintro e w5 ⟨v, us, rfl, hro, hb5⟩
            exact ⟨v, rfl, us, hro, hb5⟩
          · rintro v w5 ⟨us, hro, hb5⟩
            obtain ⟨A', e', hra⟩ := hro.at_
            have hsz9 : w10.heap.size ≤ W9.heap.size := hr.size
            exact hK _ _ ⟨A', e', hra.mono fun k hk => ⟨Nat.le_trans hsz9 hk.1, hk.2⟩⟩ hb5
        · intro L9 a9 W9 hm hn hp hr K9 hK
          have e0 : a9.tmps[0]? = some (.pointer (some ⟨L.xb, 0, none⟩)) := (hm.keep2 hn (by rfl)).trans rfl
          exact stepV rfl (by go_simp) (hK _ _ rfl (Below.refl _ _))
        · intro L9 a9 W9 hm hn hp hr K9 hK
          obtain ⟨v6, e126, hf6⟩ := hm.val2 (j := 6) (t := 126) rfl rfl (hp ⟨6, .data⟩ (by simp) rfl)
          obtain rfl : v6 = .pointer (some ⟨L.xb, 0, none⟩) := hf6
          exact stepV rfl (by go_simp) (hK _ _ rfl (Below.refl _ _))
        · intro L9 a9 W9 hm hn hp hr K9 hK
          obtain ⟨v7, e127, hf7⟩ := hm.val2 (j := 7) (t := 127) rfl rfl (hp ⟨7, .data⟩ (by simp) rfl)
          obtain rfl : v7 = .pointer (some ⟨L.xb, 0, none⟩) := hf7
          exact stepV rfl (by go_simp) (hK _ _ rfl (Below.refl _ _))
        · intro L9 a9 W9 hm hn hp hr K9 hK
          obtain ⟨v8, e128, hf8⟩ := hm.val2 (j := 8) (t := 128) rfl rfl (hp ⟨8, .data⟩ (by simp) rfl)
          obtain rfl : v8 = .pointer (some ⟨L.xb, 5, none⟩) := hf8
          obtain ⟨_, _, _, _, y5⟩ := hall W9 (below_chain (Below.refl _ w10).drew hr)
          exact stepV rfl (by go_simp) (hK _ _ rfl (Below.refl _ _))
        · intro L9 a9 W9 hm hn hp hr K9 hK
          have e3 : a9.tmps[3]? = some (.int .u64 (life : Int)) := (hm.keep2 hn (by rfl)).trans rfl
          exact stepV rfl (by go_simp) (hK _ _ rfl (Below.refl _ _))
        · intro L9 a9 W9 hm hn hp hr K9 hK
          obtain ⟨v9, e129, hf9⟩ := hm.val2 (j := 9) (t := 129) rfl rfl (hp ⟨9, .data⟩ (by simp) rfl)
          obtain rfl : v9 = .int .u64 (M.now : Int) := hf9
          obtain ⟨v10, e130, hf10⟩ := hm.val2 (j := 10) (t := 130) rfl rfl (hp ⟨10, .data⟩ (by simp) rfl)
          obtain rfl : v10 = .int .u64 (life : Int) := hf10
          refine stepC rfl 30 #[.int .u64 (M.now : Int), .int .u64 (life : Int)] (by simp [execOp, go_sem, e129, e130]) (fun v w' => v = .int .u64 ((endC M.now life : Nat) : Int) ∧ Below W9.heap.size W9 w') ?_ ?_
          · refine (end_any M.now life W9 hnow hlife).mono ?_
            rintro e w5 ⟨rfl, hb5⟩
            exact ⟨_, rfl, rfl, hb5⟩
          · rintro v w5 ⟨rfl, hb5⟩
            exact hK _ _ rfl hb5
        · intro L9 a9 W9 hm hn hp hr K9 hK
          obtain ⟨v1, e121, hf1⟩ := hm.val2 (j := 1) (t := 121) rfl rfl (hp ⟨1, .data⟩ (by simp) rfl)
          obtain rfl : v1 = .agg #[.int .i64 (s : Int), .int .i64 (b : Int)] := hf1
          obtain ⟨v2, e122, hf2⟩ := hm.val2 (j := 2) (t := 122) rfl rfl (hp ⟨2, .data⟩ (by simp) rfl)
          obtain rfl : v2 = .agg #[.string ⟨(keyL nm).toArray⟩, .int .u16 (typ : Int)] := hf2
          obtain ⟨v3, e123, hf3⟩ := hm.val2 (j := 3) (t := 123) rfl rfl (hp ⟨3, .data⟩ (by simp) rfl)
          obtain rfl : v3 = .pointer pv := hf3
          obtain ⟨v5, e125, hf5⟩ := hm.val2 (j := 5) (t := 125) rfl rfl (hp ⟨5, .data⟩ (by simp) rfl)
          obtain ⟨A', rfl, hra⟩ : ∃ A', v5 = .slice A' recs.length recs.length ∧ RecAt (fun k => w10.heap.size ≤ k ∧ k < W9.heap.size) W9 A' recs := hf5
          obtain ⟨v11, e131, hf11⟩ := hm.val2 (j := 11) (t := 131) rfl rfl (hp ⟨11, .data⟩ (by simp) rfl)
          obtain rfl : v11 = .int .u64 ((endC M.now life : Nat) : Int) := hf11
          have HRA := Lib.hid hra
          clear hra
          exact stepV rfl (by go_simp) (hK _ _ ⟨A', rfl, HRA.out⟩ (Below.refl _ _))
        · intro L9 a9 W9 hm hn hp hr K9 hK
          obtain ⟨v12, e132, hf12⟩ := hm.val2 (j := 12) (t := 132) rfl rfl (hp ⟨12, .data⟩ (by simp) rfl)
          obtain ⟨A', rfl, hra⟩ : ∃ A', v12 = .agg #[.int .i64 (s : Int), .int .i64 (b : Int), .string ⟨(keyL nm).toArray⟩, .int .u16 (typ : Int), .pointer pv, .slice A' recs.length recs.length, .int .u64 ((endC M.now life : Nat) : Int), .bool false] ∧ RecAt (fun k => w10.heap.size ≤ k ∧ k < W9.heap.size) W9 A' recs := hf12
          have HRA := Lib.hid hra
          clear hra
          refine stepV (v := .pointer (some ⟨W9.heap.size, 0, none⟩)) (w' := W9.alloc (.cells #[.int .i64 (s : Int), .int .i64 (b : Int), .string ⟨(keyL nm).toArray⟩, .int .u16 (typ : Int), .pointer pv, .slice A' recs.length recs.length, .int .u64 ((endC M.now life : Nat) : Int), .bool false] 95)) rfl (by go_simp) (hK _ _ ⟨A', W9.heap.size, rfl, hr.size, Whole.new _ _ _, ?_⟩ ((Below.refl _ _).alloc (Nat.le_refl _) _))
          exact HRA.out.below ((Below.refl _ _).alloc (Nat.le_refl _) _)
      · intro vs a9 W ha hF hR K hK
        have h120 : vs 0 = .pointer (some ⟨L.xb, 0, none⟩) := hF 0 (by decide)
        have h13 := hF 13 (by decide)
        clear hF
        simp only [putF] at h13
        obtain ⟨A', be, h133, hbl, hwe, hre⟩ := h13
        have e120 : a9.tmps[120]? = some (.pointer (some ⟨L.xb, 0, none⟩)) := by
          rw [ha]
          simp only [List.take_succ_cons, List.take_zero, putAll, Act.put, List.setIfInBounds_toArray, List.set_cons_zero, List.set_cons_succ, Nat.zero_add, Nat.reduceAdd, h120]
          rfl
        have e133 : a9.tmps[133]? = some (.pointer (some ⟨be, 0, none⟩)) := by
          rw [ha]
          simp only [List.take_succ_cons, List.take_zero, putAll, Act.put, List.setIfInBounds_toArray, List.set_cons_zero, List.set_cons_succ, Nat.zero_add, Nat.reduceAdd, h133]
          rfl
        have HA9 := Lib.hid ha
        clear ha
        have hRW : Below w10.heap.size w10 W := below_chain (Below.refl _ w10).drew hR
        have hnew := newEntG HG10.out.has hv ⟨s, b, keyL nm, typ, pin1, recs, endC M.now life, false⟩ be A' recs.length hbl hwe.lt hpin hre hRW (by
          simp only [entC, upd_same]
          rw [show ptrN { L8 with rcs := upd L8.rcs M2.etab.length (.slice A' recs.length recs.length) } pin1 = ptrN L8 pin1 from rfl, HPV8.out]
          exact hwe)
        obtain ⟨L9, hL9⟩ : ∃ L9, L9 = { L8 with eb := upd L8.eb M2.etab.length be, rcs := upd L8.rcs M2.etab.length (.slice A' recs.length recs.length), G := fun k => if k = be then some (.ent M2.etab.length) else if w10.heap.size ≤ k ∧ k < be then some .recs else L8.G k } := ⟨_, rfl⟩
        rw [← hL9] at hnew
        have hx9 : L9.xb = L.xb := hnew.xb.trans HX10.out
        have hp9 : ptrE L9 (some M2.etab.length) = .pointer (some ⟨be, 0, none⟩) := by rw [hL9]; simp [ptrE, upd_same]
        have hin9 : (M2.etab ++ [(⟨s, b, keyL nm, typ, pin1, recs, endC M.now life, false⟩ : Ent)])[M2.etab.length]? = some ⟨s, b, keyL nm, typ, pin1, recs, endC M.now life, false⟩ := by simp
        have hent9 := enter_any L9 _ W M2.etab.length _ p x hnew.has hin9 (Nat.le_trans text_len (by decide)) ht hpp hx hb hring
        rw [hx9, hp9] at hent9
        have hwbW : Whole W wbk 84 #[.pointer (some ⟨L.xb, 0, none⟩), .slice none 0 0] := hnew.kept.whole HWB10.out fun hne => hne HWN8.out
        have hwn9 : L9.G wbk = none := hnew.none_at HWN8.out HWB10.out.lt
        have HNEW := Lib.hid hnew
        have HWW := Lib.hid hwbW
        have HW9 := Lib.hid hwn9
        have HE9 := Lib.hid hent9
        clear hnew hL9 hwbW hwn9 hent9 hre hwe hR hRW hall
        refine stepC rfl 28 #[.pointer (some ⟨L.xb, 0, none⟩), .pointer (some ⟨be, 0, none⟩)] (by simp [execOp, go_sem, e120, e133]) (fun v w' => v = .tuple #[] ∧ ∃ L', Goes L9 _ W L' _ w') (HE9.out.mono fun e w' h => ⟨_, h.1, rfl, h.2⟩) ?_
        rintro v w' ⟨rfl, L', hg'⟩
        refine hK _ _ ?_
        rw [HA9.out]
        clear HA9 e120 e133 hK
        have hfin := HG10.out.trans (HNEW.out.trans hg')
        have hwf : Whole w' wbk 84 #[.pointer (some ⟨L.xb, 0, none⟩), .slice none 0 0] := hg'.kept.whole HWW.out fun hne => hne HW9.out
        have HFIN := Lib.hid hfin
        have HWF := Lib.hid hwf
        clear hfin hwf hg' HE9
        simp only [List.take_succ_cons, List.take_zero, putAll, Act.put, List.setIfInBounds_toArray, List.set_cons_zero, List.set_cons_succ, List.getElem_toArray, List.getElem_cons_zero, List.getElem_cons_succ, Nat.zero_add, Nat.reduceAdd, h120, h133]
        go_wp2_with fail
        go_meet
        exact ⟨HWF, Lib.hid ⟨L', HFIN.out⟩⟩
    case rest =>
      obtain ⟨HWF, HFIN⟩ := hcut
      have v1 : wc.cell? ⟨wbk, 1, none⟩ = some (.slice none 0 0) := HWF.out.cell 1
      go_wp2_with fail
      go_ret2
      exact ⟨rfl, HFIN.out⟩
end Go.Proofs.YtimdedkejadnfaaGreatDoor
