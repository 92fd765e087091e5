/-
  A key of the model's map of entries; the walks of a model's remove and drop. No condition but sizes.
-/
import Derived.Test.YtimdedkejadnfaaGreatDoorMoK
import Derived.DeepKeys4
import Derived.Laws.Rows
namespace Go.Proofs.YtimdedkejadnfaaGreatDoor
open Go.RowKit Go.Colm Go.Maps
set_option linter.unusedVariables false
set_option linter.unusedSimpArgs false
set_option linter.unusedSectionVars false

set_option maxRecDepth 100000
theorem laidOut : laidOutB Tryz.prog = true := by kernel_rfl
theorem row_key : (34 : TypeId) < Tryz.prog.types.size := of_decide_eq_true (by kernel_rfl)
theorem wide_key : (match Tryz.prog.underlying 34 with | some (.array _ _) | some (.struct _) => true | _ => false) = true := by kernel_rfl
theorem keyed_key : Keyed Tryz.prog 34 := Keyed.of_law (deep_law_laid laidOut (m := 2) (by omega) row_key (by kernel_rfl) wide_key)
theorem keyType_key : Tryz.prog.keyType 34 = true := by kernel_rfl
theorem cells_key : Tryz.prog.cellsOf 34 = 2 := by kernel_rfl
theorem cells_str : Tryz.prog.cellsOf 9 = 1 := by kernel_rfl
theorem cells_u16 : Tryz.prog.cellsOf 32 = 1 := by kernel_rfl
theorem keyLits_struct {P : Program} {d : Nat} {t : TypeId} {fs : Array Field} {cs : List Value} (h : P.underlying t = some (.struct fs)) : P.keyLits (d + 1) t cs = if cs.length = P.cellsOf t ∧ fs.all (·.name != "_") = true then (fs.toList.mapM fun f => P.keyLits d f.type ((cs.drop f.offset).take (P.cellsOf f.type))).map List.flatten else none := by
  simp only [Program.keyLits, h]
theorem keyLits_str {P : Program} {d : Nat} {t : TypeId} {s : ByteArray} (h : P.underlying t = some .string) (hs : s.size ≤ maxLen) : P.keyLits (d + 1) t [.string s] = some [.string s.data.toList] := by
  simp [Program.keyLits, h, hs]
theorem keyLits_int {P : Program} {d : Nat} {t : TypeId} {q : IntKind} {n : Int} (h : P.underlying t = some (.int q)) (hs : (Lit.int q n).wf = true) : P.keyLits (d + 1) t [.int q n] = some [.int q n] := by
  simp [Program.keyLits, h, hs]
theorem key_key {n : List UInt8} {t : Nat} (hn : n.length ≤ 100000) (ht : t < 65536) : ∃ z, keyOf Tryz.prog 34 (keyV n t) = some z := by
  have hz : n.toArray.size ≤ maxLen := by unfold maxLen; simp; omega
  have hw : (Lit.int .u16 (t : Int)).wf = true := by
    have e1 : IntKind.u16.min = 0 := by decide
    have e2 : IntKind.u16.max = 65535 := by decide
    rw [Lit.wf, Bool.and_eq_true, decide_eq_true_eq, decide_eq_true_eq, e1, e2]
    omega
  have e1 : (Value.agg #[strV n, .int .u16 (t : Int)]).formed Tryz.prog 34 = true := by simp [Value.formed, Tryz.underlying34, cells_key]
  have hr := row_key
  have e5 : ∀ m : Nat, Tryz.prog.keyLits (m + 2) 34 [strV n, .int .u16 (t : Int)] = some [.string n, .int .u16 (t : Int)] := fun m => by
    rw [keyLits_struct Tryz.underlying34, if_pos ⟨by rw [cells_key]; rfl, by simp⟩]
    simp only [List.mapM_cons, List.mapM_nil, cells_str, cells_u16, List.drop_zero, List.take_succ_cons, List.take_zero, List.drop_succ_cons]
    rw [show strV n = .string ⟨n.toArray⟩ from rfl, keyLits_str Tryz.underlying9 hz, keyLits_int Tryz.underlying32 hw]
    simp
  obtain ⟨m, hm⟩ : ∃ m, Tryz.prog.types.size + 1 = m + 2 := by
    refine ⟨Tryz.prog.types.size - 1, ?_⟩
    have h0 : 0 < Tryz.prog.types.size := Nat.lt_of_le_of_lt (Nat.zero_le _) hr
    omega
  refine ⟨.string (keyBytes [.string n, .int .u16 (t : Int)]), ?_⟩
  unfold keyOf
  rw [Tryz.underlying34]
  simp only [keyType_key]
  rw [show keyV n t = Value.agg #[strV n, .int .u16 (t : Int)] from rfl, e1]
  rw [show (Value.agg #[strV n, .int .u16 (t : Int)]).cells.toList = [strV n, .int .u16 (t : Int)] from rfl, hm, e5 m]
  rfl
theorem keyV_inj : ∀ a b : List UInt8 × Nat, keyV a.1 a.2 = keyV b.1 b.2 → a = b := fun a b h => by
  obtain ⟨a1, a2⟩ := a
  obtain ⟨b1, b2⟩ := b
  simp only [keyV, strV, Value.agg.injEq] at h
  simp at h
  obtain ⟨h1, h2⟩ := h
  rw [h1, Int.ofNat.inj h2]

def remB (M : Mod) (i : Nat) : Option Nat := if M.broom = some i then nextM M i else M.broom
/-- An entry goes: what there is then. -/
structure RemR (n : Nat) (M : Mod) (i : Nat) (d : Ent) (M' : Mod) : Prop where
  ent : M.etab[i]? = some d
  ring : ∀ j ∈ M.ring, j < M.etab.length
  len : M.ring.length < 1099511627776
  mem : i ∈ M.ring
  broom : ∃ b0, M.broom = some b0 ∧ b0 < M.etab.length
  name : d.name.length ≤ 100000
  typ : d.typ < 65536
  block : d.block < 4611686018427387904
  slab : ∃ p x, M.parts[d.slab]? = some p ∧ getA d.block p.live = some x ∧ p.free.length + p.live.length < 1099511627776 ∧
    LetR n { M with broom := remB M i, ring := M.ring.take (M.ring.idxOf i) ++ M.ring.drop (M.ring.idxOf i + 1), ents := delA (d.name, d.typ) M.ents, parts := M.parts.set d.slab (giveP d.block p) } d.node M'

/-- The broom turns. -/
theorem setBroom {L : Lay} {M : Mod} {w : World} (h : Has L M w) (o : Option Nat) : Goes L M w L { M with broom := o } (w.setCell ⟨L.xb, 4, none⟩ (ptrE L o)) := by
  have hk : Kept (fun k => k = L.xb) w (w.setCell ⟨L.xb, 4, none⟩ (ptrE L o)) := (Kept.refl (fun k => k = L.xb) w).setCell (p := ⟨L.xb, 4, none⟩) (.inl rfl) _
  have hx := h.xw.put 4 (ptrE L o)
  refine ⟨h.setX L.rv L.G M.ring o M.now M.evicted M.expired M.moved M.lent hk ?_ (fun _ _ h => h) (fun k hk' => Nat.lt_of_lt_of_le (h.dom k hk') hk.size) h.roles.ring hx (own_stays h.ring hk fun k e hkk => ?_), rfl, kept_own h.roles hk ?_, fun k hk' => .inl hk', fun _ _ => rfl, fun _ _ => rfl, Nat.le_refl _, Nat.le_refl _⟩
  · rintro k r rfl hr
    rw [h.roles.x] at hr
    exact .inl (Option.some.inj hr).symm
  · have h1 := h.roles.ring k e
    rw [hkk, h.roles.x] at h1
    cases h1
  · rintro k _ rfl
    rw [h.roles.x]
    simp

theorem LetR.etab {n : Nat} {M : Mod} {o : Option Nat} {M' : Mod} (h : LetR n M o M') : M'.etab = M.etab := by
  induction h with
  | nil => rfl
  | stay => rfl
  | go _ _ _ _ _ _ _ _ _ _ _ _ _ _ _ ih => rw [ih]
/-- The ring turns: its row has turned, and then its slice. -/
theorem setRing {L : Lay} {M : Mod} {w w1 : World} (h : Has L M w) (rv' : Value) (ring' : List Nat) (hk1 : Kept (fun k => L.rv.ownBlock = some k) w w1) (hblk : ∀ k, rv'.ownBlock = some k → L.rv.ownBlock = some k)
    (hrow : w1.ownsRow 0 63 1 rv' ring'.length (ring'.map fun i => ptrE L (some i))) : Goes L M w { L with rv := rv' } { M with ring := ring' } (w1.setCell ⟨L.xb, 3, none⟩ rv') := by
  have hnx : ∀ k, L.rv.ownBlock = some k → k ≠ L.xb := fun k e hkk => by
    have h1 := h.roles.ring k e
    rw [hkk, h.roles.x] at h1
    cases h1
  have hx1 : Whole w1 L.xb 65 (modC L M) := hk1.whole h.xw fun e => hnx _ e rfl
  have hk2 : Kept (fun k => k = L.xb) w1 (w1.setCell ⟨L.xb, 3, none⟩ rv') := (Kept.refl (fun k => k = L.xb) w1).setCell (p := ⟨L.xb, 3, none⟩) (.inl rfl) _
  have hk : Kept (fun k => k = L.xb ∨ L.rv.ownBlock = some k) w (w1.setCell ⟨L.xb, 3, none⟩ rv') := (hk1.mono fun k _ h => .inr h).trans (hk2.mono fun k _ h => .inl h)
  have hS : ∀ k r, (k = L.xb ∨ L.rv.ownBlock = some k) → L.G k = some r → r = .x ∨ r = .ring := by
    rintro k r (rfl | e) hr
    · rw [h.roles.x] at hr
      exact .inl (Option.some.inj hr).symm
    · rw [h.roles.ring k e] at hr
      exact .inr (Option.some.inj hr).symm
  have hx := hx1.put 3 rv'
  refine ⟨h.setX rv' L.G ring' M.broom M.now M.evicted M.expired M.moved M.lent hk hS (fun _ _ h => h) (fun k hk' => Nat.lt_of_lt_of_le (h.dom k hk') hk.size) (fun k e => h.roles.ring k (hblk k e)) hx (own_stays hrow hk2 fun k e hkk => hnx k (hblk k e) hkk), rfl, kept_own h.roles hk ?_, fun k hk' => .inl hk', fun _ _ => rfl, fun _ _ => rfl, Nat.le_refl _, Nat.le_refl _⟩
  rintro k _ (rfl | e)
  · rw [h.roles.x]
    simp
  · rw [h.roles.ring k e]
    simp

set_option maxRecDepth 100000 in
set_option maxHeartbeats 6400000 in
theorem remove_any (L : Lay) (M : Mod) (w : World) (n i : Nat) (d : Ent) (M' : Mod) (h : Has L M w) (hr : RemR n M i d M') :
    Calls Tryz.prog 64 #[.pointer (some ⟨L.xb, 0, none⟩), ptrE L (some i)] w fun e w' => e = .returned (keyV d.name d.typ) ∧ ∃ L', Goes L M w L' M' w' := by
  obtain ⟨hi, hring, hlen, hmem, ⟨b0, hb0, hb0l⟩, hname, htyp, hblock, p, x, hp, hx, hpl, hlet⟩ := hr
  have hlt : M.ring.idxOf i < M.ring.length := List.idxOf_lt_length_of_mem hmem
  have hix : ixOf i M.ring = ((M.ring.idxOf i : Nat) : Int) := by rw [ixOf, if_pos hmem]
  -- the world behind the result's variable
  obtain ⟨w0, hw0⟩ : ∃ w0, w0 = w.alloc (.cells #[.string ⟨#[]⟩, .int .u16 0] 34) := ⟨_, rfl⟩
  have hb : Below w.heap.size w w0 := by rw [hw0]; exact (Below.refl _ w).alloc (Nat.le_refl _) _
  have hr0 : Whole w0 w.heap.size 34 #[.string ⟨#[]⟩, .int .u16 0] := by rw [hw0]; exact Whole.new w _ _
  have h0 := h.below hb
  have x4 : w0.cell? ⟨L.xb, 4, none⟩ = some (.pointer (some ⟨L.eb b0, 0, none⟩)) := by
    have := h0.xcell 4
    simp only [modC, hb0, ptrE, Option.map_some] at this
    exact this
  have heq := eqE h0 (i := b0) (j := i) (d := M.etab[b0]) (by simp [hb0l]) hi
  -- the broom
  have hgo : ∃ P : Prop, P := ⟨True, trivial⟩
  have H0 := Lib.hid h0
  have HB := Lib.hid hb
  have HR0 := Lib.hid hr0
  have H := Lib.hid h
  clear h0 hb hr0 h hgo
  simp only [ptrE, Option.map_some]
  go_enter Tryz.func64, Tryz.ntmps64
  go_upto_region 1 with fail
  rw [← hw0]
  clear hw0
  go_upto_if 11 with fail
  go_cut [] from 11 to 17 (fun wx => Goes L M w0 L { M with broom := remB M i } wx)
  case first =>
    by_cases he : b0 = i
    · rw [decide_eq_true he]
      clear heq
      have hrb : remB M i = nextM M i := by rw [remB, hb0, he, if_pos rfl]
      have hnx := next_any L M w0 i d H0.out hi hring hlen
      have hsb := fun m => setBroom (H0.out.drewN m) (nextM M i)
      obtain ⟨pv, hpv⟩ : ∃ pv : Option Addr, ptrE L (nextM M i) = .pointer pv := ⟨_, rfl⟩
      rw [hpv] at hnx hsb
      have HNX := Lib.hid hnx
      have HSB := Lib.hid hsb
      have HRB := Lib.hid hrb
      clear hnx hpv hsb hrb he
      simp only [ptrE, Option.map_some] at HNX
      go_wp2_with fail
      refine HNX.out.mono ?_
      rintro e w1 ⟨rfl, m, rfl⟩
      have y4 : (w0.drewN m).cell? ⟨L.xb, 4, none⟩ = some (.pointer (some ⟨L.eb b0, 0, none⟩)) := x4
      have z4 := (H0.out.drewN m).xw.frozen 4
      go_wp2_with fail
      go_meet
      rw [HRB.out]
      exact ((Goes.refl H0.out).below (below_of_drewN w0 m)).trans (HSB.out m)
    · rw [decide_eq_false he]
      clear heq
      have hrb : remB M i = M.broom := by
        rw [remB, hb0, if_neg]
        intro e
        exact he (Option.some.inj e)
      have HRB := Lib.hid hrb
      clear hrb he
      go_wp2_with fail
      go_meet
      rw [HRB.out]
      exact Goes.refl H0.out
  case rest =>
    obtain ⟨k, hk0⟩ : ∃ k, k = M.ring.idxOf i := ⟨_, rfl⟩
    rw [← hk0] at hlt hix hlet
    have h1 := hcut.has
    have hat := at_any L _ wc i d h1 hi hring hlen
    rw [hix] at hat
    obtain ⟨g, cap, erv⟩ : ∃ g cap, L.rv = .slice (some ⟨g, 0, none⟩) M.ring.length cap := by
      rcases h1.ring.2 with ⟨_, h2⟩ | ⟨g, cap, cur, e, _⟩
      · simp only at h2
        omega
      · exact ⟨g, cap, e⟩
    have x3 : wc.cell? ⟨L.xb, 3, none⟩ = some (.slice (some ⟨g, 0, none⟩) M.ring.length cap) := by
      have := h1.xcell 3
      simp only [modC, erv] at this
      exact this
    have hrow := h1.ring
    rw [erv] at hrow
    have hdel := delE_any L.eb 0 g cap (M.ring.map some) k (k + 1) wc (by
      rw [List.length_map, List.map_map]
      exact hrow) (by omega) (by rw [List.length_map]; omega)
    have ering : ((M.ring.map some).take k ++ (M.ring.map some).drop (k + 1)).map (fun o : Option Nat => Value.pointer (o.map fun i => ⟨L.eb i, 0, none⟩)) = (M.ring.take k ++ M.ring.drop (k + 1)).map fun i => ptrE L (some i) := by
      simp [ptrE, List.map_append, List.map_take, List.map_drop, Function.comp_def]
    rw [ering, List.length_map, show k + 1 - k = 1 by omega, show (((k + 1 : Nat) : Nat) : Int) = (k : Int) + 1 by omega] at hdel
    have hll : (M.ring.take k ++ M.ring.drop (k + 1)).length = M.ring.length - 1 := by simp; omega
    have hgx : g ≠ L.xb := fun e => by
      have e1 := h1.roles.ring g (by rw [show (L.rv) = _ from erv]; rfl)
      rw [e, h1.roles.x] at e1
      cases e1
    have HAT := Lib.hid hat
    have HDEL := Lib.hid hdel
    have HC := Lib.hid hcut
    have HLL := Lib.hid hll
    have HLET := Lib.hid hlet
    have HERV := Lib.hid erv
    clear hat hdel hcut h1 hll hlet erv ering hrow heq x4 hix hk0
    simp only [ptrE, Option.map_some] at HAT
    go_wp2_with fail
    refine HAT.out.mono ?_
    rintro e w1 ⟨rfl, rfl⟩
    go_wp2_with fail
    refine HDEL.out.mono ?_
    rintro e w2 ⟨rfl, hown2, hk2⟩
    have y3 : w2.cell? ⟨L.xb, 3, none⟩ = some (.slice (some ⟨g, 0, none⟩) M.ring.length cap) := hk2.cell x3 fun e => hgx e.symm
    have fy3 := (hk2.whole HC.out.has.xw fun e => hgx e.symm).frozen 3
    have hsr := setRing HC.out.has (.slice (some ⟨g, 0, none⟩) (M.ring.length - 1) cap) (M.ring.take k ++ M.ring.drop (k + 1)) (hk2.mono fun j _ e => by rw [HERV.out, e]; rfl) (fun j e => by
      have : g = j := by simpa [Value.ownBlock] using e
      rw [HERV.out, this]
      rfl) (by rw [HLL.out]; exact hown2)
    obtain ⟨w3, hw3⟩ : ∃ w3, w3 = w2.setCell ⟨L.xb, 3, none⟩ (.slice (some ⟨g, 0, none⟩) (M.ring.length - 1) cap) := ⟨_, rfl⟩
    rw [← hw3] at hsr
    have hg3 := HC.out.trans hsr
    obtain ⟨z, hz⟩ := key_key (n := d.name) (t := d.typ) hname htyp
    have hom : OwnL w3.drew Tryz.prog 34 L.em (entsV L M.ents) := hg3.has.comp .em
    obtain ⟨w4, l4, hrun4, hdel4, hl4, hk4⟩ := hom.del keyed_key Tryz.underlying61 hz 0
    have hl4e := ldel_map (ek := fun p : List UInt8 × Nat => keyV p.1 p.2) (ev := fun j => ptrE L (some j)) keyV_inj (k := (d.name, d.typ)) hom.apart hdel4
    have hk4' : Kept (fun k => k = L.em) w3 w4 := (Kept.refl (fun k => k = L.em) w3).drew.trans hk4
    have hg4 := hg3.trans (L'' := { L with rv := .slice (some ⟨g, 0, none⟩) (M.ring.length - 1) cap }) (M'' := { M with broom := remB M i, ring := M.ring.take k ++ M.ring.drop (k + 1), ents := delA (d.name, d.typ) M.ents }) (w'' := w4) (by
      refine ⟨hg3.has.setEnts _ hk4' (by rw [hl4e] at hl4; exact hl4), rfl, kept_own hg3.has.roles hk4' ?_, fun k hk' => .inl hk', fun _ _ => rfl, fun _ _ => rfl, Nat.le_refl _, Nat.le_refl _⟩
      rintro k _ rfl
      rw [hg3.has.roles.em]
      simp)
    have x2 : w3.cell? ⟨L.xb, 2, none⟩ = some (.map (some L.em)) := hg3.has.xcell 2
    have en3 := hg3.has.ent (i := i) (d := d) hi
    have k2 : w3.cell? ⟨L.eb i, 2, none⟩ = some (strV d.name) := en3.cell 2
    have k3 : w3.cell? ⟨L.eb i, 3, none⟩ = some (.int .u16 (d.typ : Int)) := en3.cell 3
    have hgive := give_any _ _ w4 d.slab d.block x p hg4.has hp hx hblock hpl
    have en4 := hg4.has.ent (i := i) (d := d) hi
    have k0 : w4.cell? ⟨L.eb i, 0, none⟩ = some (.int .i64 (d.slab : Int)) := en4.cell 0
    have k1 : w4.cell? ⟨L.eb i, 1, none⟩ = some (.int .i64 (d.block : Int)) := en4.cell 1
    have HG4 := Lib.hid hg4
    have HGV := Lib.hid hgive
    clear hg3 hg4 hgive hsr hk4 hk4' hl4 hl4e hdel4 hom hown2 hk2 en3 en4 HAT HDEL HLL HERV
    unfold keyV strV at hrun4
    unfold strV at k2
    go_upto_region 5 with fail
    rw [← hw3]
    clear hw3 y3 fy3
    go_cut [] from 32 to 39 (fun wx => wx = w4)
    case first =>
      go_region_law (refine step_delete (w' := w4) rfl _ _ _ _ rfl _ _ rfl rfl hrun4 ?_)
      all_goals (go_wp2_with fail; go_meet; rfl)
    case rest =>
      obtain rfl := hcut
      clear hrun4
      go_wp2_with fail
      refine HGV.out.mono ?_
      rintro e w5 ⟨rfl, L5, hg5⟩
      have hgg := HG4.out.trans hg5
      have hlc := let_any L5 _ w5 n d.node M' hg5.has HLET.out
      have en5 := hg5.has.ent (i := i) (d := d) hi
      have eeb : L5.eb i = L.eb i := hg5.eb i (List.getElem?_eq_some_iff.1 hi).1
      rw [eeb] at en5
      have k4 : w5.cell? ⟨L.eb i, 4, none⟩ = some (ptrN L5 d.node) := en5.cell 4
      have exb : L5.xb = L.xb := hg5.xb
      rw [exb] at hlc
      obtain ⟨pv, hpv⟩ : ∃ pv : Option Addr, ptrN L5 d.node = .pointer pv := ⟨_, rfl⟩
      rw [hpv] at k4 hlc
      have HLC := Lib.hid hlc
      have HGG := Lib.hid hgg
      have HEB := Lib.hid eeb
      clear hlc hgg en5 hg5 hpv eeb
      go_wp2_with fail
      refine HLC.out.mono ?_
      rintro e w6 ⟨rfl, L6, hg6⟩
      have hga := HGG.out.trans hg6
      have hnone : L.G w.heap.size = none := by
        rcases hh : L.G w.heap.size with _ | r
        · rfl
        · exact absurd (H.out.dom _ (by rw [hh]; simp)) (Nat.lt_irrefl _)
      have hn6 : L6.G w.heap.size = none := by
        rcases hh : L6.G w.heap.size with _ | r
        · rfl
        · rcases hga.grow _ (by rw [hh]; simp) with h1 | h1
          · exact absurd hnone h1
          · have := HR0.out.lt
            omega
      have hr6 : Whole w6 w.heap.size 34 #[.string ⟨#[]⟩, .int .u16 0] := hga.kept.whole HR0.out fun hne => hne hnone
      have he6 : M'.etab[i]? = some d := by
        rw [HLET.out.etab]
        exact hi
      have en6 := hga.has.ent he6
      have eb6 : L6.eb i = L.eb i := hga.eb i (List.getElem?_eq_some_iff.1 hi).1
      rw [eb6] at en6
      have q2 : w6.cell? ⟨L.eb i, 2, none⟩ = some (.string ⟨d.name.toArray⟩) := en6.cell 2
      have q3 : w6.cell? ⟨L.eb i, 3, none⟩ = some (.int .u16 (d.typ : Int)) := en6.cell 3
      have r0 := hr6.cell 0
      have r1 := hr6.cell 1
      have s0 := hr6.frozen 0
      have s1 := hr6.frozen 1
      simp only [List.getElem?_toArray, List.getElem?_cons_zero, List.getElem?_cons_succ] at r0 r1
      have HGA := Lib.hid hga
      have HR6 := Lib.hid hr6
      have HN6 := Lib.hid hn6
      clear hga hr6 hn6 en6 hg6
      go_wp2_with fail
      refine bodyPost_ret (results_cell_row rfl _ _ w.heap.size 34 _ (0, 0) _ rfl (place2 HR6.out _ _) Tryz.underlying34 rfl (by kernel_rfl)) rfl ?_
      refine ⟨rfl, L6, (HGA.out.after HB.out).side (keptP _ _ _ _) ?_⟩
      rintro j rfl
      exact ⟨Nat.le_refl _, HN6.out⟩
end Go.Proofs.YtimdedkejadnfaaGreatDoor
