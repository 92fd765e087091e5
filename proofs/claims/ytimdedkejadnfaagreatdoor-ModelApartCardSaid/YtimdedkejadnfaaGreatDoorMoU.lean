/-
  The walk of a model's grow: the nodes that aren't there are made. No condition but sizes.
-/
import Derived.Test.YtimdedkejadnfaaGreatDoorMoT
namespace Go.Proofs.YtimdedkejadnfaaGreatDoor
open Go.RowKit Go.Foldp Go.Colm Go.Wirep Go.Maps
set_option linter.unusedVariables false
set_option linter.unusedSimpArgs false
set_option linter.unusedSectionVars false

/-- A node is made: it has a block, a name, and is held by one. -/
def nodM (M : Mod) (s b : Nat) (nm : List UInt8) (pin : Option Nat) (p : Part) : Mod :=
  { M with ntab := M.ntab ++ [⟨s, b, nm, pin, 1⟩], nodes := putA nm M.ntab.length M.nodes, parts := M.parts.set s (holdP b (.nod M.ntab.length) p) }
/-- The first labels' nodes are made, the last of them first. -/
inductive GrowR (ls : List (List UInt8)) : Nat → Mod → Option Nat → Mod → Option Nat → Prop where
  | nil (M : Mod) (pin : Option Nat) : GrowR ls 0 M pin M pin
  | cons (k : Nat) (M : Mod) (pin : Option Nat) (c s b : Nat) (M1 : Mod) (p : Part) (x : Hld) (M' : Mod) (pin' : Option Nat) (hk : k < ls.length) (hc : nodeC ls[k].length = (c, 0)) (hbl : 1 ≤ blocksC c) (hsz : M.parts.length < 1099511627776)
      (hfr : ∀ p ∈ M.parts, p.free.length < 1099511627776 ∧ ∀ b ∈ p.free, b < 4611686018427387904) (htk : takeM M c = (some (s, b), M1)) (hv : Valid M1) (hpin : ∀ i, pin = some i → i < M1.ntab.length) (hp : M1.parts[s]? = some p) (hx : getA b p.live = some x)
      (hb : b < 4611686018427387904) (hrest : GrowR ls k (nodM M1 s b (textL (ls.drop k)).1 pin p) (some M1.ntab.length) M' pin') : GrowR ls (k + 1) M pin M' pin'

theorem takeM_ntab (M : Mod) (c : Nat) : (takeM M c).2.ntab = M.ntab := by
  unfold takeM
  split
  · split <;> rfl
  · split <;> rfl
theorem takeM_etab (M : Mod) (c : Nat) : (takeM M c).2.etab = M.etab := by
  unfold takeM
  split
  · split <;> rfl
  · split <;> rfl
theorem below_al {w W : World} (h : Below w.heap.size w W) (o : Obj) : Below w.heap.size w (W.alloc o) := h.alloc h.size o
theorem newNodeG {L : Lay} {M : Mod} {w : World} (h : Has L M w) (hv : Valid M) (d : Nod) (hp : ∀ i, d.parent = some i → i < M.ntab.length) :
    Goes L M w { L with nb := upd L.nb M.ntab.length w.heap.size, G := upd L.G w.heap.size (some (.node M.ntab.length)) } { M with ntab := M.ntab ++ [d] } (w.alloc (.cells (nodC L d) 78)) := by
  have hb : Below w.heap.size w (w.alloc (.cells (nodC L d) 78)) := (Below.refl _ w).alloc (Nat.le_refl _) _
  refine ⟨h.newNode hv d w.heap.size (Nat.le_refl _) (by simp) hp hb (Whole.new w _ _), rfl, Kept.below hb _, fun k hk => ?_, fun i hi => upd_other _ _ (by omega), fun _ _ => rfl, by simp, Nat.le_refl _⟩
  by_cases e : k = w.heap.size
  · exact .inr (by omega)
  · simp only [upd_other _ _ e] at hk
    exact .inl hk

set_option maxRecDepth 100000 in
set_option maxHeartbeats 6400000 in
theorem grow_any (L : Lay) (M : Mod) (w : World) (wb : Nat) (gone : Value) (ls : List (List UInt8)) (A : Option Addr) (c lack : Nat) (pin : Option Nat) (M' : Mod) (pin' : Option Nat) (h : Has L M w)
    (hW : Whole w wb 84 #[.pointer (some ⟨L.xb, 0, none⟩), gone]) (hgw : L.G wb = none) (hr : RowV w A (labV ls)) (hA : ∀ a, A = some a → L.G a.block = none) (hcap : ls.length ≤ c) (hck : checkL ls = 0) (hgr : GrowR ls lack M pin M' pin') (hlack : lack ≤ ls.length) :
    Calls Tryz.prog 24 #[.pointer (some ⟨wb, 0, none⟩), ptrN L pin, .slice A ls.length c, .int .i64 (lack : Int)] w fun e w' => ∃ L', e = .returned (.tuple #[ptrN L' pin', .int .i64 0]) ∧ Goes L M w L' M' w' := by
  have hwl := checkL_wire hck
  have hlen := wireL_len ls
  have H0 : Hid (Goes L M w L M w) := Lib.hid (Goes.refl h)
  have HGR := Lib.hid hgr
  have HW := Lib.hid hW
  have HR := Lib.hid hr
  have HA := Lib.hid hA
  have HGW := Lib.hid hgw
  have H := Lib.hid h
  clear h hgr hW hr hA hgw
  obtain ⟨pv, hpv⟩ : ∃ pv : Option Addr, ptrN L pin = .pointer pv := ⟨_, rfl⟩
  rw [hpv]
  have HPV := Lib.hid hpv
  clear hpv
  go_enter Tryz.func24, Tryz.ntmps24
  go_wp2_with fail
  go_loopg [1, 10, 11, 12, 13, 14] lack (fun gg s1 s10 _ _ _ _ wr => ∃ (L1 : Lay) (M1 : Mod) (pin1 : Option Nat) (kk : Nat) (pv1 : Option Addr), s1 = .pointer pv1 ∧ s10 = .int .i64 ((kk : Int) - 1) ∧ kk ≤ gg ∧ kk ≤ ls.length ∧ Hid (ptrN L1 pin1 = .pointer pv1) ∧ Hid (GrowR ls kk M1 pin1 M' pin') ∧ Hid (Goes L M w L1 M1 wr))
  case atStart => exact ⟨L, M, pin, lack, pv, rfl, rfl, Nat.le_refl _, hlack, HPV, HGR, H0⟩
  case round =>
    obtain ⟨L1, M1, pin1, kk, pv1, rfl, rfl, hgg, hkl, HP1, HGR1, HG1⟩ := hrel
    have hgr1 := HGR1.out
    clear HGR1
    cases hgr1 with
    | nil =>
      go_wp2_with fail
      go_ret2
      exact ⟨L1, by rw [HP1.out]; rfl, HG1.out⟩
    | cons k _ _ cc s b M2 p x _ _ hk hc hbl hsz hfr htk hv hpin hp hx hb hrest =>
      have e1 : (((k + 1 : Nat) : Int) - 1) = (k : Int) := by omega
      rw [e1]
      have hrow1 : RowV wr A (labV ls) := row_kept HR.out HG1.out.kept fun a ha hne => hne (HA.out a ha)
      obtain ⟨ab, ao, rfl, hcell⟩ := hrow1 k (.string ⟨ls[k].toArray⟩) (by simp [labV, hk])
      have hW1 : Whole wr wb 84 #[.pointer (some ⟨L.xb, 0, none⟩), gone] := HG1.out.kept.whole HW.out fun hne => hne HGW.out
      have hxb : L1.xb = L.xb := HG1.out.xb
      have hsz1 : Sz wr := (HG1.out.has.comp .glob).1
      have hlk : ls[k].length < 1099511627776 := by
        have := wireL_mem (List.getElem_mem hk)
        omega
      have hnode := node_any ls[k].length wr hsz1 hlk
      rw [hc] at hnode
      obtain ⟨lk, hlkk⟩ : ∃ lk, lk = ls[k].length := ⟨_, rfl⟩
      have hhave := have_any L1 M1 wr wb gone cc s b M2 HG1.out.has (by rw [hxb]; exact hW1) hbl hsz hfr htk
      have hls : (ByteArray.mk ls[k].toArray).size = ls[k].length := by simp [ByteArray.size]
      have hnt : M2.ntab = M1.ntab := by
        have := congrArg (fun x => x.2.ntab) htk
        rw [show (takeM M1 cc).2.ntab = M1.ntab from takeM_ntab M1 cc] at this
        exact this.symm
      have HHV := Lib.hid hhave
      have HND := Lib.hid hnode
      have HRS := Lib.hid hrest
      clear hhave hnode hrest hW1 hsz1 htk hc
      go_wp2_with fail
      refine HND.out.mono ?_
      rintro e w1 ⟨rfl, rfl⟩
      go_wp2_with fail
      refine HHV.out.mono ?_
      rintro e w2 ⟨rfl, L2, hg2⟩
      have HG2 := Lib.hid (HG1.out.trans hg2)
      have hnb2 : ∀ i, i < M1.ntab.length → L2.nb i = L1.nb i := hg2.nb
      clear hg2
      go_upto_region 10 with fail
      obtain ⟨w3, hw3⟩ : ∃ w3, w3 = w2.alloc (.cells #[.int .i64 (s : Int), .int .i64 (b : Int)] 76) := ⟨_, rfl⟩
      rw [← hw3]
      have hb3 : Below w2.heap.size w2 w3 := by rw [hw3]; exact (Below.refl _ _).alloc (Nat.le_refl _) _
      have hp3 : Whole w3 w2.heap.size 76 #[.int .i64 (s : Int), .int .i64 (b : Int)] := by rw [hw3]; exact Whole.new _ _ _
      have hg3 := HG2.out.below hb3
      have hrow3 : RowV w3 (some ⟨ab, ao, none⟩) (labV ls) := row_kept HR.out hg3.kept fun a ha hne => hne (HA.out a ha)
      have q0 : w3.cell? ⟨w2.heap.size, 0, none⟩ = some (.int .i64 (s : Int)) := hp3.cell 0
      have q1 : w3.cell? ⟨w2.heap.size, 1, none⟩ = some (.int .i64 (b : Int)) := hp3.cell 1
      have cut1 := fun W => run_cut_from (P := Tryz.prog) (s := 1) Tryz.underlying67 Tryz.sizeOf9 (some ⟨ab, ao, none⟩) ls.length c .i64 (k : Int) (by omega) (by omega) W
      simp only [Int.toNat_natCast] at cut1
      have hcutr := hrow3.cut (c := c) (k := k) (s := 1) (by simp [labV]; omega)
      rw [Nat.mul_one, show (labV ls).drop k = labV (ls.drop k) by simp [labV, List.map_drop]] at hcutr
      have hwd := wireL_drop ls k
      have htx := fun W (hW : Below w3.heap.size w3 W) => textM_any (ls.drop k) (cutA (some ⟨ab, ao, none⟩) c k 1) (c - k) W (hcutr.below hW) (by rw [List.length_drop]; omega) (by omega)
      rw [List.length_drop] at htx
      obtain ⟨nm, hnm⟩ : ∃ nm, nm = (textL (ls.drop k)).1 := ⟨_, rfl⟩
      rw [← hnm] at htx
      have hall : ∀ W, Below w3.heap.size w3 W → Below w3.heap.size w3 W ∧ W.cell? ⟨w2.heap.size, 0, none⟩ = some (.int .i64 (s : Int)) ∧ W.cell? ⟨w2.heap.size, 1, none⟩ = some (.int .i64 (b : Int)) := fun W hW => ⟨hW, (hW.cell (lt_of_cell q0)).trans q0, (hW.cell (lt_of_cell q1)).trans q1⟩
      have hs0 := hall _ (Below.refl _ w3).drew
      have HTX := Lib.hid htx
      have HNM := Lib.hid hnm
      have HG3 := Lib.hid hg3
      have HP3 := Lib.hid hp3
      clear htx hnm hg3 hp3 hb3 hrow3 hcutr hwd hw3 hcell
      unfold strV at HTX
      go_region_held3 (fun W => Below w3.heap.size w3 W ∧ W.cell? ⟨w2.heap.size, 0, none⟩ = some (.int .i64 (s : Int)) ∧ W.cell? ⟨w2.heap.size, 1, none⟩ = some (.int .i64 (b : Int)))
        (first | exact hs0 | exact hall _ (by assumption) | exact hall _ (below_chain (And.left (by assumption)) (by assumption)) | exact hall _ (below_chain (by assumption) (by assumption)) | exact hall _ (below_chain (Below.refl _ _).drew (by assumption)) | exact hall _ (below_al (And.left (by assumption)) _))
        (first | ((go_at_call 22; with_reducible refine (HTX.out _ (And.left (by assumption))).mono ?_); rintro e w4 ⟨rfl, hb4⟩) | ((go_at_call 22; with_reducible refine (HTX.out _ (Below.refl _ _).drew).mono ?_); rintro e w4 ⟨rfl, hb4⟩))
      have hb4 : Below w3.heap.size w3 w4 := below_chain (Below.refl _ w3).drew hb4
      have hg4 := HG3.out.below hb4
      have hpin' : ptrN L2 pin1 = .pointer pv1 := by
        rw [← HP1.out]
        cases pin1 with
        | none => rfl
        | some j => simp only [ptrN, Option.map_some]; rw [hnb2 j (by rw [← hnt]; exact hpin j rfl)]
      obtain ⟨w5, hw5⟩ : ∃ w5, w5 = w4.alloc (.cells #[.int .i64 (s : Int), .int .i64 (b : Int), .string ⟨nm.toArray⟩, .pointer pv1, .int .i64 1] 78) := ⟨_, rfl⟩
      have hng := newNodeG hg4.has hv ⟨s, b, nm, pin1, 1⟩ hpin
      have hnc : nodC L2 ⟨s, b, nm, pin1, 1⟩ = #[.int .i64 (s : Int), .int .i64 (b : Int), .string ⟨nm.toArray⟩, .pointer pv1, .int .i64 1] := by
        simp only [nodC, hpin', strV]
        rfl
      rw [hnc, ← hw5] at hng
      have hg5 := hg4.trans hng
      rw [← hw5]
      have hsz5 : w5.heap.size = w4.heap.size + 1 := by rw [hw5]; simp
      obtain ⟨L5, hL5⟩ : ∃ L5, L5 = { L2 with nb := upd L2.nb M2.ntab.length w4.heap.size, G := upd L2.G w4.heap.size (some (.node M2.ntab.length)) } := ⟨_, rfl⟩
      rw [← hL5] at hg5
      have hnb5 : L5.nb M2.ntab.length = w4.heap.size := by rw [hL5]; simp only [upd_same]
      have hx5 : L5.xb = L.xb := hg5.xb
      have hin5 : (M2.ntab ++ [(⟨s, b, nm, pin1, 1⟩ : Nod)])[M2.ntab.length]? = some ⟨s, b, nm, pin1, 1⟩ := by simp
      have hnw5 := hg5.has.node hin5
      rw [hnb5] at hnw5
      have hnl : nm.length ≤ 100000 := by rw [HNM.out]; exact Nat.le_trans text_len (by omega)
      have hom : OwnL w5.drew Tryz.prog 9 L5.nm (nodesV L5 M2.nodes) := hg5.has.comp .nm
      obtain ⟨w6, l6, hrun6, hput6, hl6, hk6⟩ := hom.put (val := .pointer (some ⟨w4.heap.size, 0, none⟩)) (string_keyed Tryz.underlying9) Tryz.underlying60 (str_key hnl)
      have hl6e := lput_map (ek := strV) (ev := fun j => ptrN L5 (some j)) strV_inj (k := nm) (v := M2.ntab.length) hom.apart (by simp only [ptrN, Option.map_some, hnb5]; exact hput6)
      have hk6' : Kept (fun k => k = L5.nm) w5 w6 := (Kept.refl (fun k => k = L5.nm) w5).drew.trans hk6
      have hg6 := hg5.trans (L'' := L5) (M'' := { M2 with ntab := M2.ntab ++ [(⟨s, b, nm, pin1, 1⟩ : Nod)], nodes := putA nm M2.ntab.length M2.nodes }) (w'' := w6) (by
        refine ⟨hg5.has.setNodes _ hk6' (by rw [hl6e] at hl6; exact hl6), rfl, kept_own hg5.has.roles hk6' ?_, fun k hk' => .inl hk', fun _ _ => rfl, fun _ _ => rfl, Nat.le_refl _, Nat.le_refl _⟩
        rintro k _ rfl
        rw [hg5.has.roles.nm]
        simp)
      have hW5 : Whole w5 wb 84 #[.pointer (some ⟨L.xb, 0, none⟩), gone] := hg5.kept.whole HW.out fun hne => hne HGW.out
      have hW6 : Whole w6 wb 84 #[.pointer (some ⟨L.xb, 0, none⟩), gone] := hg6.kept.whole HW.out fun hne => hne HGW.out
      have u0 : w5.cell? ⟨wb, 0, none⟩ = some (.pointer (some ⟨L.xb, 0, none⟩)) := hW5.cell 0
      have u1 : w5.cell? ⟨L.xb, 1, none⟩ = some (.map (some L5.nm)) := by rw [← hx5]; exact hg5.has.xcell 1
      have u2 : w5.cell? ⟨w4.heap.size, 2, none⟩ = some (.string ⟨nm.toArray⟩) := hnw5.cell 2
      have u3 : w6.cell? ⟨wb, 0, none⟩ = some (.pointer (some ⟨L.xb, 0, none⟩)) := hW6.cell 0
      have hpbn : L2.G w2.heap.size = none := HG2.out.has.none_new (Nat.le_refl _)
      have hp6 : Whole w6 w2.heap.size 76 #[.int .i64 (s : Int), .int .i64 (b : Int)] := by
        have h4 : Whole w4 w2.heap.size 76 #[.int .i64 (s : Int), .int .i64 (b : Int)] := (hb4.block _ HP3.out.lt).trans HP3.out
        have h5 : Whole w5 w2.heap.size 76 #[.int .i64 (s : Int), .int .i64 (b : Int)] := hng.kept.whole h4 fun hne => hne hpbn
        refine hk6'.whole h5 fun e => ?_
        have e2 := hg4.has.roles.nm
        have e3 : L5.nm = L2.nm := by rw [hL5]
        rw [← e3, ← e, hpbn] at e2
        cases e2
      have u4 : w6.cell? ⟨w2.heap.size, 0, none⟩ = some (.int .i64 (s : Int)) := hp6.cell 0
      have u5 : w6.cell? ⟨w2.heap.size, 1, none⟩ = some (.int .i64 (b : Int)) := hp6.cell 1
      have hg6d := hg6.below (Below.refl _ w6).drew
      have hhold := hold_any L5 _ w6.drew s b (.nod M2.ntab.length) x p hg6d.has hp hx hb
      rw [hx5] at hhold
      simp only [hldV, ptrN, Option.map_some, hnb5] at hhold
      have HHO := Lib.hid hhold
      have HG6 := Lib.hid hg6d
      have HNB := Lib.hid hnb5
      have HX5 := Lib.hid hx5
      clear hhold hg6 hg6d hg5 hg4 hng hom hl6 hk6 hl6e hk6' hput6 hnw5 hW5 hW6 hp6 hw5 hnb5 hL5 hnc hb4 hall hs0 q0 q1 cut1
      unfold strV at hrun6
      go_upto_region 11 with fail
      go_region
      clear hrun6 u0 u1 u2
      go_upto_region 12 with fail
      go_cut [] from 64 to 71 (fun wx => Hid (Goes L M w L5 (nodM M2 s b nm pin1 p) wx))
      case first =>
        go_region_law (refine step_call rfl 66 #[.pointer (some ⟨L.xb, 0, none⟩), .agg #[.int .i64 (s : Int), .int .i64 (b : Int)], .agg #[.pointer none, .pointer (some ⟨w4.heap.size, 0, none⟩)]] (by first | kernel_rfl | rfl | (simp [execOp, go_sem])) _ _ HHO.out ?_; intro w7 hR7)
        all_goals
          go_wp2_with fail
          go_meet
          exact Lib.hid (HG6.out.trans hR7)
      case rest =>
        go_wp2_with fail
        go_roundg k
        case measure => omega
        case rel => exact ⟨L5, nodM M2 s b nm pin1 p, some M2.ntab.length, k, some ⟨w4.heap.size, 0, none⟩, rfl, rfl, Nat.le_refl _, by omega, Lib.hid (by simp only [ptrN, Option.map_some, HNB.out]), Lib.hid (by rw [HNM.out]; exact HRS.out), hcut⟩
end Go.Proofs.YtimdedkejadnfaaGreatDoor
