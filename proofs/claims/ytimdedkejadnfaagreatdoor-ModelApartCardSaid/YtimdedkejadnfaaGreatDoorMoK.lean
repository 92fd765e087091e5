/-
  The walks of a model's next, let, remove, drop. No condition but sizes.
-/
import Derived.Test.YtimdedkejadnfaaGreatDoorMoJ
import Derived.Deep.LoopGhost
namespace Go.Proofs.YtimdedkejadnfaaGreatDoor
open Go.RowKit Go.Colm Go.Maps
set_option linter.unusedVariables false
set_option linter.unusedSimpArgs false
set_option linter.unusedSectionVars false

/-- The one behind an entry in the ring. -/
def nextM (M : Mod) (i : Nat) : Option Nat := if M.ring.length < 2 then none else M.ring[(ixOf i M.ring + 1).toNat % M.ring.length]?
theorem ixOf_ge (i : Nat) (l : List Nat) : -1 ≤ ixOf i l ∧ ixOf i l < l.length ∨ l = [] := by
  rcases l with _ | ⟨x, r⟩
  · exact .inr rfl
  · refine .inl ?_
    rw [ixOf]
    split
    · rename_i h
      have := List.idxOf_lt_length_of_mem h
      omega
    · simp
      omega

set_option maxHeartbeats 3200000 in
theorem next_any (L : Lay) (M : Mod) (w : World) (i : Nat) (d : Ent) (h : Has L M w) (hi : M.etab[i]? = some d) (hr : ∀ j ∈ M.ring, j < M.etab.length) (hl : M.ring.length < 1099511627776) :
    Calls Tryz.prog 102 #[.pointer (some ⟨L.xb, 0, none⟩), ptrE L (some i)] w fun e w' => e = .returned (ptrE L (nextM M i)) ∧ ∃ m, w' = w.drewN m := by
  have c3 : w.cell? ⟨L.xb, 3, none⟩ = some L.rv := h.xcell 3
  obtain ⟨A, c, erv, hrow⟩ := own_row h.ring
  have hc := fun m => at_any L M (w.drewN m) i d (h.drewN m) hi hr hl
  have HC := Lib.hid hc
  rw [erv] at c3
  clear hc
  by_cases h2 : M.ring.length < 2
  · have E : Hid (nextM M i = none) := Lib.hid (by rw [nextM, if_pos h2])
    clear h hrow
    unfold ptrE at HC ⊢
    go_enter Tryz.func102, Tryz.ntmps102
    go_wp2
    go_ret
    rw [E.out]
    exact ⟨rfl, 0, rfl⟩
  · obtain ⟨a, ha, hal⟩ : ∃ a : Nat, ixOf i M.ring = (a : Int) - 1 ∧ a ≤ M.ring.length := by
      rcases ixOf_ge i M.ring with ⟨h1, h3⟩ | h1
      · exact ⟨(ixOf i M.ring + 1).toNat, by omega, by omega⟩
      · rw [h1] at h2
        simp at h2
    have hlt : a % M.ring.length < M.ring.length := Nat.mod_lt _ (by omega)
    have E : Hid (nextM M i = some M.ring[a % M.ring.length]) := Lib.hid (by
      rw [nextM, if_neg h2, ha, show ((a : Int) - 1 + 1).toNat = a by omega, List.getElem?_eq_getElem hlt])
    obtain ⟨b, off, rfl, hcell⟩ := hrow (a % M.ring.length) (ptrE L (some M.ring[a % M.ring.length])) (by simp [hlt])
    simp only [ptrE, Option.map_some] at hcell
    have hmod : Int.tmod ((a : Int) - 1 + 1) (M.ring.length : Int) = ((a % M.ring.length : Nat) : Int) := by
      rw [show ((a : Int) - 1 + 1) = (a : Int) by omega]
      rfl
    rw [ha] at HC
    clear h hrow ha
    unfold ptrE at HC ⊢
    go_enter Tryz.func102, Tryz.ntmps102
    go_wp2_with fail
    go_quiet ((go_at_call 117; exact Calls.quiet_of_same (HC.out _)))
    go_wp2_with fail
    go_ret
    rw [E.out]
    refine ⟨rfl, ?_⟩
    first | exact ⟨1, rfl⟩ | exact ⟨_, rfl⟩

theorem str_key {s : List UInt8} (h : s.length ≤ 100000) : keyOf Tryz.prog 9 (strV s) = some (.string s) := by
  have := Go.WideMaps.keyOf_string_mk (P := Tryz.prog) (k := 9) Tryz.underlying9 (s := ⟨s.toArray⟩) (by show s.toArray.size ≤ maxLen; unfold maxLen; simp; omega)
  rw [strV, this]
theorem strV_inj : ∀ a b : List UInt8, strV a = strV b → a = b := fun a b h => by
  simp only [strV, Value.string.injEq, ByteArray.mk.injEq] at h
  simpa using h

/-- A node's count turned. -/
def refM (M : Mod) (i : Nat) (d : Nod) (n : Nat) : Mod := { M with ntab := M.ntab.set i { d with refs := n } }
/-- A node is held by one less, so many steps up: what there is then. -/
inductive LetR : Nat → Mod → Option Nat → Mod → Prop where
  | nil (n : Nat) (M : Mod) : LetR n M none M
  | stay (n : Nat) (M : Mod) (i : Nat) (d : Nod) (hi : M.ntab[i]? = some d) (h1 : 1 < d.refs) (h2 : d.refs < 4611686018427387904) : LetR (n + 1) M (some i) (refM M i d (d.refs - 1))
  | go (n : Nat) (M : Mod) (i : Nat) (d : Nod) (p : Part) (x : Hld) (M' : Mod) (hi : M.ntab[i]? = some d) (h1 : d.refs = 1) (hn : d.name.length ≤ 100000) (hp : M.parts[d.slab]? = some p) (hx : getA d.block p.live = some x)
      (hb : d.block < 4611686018427387904) (hl : p.free.length + p.live.length < 1099511627776)
      (hrest : LetR n { M with ntab := M.ntab.set i { d with refs := 0 }, nodes := delA d.name M.nodes, parts := M.parts.set d.slab (giveP d.block p) } d.parent M') : LetR (n + 1) M (some i) M'

theorem setRefs {L : Lay} {M : Mod} {w : World} (h : Has L M w) {i : Nat} {d : Nod} (hi : M.ntab[i]? = some d) (n : Nat) : Goes L M w L (refM M i d n) (w.setCell ⟨L.nb i, 4, none⟩ (.int .i64 (n : Int))) := by
  have hil := (List.getElem?_eq_some_iff.1 hi).1
  have hk : Kept (fun k => k = L.nb i) w (w.setCell ⟨L.nb i, 4, none⟩ (.int .i64 (n : Int))) := (Kept.refl (fun k => k = L.nb i) w).setCell (p := ⟨L.nb i, 4, none⟩) (.inl rfl) _
  refine ⟨h.setNode hil { d with refs := n } hk ((h.node hi).put 4 (.int .i64 (n : Int))), rfl, kept_own h.roles hk ?_, fun k hk' => .inl hk', fun _ _ => rfl, fun _ _ => rfl, by simp [refM], Nat.le_refl _⟩
  rintro k _ rfl
  rw [h.roles.node i hil]
  simp

set_option maxRecDepth 100000 in
set_option maxHeartbeats 4000000 in
theorem let_any (L : Lay) (M : Mod) (w : World) (n : Nat) (o : Option Nat) (M' : Mod) (h : Has L M w) (hlet : LetR n M o M') :
    Calls Tryz.prog 25 #[.pointer (some ⟨L.xb, 0, none⟩), ptrN L o] w fun e w' => e = .returned (.tuple #[]) ∧ ∃ L', Goes L M w L' M' w' := by
  have H0 : Hid (Goes L M w L M w) := Lib.hid (Goes.refl h)
  have HL := Lib.hid hlet
  clear h hlet
  go_enter Tryz.func25, Tryz.ntmps25
  go_wp2_with fail
  go_loopg [1] n (fun gg s1 wr => ∃ (L1 : Lay) (M1 : Mod) (o1 : Option Nat), s1 = ptrN L1 o1 ∧ L1.xb = L.xb ∧ Hid (LetR gg M1 o1 M') ∧ Hid (Goes L M w L1 M1 wr))
  case atStart => exact ⟨L, M, o, rfl, rfl, HL, H0⟩
  case round =>
    obtain ⟨L1, M1, o1, rfl, hxb, HLR, HG⟩ := hrel
    have hlr := HLR.out
    clear HLR
    cases hlr with
    | nil =>
      simp only [ptrN, Option.map_none]
      go_wp2_with fail
      go_end0
      exact ⟨rfl, L1, HG.out⟩
    | stay n' _ i d hi h1 h2 =>
      have c4 : wr.cell? ⟨L1.nb i, 4, none⟩ = some (.int .i64 (d.refs : Int)) := (HG.out.has.node hi).cell 4
      have f4 := (HG.out.has.node hi).frozen 4
      simp only [ptrN, Option.map_some]
      go_wp2_with fail
      refine bodyPost_ret (results_none rfl _ _ _) rfl ?_
      refine ⟨rfl, L1, HG.out.trans ?_⟩
      rw [show (d.refs : Int) - 1 = ((d.refs - 1 : Nat) : Int) by omega]
      exact setRefs HG.out.has hi _
    | go n' _ i d p x _ hi h1 hn hp hx hb hl hrest =>
      have c4 : wr.cell? ⟨L1.nb i, 4, none⟩ = some (.int .i64 1) := by
        have := (HG.out.has.node hi).cell 4
        simp only [nodC, h1] at this
        exact this
      have f4 := (HG.out.has.node hi).frozen 4
      have hil := (List.getElem?_eq_some_iff.1 hi).1
      obtain ⟨wa, hwa⟩ : ∃ wa, wa = wr.setCell ⟨L1.nb i, 4, none⟩ (.int .i64 0) := ⟨_, rfl⟩
      have hga : Goes L M w L1 (refM M1 i d 0) wa := HG.out.trans (by rw [hwa]; exact setRefs HG.out.has hi 0)
      have hia : (refM M1 i d 0).ntab[i]? = some { d with refs := 0 } := by simp [refM, hil]
      have hwn := hga.has.node hia
      have x1 : wa.cell? ⟨L.xb, 1, none⟩ = some (.map (some L1.nm)) := by rw [← hxb]; exact hga.has.xcell 1
      have x2 : wa.cell? ⟨L1.nb i, 2, none⟩ = some (strV d.name) := hwn.cell 2
      have x0 : wa.cell? ⟨L1.nb i, 4, none⟩ = some (.int .i64 0) := hwn.cell 4
      have hom : OwnL wa.drew Tryz.prog 9 L1.nm (nodesV L1 M1.nodes) := hga.has.comp .nm
      obtain ⟨w3, l3, hrun3, hput3, hl3, hk3⟩ := hom.del (string_keyed Tryz.underlying9) Tryz.underlying60 (str_key hn) 0
      have hl3e := ldel_map (ek := strV) (ev := fun j => ptrN L1 (some j)) strV_inj (k := d.name) hom.apart hput3
      have hk3' : Kept (fun k => k = L1.nm) wa w3 := (Kept.refl (fun k => k = L1.nm) wa).drew.trans hk3
      have hgb : Goes L M w L1 { refM M1 i d 0 with nodes := delA d.name M1.nodes } w3 := by
        refine hga.trans ⟨hga.has.setNodes _ hk3' (by rw [hl3e] at hl3; exact hl3), rfl, kept_own hga.has.roles hk3' ?_, fun k hk' => .inl hk', fun _ _ => rfl, fun _ _ => rfl, Nat.le_refl _, Nat.le_refl _⟩
        rintro k _ rfl
        rw [hga.has.roles.nm]
        simp
      have hn3 := hgb.has.node (i := i) (d := { d with refs := 0 }) hia
      have y0 : w3.cell? ⟨L1.nb i, 0, none⟩ = some (.int .i64 (d.slab : Int)) := hn3.cell 0
      have y1 : w3.cell? ⟨L1.nb i, 1, none⟩ = some (.int .i64 (d.block : Int)) := hn3.cell 1
      have hgive := give_any L1 _ w3 d.slab d.block x p hgb.has hp hx hb hl
      have HGA := Lib.hid hga
      have HGB := Lib.hid hgb
      have HGV := Lib.hid hgive
      have HRS := Lib.hid hrest
      have HWA := Lib.hid hwa
      clear hga hgb hgive hrest hl3 hk3 hk3' hl3e hput3 hom hn3 hwn
      simp only [ptrN, Option.map_some]
      go_upto_region 3 with fail
      rw [← hwa]
      clear hwa c4 f4
      go_cut [] from 18 to 25 (fun wx => wx = w3)
      case first =>
        go_region_law (refine step_delete (w' := w3) rfl _ _ _ _ rfl _ _ rfl rfl hrun3 ?_)
        all_goals (go_wp2_with fail; go_meet; rfl)
      case rest =>
        obtain rfl := hcut
        go_wp2_with fail
        have hgv := HGV.out
        rw [hxb] at hgv
        refine hgv.mono ?_
        rintro e w4 ⟨rfl, L4, hg4⟩
        have hi4 : (M1.ntab.set i { d with refs := 0 })[i]? = some { d with refs := 0 } := by simp [hil]
        have z3 : w4.cell? ⟨L1.nb i, 3, none⟩ = some (ptrN L4 d.parent) := by
          have := (hg4.has.node (i := i) (d := { d with refs := 0 }) hi4).cell 3
          rw [hg4.nb i (by simp [refM, hil])] at this
          exact this
        have hx4 : L4.xb = L.xb := hg4.xb.trans hxb
        have HG4 := Lib.hid (HGB.out.trans hg4)
        have Z : Hid (ptrN L4 d.parent = ptrN L4 d.parent) := Lib.hid rfl
        obtain ⟨pv, hpv⟩ : ∃ pv : Option Addr, ptrN L4 d.parent = .pointer pv := ⟨_, rfl⟩
        rw [hpv] at z3
        have HPV := Lib.hid hpv
        clear hg4 hgv hpv hrun3
        go_wp2_with fail
        go_roundg n'
        case measure => omega
        case rel =>
          refine ⟨L4, _, d.parent, HPV.out.symm, hx4, HRS, HG4⟩
end Go.Proofs.YtimdedkejadnfaaGreatDoor
