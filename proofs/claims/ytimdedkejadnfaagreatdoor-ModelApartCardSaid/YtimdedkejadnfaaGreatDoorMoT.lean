/-
  The walk of a model's enter: an entry comes to be there. No condition but sizes.
-/
import Derived.Test.YtimdedkejadnfaaGreatDoorMoR
namespace Go.Proofs.YtimdedkejadnfaaGreatDoor
open Go.RowKit Go.Foldp Go.Colm Go.Wirep Go.Maps
set_option linter.unusedVariables false
set_option linter.unusedSimpArgs false
set_option linter.unusedSectionVars false

/-- The ring turns, in its row or in a new one. -/
theorem setRingN {L : Lay} {M : Mod} {w w1 : World} (h : Has L M w) (rv' : Value) (ring' : List Nat) (hk1 : Kept (fun k => L.rv.ownBlock = some k) w w1) (hblk : ∀ k, rv'.ownBlock = some k → L.rv.ownBlock = some k ∨ w.heap.size ≤ k)
    (hrow : w1.ownsRow 0 63 1 rv' ring'.length (ring'.map fun i => ptrE L (some i))) :
    Goes L M w { L with rv := rv', G := fun k => if rv'.ownBlock = some k then some .ring else L.G k } { M with ring := ring' } (w1.setCell ⟨L.xb, 3, none⟩ rv') := by
  have hxl : L.xb < w.heap.size := h.dom _ (by rw [h.roles.x]; simp)
  have hnx : ∀ k, L.rv.ownBlock = some k → k ≠ L.xb := fun k e hkk => by
    have h1 := h.roles.ring k e
    rw [hkk, h.roles.x] at h1
    cases h1
  have hx1 : Whole w1 L.xb 65 (modC L M) := hk1.whole h.xw fun e => hnx _ e rfl
  have hk2 : Kept (fun k => k = L.xb) w1 (w1.setCell ⟨L.xb, 3, none⟩ rv') := (Kept.refl (fun k => k = L.xb) w1).setCell (p := ⟨L.xb, 3, none⟩) (.inl rfl) _
  have hk : Kept (fun k => k = L.xb ∨ L.rv.ownBlock = some k) w (w1.setCell ⟨L.xb, 3, none⟩ rv') := (hk1.mono fun k _ h => .inr h).trans (hk2.mono fun k _ h => .inl h)
  have hS : ∀ k r, (k = L.xb ∨ L.rv.ownBlock = some k) → L.G k = some r → r = .x ∨ r = .ring := by
    rintro k r (rfl | e) hr
    · rw [h.roles.x] at hr
      exact .inl (Option.some.inj hr).symm
    · rw [h.roles.ring k e] at hr
      exact .inr (Option.some.inj hr).symm
  have hx := hx1.put 3 rv'
  have hG : ∀ k r, L.G k = some r → (if rv'.ownBlock = some k then some Role.ring else L.G k) = some r := fun k r hr => by
    by_cases e : rv'.ownBlock = some k
    · rw [if_pos e]
      rcases hblk k e with h1 | h1
      · rw [h.roles.ring k h1] at hr
        exact hr
      · have := h.dom k (by rw [hr]; simp)
        omega
    · rw [if_neg e]
      exact hr
  refine ⟨h.setX rv' _ ring' M.broom M.now M.evicted M.expired M.moved M.lent hk hS hG (fun k hk' => ?_) (fun k e => if_pos e) hx (own_stays hrow hk2 fun k e hkk => ?_), rfl, kept_own h.roles hk ?_, fun k hk' => ?_, fun _ _ => rfl, fun _ _ => rfl, Nat.le_refl _, Nat.le_refl _⟩
  · by_cases e : rv'.ownBlock = some k
    · have := (own_ge hrow e).2
      exact Nat.lt_of_lt_of_le this hk2.size
    · rw [if_neg e] at hk'
      exact Nat.lt_of_lt_of_le (h.dom k hk') hk.size
  · rcases hblk k e with h1 | h1
    · exact hnx k h1 hkk
    · omega
  · rintro k _ (rfl | e)
    · rw [h.roles.x]
      simp
    · rw [h.roles.ring k e]
      simp
  · by_cases e : rv'.ownBlock = some k
    · rcases hblk k e with h1 | h1
      · exact .inl (by rw [h.roles.ring k h1]; simp)
      · exact .inr h1
    · simp only at hk'
      rw [if_neg e] at hk'
      exact .inl hk'

def enterM (M : Mod) (i : Nat) (d : Ent) (p : Part) : Mod :=
  { M with ents := putA (d.name, d.typ) i M.ents, parts := M.parts.set d.slab (holdP d.block (.ent i) p), broom := if M.ring.length = 0 then some i else M.broom, ring := M.ring ++ [i] }

set_option maxRecDepth 100000 in
set_option maxHeartbeats 6400000 in
theorem enter_any (L : Lay) (M : Mod) (w : World) (i : Nat) (d : Ent) (p : Part) (x0 : Hld) (h : Has L M w) (hi : M.etab[i]? = some d) (hname : d.name.length ≤ 100000) (htyp : d.typ < 65536) (hp : M.parts[d.slab]? = some p) (hx : getA d.block p.live = some x0) (hblock : d.block < 4611686018427387904) (hlen : M.ring.length < 1099511627776) :
    Calls Tryz.prog 28 #[.pointer (some ⟨L.xb, 0, none⟩), ptrE L (some i)] w fun e w' => e = .returned (.tuple #[]) ∧ ∃ L', Goes L M w L' (enterM M i d p) w' := by
  obtain ⟨z, hz⟩ := key_key (n := d.name) (t := d.typ) hname htyp
  have hom : OwnL w.drew Tryz.prog 34 L.em (entsV L M.ents) := h.comp .em
  obtain ⟨w1, l1, hrun1, hput1, hl1, hk1⟩ := hom.put (val := .pointer (some ⟨L.eb i, 0, none⟩)) keyed_key Tryz.underlying61 hz
  have hl1e := lput_map (ek := fun p : List UInt8 × Nat => keyV p.1 p.2) (ev := fun j => ptrE L (some j)) keyV_inj (k := (d.name, d.typ)) (v := i) hom.apart hput1
  have hk1' : Kept (fun k => k = L.em) w w1 := (Kept.refl (fun k => k = L.em) w).drew.trans hk1
  have hg1 : Goes L M w L { M with ents := putA (d.name, d.typ) i M.ents } w1 := by
    refine ⟨h.setEnts _ hk1' (by rw [hl1e] at hl1; exact hl1), rfl, kept_own h.roles hk1' ?_, fun k hk' => .inl hk', fun _ _ => rfl, fun _ _ => rfl, Nat.le_refl _, Nat.le_refl _⟩
    rintro k _ rfl
    rw [h.roles.em]
    simp
  have x2 : w.cell? ⟨L.xb, 2, none⟩ = some (.map (some L.em)) := h.xcell 2
  have e2 : w.cell? ⟨L.eb i, 2, none⟩ = some (.string ⟨d.name.toArray⟩) := (h.ent hi).cell 2
  have e3 : w.cell? ⟨L.eb i, 3, none⟩ = some (.int .u16 (d.typ : Int)) := (h.ent hi).cell 3
  have e0 : w1.cell? ⟨L.eb i, 0, none⟩ = some (.int .i64 (d.slab : Int)) := (hg1.has.ent (i := i) (d := d) hi).cell 0
  have e1 : w1.cell? ⟨L.eb i, 1, none⟩ = some (.int .i64 (d.block : Int)) := (hg1.has.ent (i := i) (d := d) hi).cell 1
  have hhold := hold_any L _ w1 d.slab d.block (.ent i) x0 p hg1.has hp hx hblock
  have HH := Lib.hid hhold
  have HG1 := Lib.hid hg1
  clear h hom hput1 hl1 hk1 hl1e hk1' hg1 hhold
  unfold keyV strV at hrun1
  simp only [hldV, ptrE, Option.map_some] at HH ⊢
  go_enter Tryz.func28, Tryz.ntmps28
  go_wp2_with fail
  go_region
  clear hrun1 x2 e2 e3
  go_wp2_with fail
  refine HH.out.mono ?_
  rintro e w2 ⟨rfl, hg2⟩
  have hg := HG1.out.trans hg2
  obtain ⟨A2, c2, erv, _⟩ := own_row hg.has.ring
  have x3 : w2.cell? ⟨L.xb, 3, none⟩ = some L.rv := hg.has.xcell 3
  rw [erv] at x3
  have ERV := Lib.hid erv
  have HG := Lib.hid hg
  clear hg hg2 erv e0 e1
  obtain ⟨i0, hi0, hz0, hz1, hz2⟩ := info_parts ptrE_info
  simp only at x3
  by_cases h0 : M.ring.length = 0
  · have hsb := HG.out.trans (setBroom HG.out.has (some i))
    simp only [ptrE, Option.map_some] at hsb
    have z4 := HG.out.has.xw.frozen 4
    have w4c : (w2.cell? ⟨L.xb, 4, none⟩).isSome = true := by rw [HG.out.has.xcell 4]; rfl
    obtain ⟨ob, hob⟩ := Option.isSome_iff_exists.1 w4c
    have y3 : (w2.setCell ⟨L.xb, 4, none⟩ (.pointer (some ⟨L.eb i, 0, none⟩))).cell? ⟨L.xb, 3, none⟩ = some (.slice A2 M.ring.length c2) := by
      have := hsb.has.xcell 3
      simp only [modC, ERV.out] at this
      exact this
    have t0 : ((M.ring.length : Int) == 0) = true := by rw [h0]; rfl
    have hcn : ∀ (T : TypeId) (j : Nat) (u : Value), [Value.pointer (some ⟨L.eb i, 0, none⟩)][j]? = some u → (World.alloc (w2.setCell ⟨L.xb, 4, none⟩ (.pointer (some ⟨L.eb i, 0, none⟩))) (.cells #[.pointer (some ⟨L.eb i, 0, none⟩)] T)).cell? ((⟨w2.heap.size, 0, none⟩ : Addr).add j) = some u := fun T j u hu => by
      have e : (w2.setCell ⟨L.xb, 4, none⟩ (.pointer (some ⟨L.eb i, 0, none⟩))).heap.size = w2.heap.size := by simp [World.setCell]
      rw [← e]
      exact cell_one_new _ _ _ j u hu
    have HH0 := Lib.hid h0
    clear h0
    have hrow := hsb.has.ring
    rw [ERV.out] at hrow
    have hxl : L.xb < (w2.setCell ⟨L.xb, 4, none⟩ (.pointer (some ⟨L.eb i, 0, none⟩))).heap.size := hsb.has.xw.lt
    have hne3 : L.rv.ownBlock ≠ some L.xb := Lib.ownBlock_ne hsb.has.ring hsb.has.xw (by decide)
    have HROW := Lib.hid hrow
    have HGO := Lib.hid hsb
    clear hrow
    go_wp2_with (at_builtin; refine wpList_append_own_at _ rfl _ _ 62 rfl 0 63 i0 (.pointer none) 1 8 Tryz.underlying62 hi0 hz0 hz1 hz2 rfl (by decide) (.slice A2 M.ring.length c2) M.ring.length (M.ring.map fun i => ptrE L (some i)) rfl (HROW.out.alloc _) ⟨w2.heap.size, 0, none⟩ 1 1 [.pointer (some ⟨L.eb i, 0, none⟩)] rfl rfl (hcn _) (fun x hx => by simp at hx; subst hx; rfl) (by unfold maxLen; omega) (by omega) (Nat.zero_le _) ?_; intro v' w4 hown4 hg4 _ hat4; have hk4 : Kept (fun j => L.rv.ownBlock = some j) (w2.setCell ⟨L.xb, 4, none⟩ (.pointer (some ⟨L.eb i, 0, none⟩))) w4 := ((Kept.refl (fun j => L.rv.ownBlock = some j) (w2.setCell ⟨L.xb, 4, none⟩ (.pointer (some ⟨L.eb i, 0, none⟩)))).alloc (.cells #[.pointer (some ⟨L.eb i, 0, none⟩)] 63)).trans ((Kept.grown hg4).mono fun j _ h => by rw [ERV.out]; exact h); have ht4 : Whole w4 L.xb 65 _ := hk4.whole HGO.out.has.xw hne3; have hc4 : w4.cell? ⟨L.xb, 3, none⟩ = some (.slice A2 M.ring.length c2) := by { have := ht4.cell 3; simp only [modC, ERV.out] at this; exact this }; have hf4 := ht4.frozen 3; have hx4 := own_row hown4; obtain ⟨A4, cap4, hv4, _⟩ := hx4; have HV4 := Lib.hid hv4; rw [hv4]; clear hv4)
    go_end0
    have hrn := setRingN HGO.out.has v' (M.ring ++ [i]) hk4 (fun k e => by
      rcases hat4 with h1 | h1
      · rw [h1] at e
        exact .inl (by rw [ERV.out]; exact e)
      · rw [h1] at e
        refine .inr ?_
        have e2 := Option.some.inj e
        rw [← e2]
        simp) (by
      rw [List.length_append, List.map_append]
      exact hown4)
    rw [← HV4.out]
    show _ ∧ _
    have hfin := HGO.out.trans hrn
    rw [enterM, if_pos HH0.out]
    exact ⟨rfl, _, hfin⟩
  · have t0 : ((M.ring.length : Int) == 0) = false := by rw [beq_eq_false_iff_ne]; omega
    have hgo := HG.out
    have hrow := hgo.has.ring
    rw [ERV.out] at hrow
    have hxl : L.xb < (w2).heap.size := hgo.has.xw.lt
    have hne3 : L.rv.ownBlock ≠ some L.xb := Lib.ownBlock_ne hgo.has.ring hgo.has.xw (by decide)
    have HROW := Lib.hid hrow
    have HGO := Lib.hid hgo
    clear hrow
    go_wp2_with (at_builtin; refine wpList_append_own_at _ rfl _ _ 62 rfl 0 63 i0 (.pointer none) 1 8 Tryz.underlying62 hi0 hz0 hz1 hz2 rfl (by decide) (.slice A2 M.ring.length c2) M.ring.length (M.ring.map fun i => ptrE L (some i)) rfl (HROW.out.alloc _) ⟨(w2).heap.size, 0, none⟩ 1 1 [.pointer (some ⟨L.eb i, 0, none⟩)] rfl rfl (cell_one_new _ _ _) (fun x hx => by simp at hx; subst hx; rfl) (by unfold maxLen; omega) (by omega) (Nat.zero_le _) ?_; intro v' w4 hown4 hg4 _ hat4; have hk4 : Kept (fun j => L.rv.ownBlock = some j) (w2) w4 := ((Kept.refl (fun j => L.rv.ownBlock = some j) (w2)).alloc (.cells #[.pointer (some ⟨L.eb i, 0, none⟩)] 63)).trans ((Kept.grown hg4).mono fun j _ h => by rw [ERV.out]; exact h); have ht4 : Whole w4 L.xb 65 _ := hk4.whole HGO.out.has.xw hne3; have hc4 : w4.cell? ⟨L.xb, 3, none⟩ = some (.slice A2 M.ring.length c2) := by { have := ht4.cell 3; simp only [modC, ERV.out] at this; exact this }; have hf4 := ht4.frozen 3; have hx4 := own_row hown4; obtain ⟨A4, cap4, hv4, _⟩ := hx4; have HV4 := Lib.hid hv4; rw [hv4]; clear hv4)
    go_end0
    have hrn := setRingN HGO.out.has v' (M.ring ++ [i]) hk4 (fun k e => by
      rcases hat4 with h1 | h1
      · rw [h1] at e
        exact .inl (by rw [ERV.out]; exact e)
      · rw [h1] at e
        refine .inr ?_
        have e2 := Option.some.inj e
        rw [← e2]
        simp) (by
      rw [List.length_append, List.map_append]
      exact hown4)
    rw [← HV4.out]
    show _ ∧ _
    have hfin := HGO.out.trans hrn
    rw [enterM, if_neg h0]
    exact ⟨rfl, _, hfin⟩
end Go.Proofs.YtimdedkejadnfaaGreatDoor
