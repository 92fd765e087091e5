/-
  The walks of a model's text, drop, find, Get. No condition but sizes.
-/
import Derived.Test.YtimdedkejadnfaaGreatDoorMoL
import Derived.Deep.RegionHeld3
namespace Go.Proofs.YtimdedkejadnfaaGreatDoor
open Go.RowKit Go.Foldp Go.Colm Go.Wirep Go.Maps
set_option linter.unusedVariables false
set_option linter.unusedSimpArgs false
set_option linter.unusedSectionVars false

theorem parse_ok {s : List UInt8} (h : (parseL s).2 = 0) : checkL (parseL s).1 = 0 := by
  unfold parseL at h ⊢
  split at h
  · rename_i e
    rw [if_pos e]
    decide
  · rename_i e
    rw [if_neg e]
    split at h
    · rename_i e2
      rw [if_pos e2]
      exact e2
    · rename_i e2
      exact absurd h e2
theorem text_len {l : List (List UInt8)} : (textL l).1.length ≤ 255 := by
  unfold textL
  split
  · rename_i h
    split
    · simp
    · exact Nat.le_trans (join_len l) (checkL_wire h)
  · simp

set_option maxHeartbeats 400000 in
theorem textM_any (l : List (List UInt8)) (A : Option Addr) (c : Nat) (w : World) (hr : RowV w A (labV l)) (hcap : l.length ≤ c) (hl : wireL l < 1099511627776) :
    Calls Tryz.prog 22 #[.slice A l.length c] w fun e w' => e = .returned (strV (textL l).1) ∧ Below w.heap.size w w' := by
  have hc := text_any l A c w hr hcap hl
  have HC := Lib.hid hc
  clear hc hr
  go_enter Tryz.func22, Tryz.ntmps22
  go_wp2_with fail
  refine HC.out.mono ?_
  rintro e w1 ⟨rfl, hb⟩
  go_wp2
  go_ret
  exact ⟨rfl, hb⟩

/-- One goes, and is counted if it was over. -/
def expM (M : Mod) (d : Ent) : Mod := { M with expired := if overB M d then M.expired + 1 else M.expired }
theorem setExpired {L : Lay} {M : Mod} {w : World} (h : Has L M w) (n : Nat) : Goes L M w L { M with expired := n } (w.setCell ⟨L.xb, 7, none⟩ (.int .i64 (n : Int))) := by
  have hk : Kept (fun k => k = L.xb) w (w.setCell ⟨L.xb, 7, none⟩ (.int .i64 (n : Int))) := (Kept.refl (fun k => k = L.xb) w).setCell (p := ⟨L.xb, 7, none⟩) (.inl rfl) _
  have hx := h.xw.put 7 (.int .i64 (n : Int))
  refine ⟨h.setX L.rv L.G M.ring M.broom M.now M.evicted n M.moved M.lent hk ?_ (fun _ _ h => h) (fun k hk' => Nat.lt_of_lt_of_le (h.dom k hk') hk.size) h.roles.ring hx (own_stays h.ring hk fun k e hkk => ?_), rfl, kept_own h.roles hk ?_, fun k hk' => .inl hk', fun _ _ => rfl, fun _ _ => rfl, Nat.le_refl _, Nat.le_refl _⟩
  · rintro k r rfl hr
    rw [h.roles.x] at hr
    exact .inl (Option.some.inj hr).symm
  · have h1 := h.roles.ring k e
    rw [hkk, h.roles.x] at h1
    cases h1
  · rintro k _ rfl
    rw [h.roles.x]
    simp

set_option maxRecDepth 100000 in
set_option maxHeartbeats 3200000 in
theorem drop_any (L : Lay) (M : Mod) (w : World) (n i : Nat) (d : Ent) (M' : Mod) (h : Has L M w) (hx : M.expired < 4611686018427387904) (hr : RemR n (expM M d) i d M') :
    Calls Tryz.prog 23 #[.pointer (some ⟨L.xb, 0, none⟩), ptrE L (some i)] w fun e w' => e = .returned (keyV d.name d.typ) ∧ ∃ L', Goes L M w L' M' w' := by
  have hi : M.etab[i]? = some d := hr.ent
  obtain ⟨w0, hw0⟩ : ∃ w0, w0 = w.alloc (.cells #[.string ⟨#[]⟩, .int .u16 0] 34) := ⟨_, rfl⟩
  have hb : Below w.heap.size w w0 := by rw [hw0]; exact (Below.refl _ w).alloc (Nat.le_refl _) _
  have hr0 : Whole w0 w.heap.size 34 #[.string ⟨#[]⟩, .int .u16 0] := by rw [hw0]; exact Whole.new w _ _
  have h0 := h.below hb
  have hov := overM_any L M w0 i d h0 hi
  have HOV := Lib.hid hov
  have H0 := Lib.hid h0
  have HB := Lib.hid hb
  have HR0 := Lib.hid hr0
  have HN : Hid (L.G w.heap.size = none) := Lib.hid (by
    rcases hh : L.G w.heap.size with _ | r
    · rfl
    · exact absurd (h.dom _ (by rw [hh]; simp)) (Nat.lt_irrefl _))
  have HR := Lib.hid hr
  have fin : ∀ (w1 : World), Goes L M w0 L (expM M d) w1 → Calls Tryz.prog 64 #[.pointer (some ⟨L.xb, 0, none⟩), ptrE L (some i)] w1 fun e w2 => e = .returned (.agg #[.string ⟨d.name.toArray⟩, .int .u16 (d.typ : Int)]) ∧ ∃ L', Whole w2 w.heap.size 34 #[.string ⟨#[]⟩, .int .u16 0] ∧ L'.G w.heap.size = none ∧ Goes L M w L' M' w2 := fun w1 hg => by
    refine (remove_any L _ w1 n i d M' hg.has hr).mono ?_
    rintro e w2 ⟨rfl, L', hg2⟩
    have hga := hg.trans hg2
    refine ⟨rfl, L', hga.kept.whole hr0 fun hne => hne HN.out, ?_, hga.after hb⟩
    rcases hh : L'.G w.heap.size with _ | r
    · rfl
    · rcases hga.grow _ (by rw [hh]; simp) with h1 | h1
      · exact absurd HN.out h1
      · have := hr0.lt
        omega
  have FIN := Lib.hid fin
  have x7 : w0.cell? ⟨L.xb, 7, none⟩ = some (.int .i64 (M.expired : Int)) := h0.xcell 7
  have f7 := h0.xw.frozen 7
  clear h0 hb hr0 h hov hr fin
  simp only [ptrE, Option.map_some] at HOV FIN ⊢
  go_enter Tryz.func23, Tryz.ntmps23
  go_upto_region 1 with fail
  rw [← hw0]
  clear hw0
  go_wp2_with fail
  refine HOV.out.mono ?_
  rintro e w1 ⟨rfl, m, rfl⟩
  have y7 : (w0.drewN m).cell? ⟨L.xb, 7, none⟩ = some (.int .i64 (M.expired : Int)) := x7
  have g7 : (w0.drewN m).frozen? ⟨L.xb, 7, none⟩ = false := f7
  by_cases ho : overB M d = true
  · have E : Hid (expM M d = { M with expired := M.expired + 1 }) := Lib.hid (by rw [expM, if_pos ho])
    have hsx := ((Goes.refl H0.out).below (below_of_drewN w0 m)).trans (setExpired (H0.out.drewN m) (M.expired + 1))
    rw [← E.out] at hsx
    have hcall := FIN.out _ hsx
    rw [show ((M.expired + 1 : Nat) : Int) = (M.expired : Int) + 1 by omega] at hcall
    have HCL := Lib.hid hcall
    rw [ho]
    clear hsx hcall ho
    go_wp2_with fail
    refine HCL.out.mono ?_
    rintro e w2 ⟨rfl, L', hr2, hn2, hg2⟩
    have r0 := hr2.cell 0
    have r1 := hr2.cell 1
    have s0 := hr2.frozen 0
    have s1 := hr2.frozen 1
    simp only [List.getElem?_toArray, List.getElem?_cons_zero, List.getElem?_cons_succ] at r0 r1
    have HR2 := Lib.hid hr2
    have HG2 := Lib.hid hg2
    clear hr2 hg2
    go_wp2_with fail
    refine bodyPost_ret (results_cell_row rfl _ _ w.heap.size 34 _ (0, 0) _ rfl (place2 HR2.out _ _) Tryz.underlying34 rfl (by kernel_rfl)) rfl ?_
    refine ⟨rfl, L', HG2.out.side (keptP _ _ _ _) ?_⟩
    rintro j rfl
    exact ⟨Nat.le_refl _, hn2⟩
  · have ho' : overB M d = false := by simpa using ho
    have E : Hid (expM M d = M) := Lib.hid (by rw [expM, if_neg ho])
    have hsx := (Goes.refl H0.out).below (below_of_drewN w0 m)
    have hcall := FIN.out _ (by rw [E.out]; exact hsx)
    have HCL := Lib.hid hcall
    rw [ho']
    clear hsx hcall ho ho'
    go_wp2_with fail
    refine HCL.out.mono ?_
    rintro e w2 ⟨rfl, L', hr2, hn2, hg2⟩
    have r0 := hr2.cell 0
    have r1 := hr2.cell 1
    have s0 := hr2.frozen 0
    have s1 := hr2.frozen 1
    simp only [List.getElem?_toArray, List.getElem?_cons_zero, List.getElem?_cons_succ] at r0 r1
    have HR2 := Lib.hid hr2
    have HG2 := Lib.hid hg2
    clear hr2 hg2
    go_wp2_with fail
    refine bodyPost_ret (results_cell_row rfl _ _ w.heap.size 34 _ (0, 0) _ rfl (place2 HR2.out _ _) Tryz.underlying34 rfl (by kernel_rfl)) rfl ?_
    refine ⟨rfl, L', HG2.out.side (keptP _ _ _ _) ?_⟩
    rintro j rfl
    exact ⟨Nat.le_refl _, hn2⟩
end Go.Proofs.YtimdedkejadnfaaGreatDoor
