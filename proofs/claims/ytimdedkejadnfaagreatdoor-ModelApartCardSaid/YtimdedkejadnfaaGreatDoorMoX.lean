/-
  The walks of a model's sweep and Tick, of a model with one entry, which is over then. No condition but sizes.
-/
import Derived.Test.YtimdedkejadnfaaGreatDoorMoW
namespace Go.Proofs.YtimdedkejadnfaaGreatDoor
open Go.RowKit Go.Foldp Go.Colm Go.Wirep Go.Maps
set_option linter.unusedVariables false
set_option linter.unusedSimpArgs false
set_option linter.unusedSectionVars false

theorem key_info : (Tryz.prog.info? 34).map (fun i => (i.zero, i.size, i.bytes)) = some (some (.agg #[.string ⟨#[]⟩, .int .u16 0]), 2, 24) := by kernel_rfl

theorem own_rows {w : World} {base : Nat} {e : TypeId} {size : Nat} {v : Value} {n : Nat} {xs : List Value} (h : w.ownsRow base e size v n xs) : ∃ A c, v = .slice A n c ∧ RowV w A xs := by
  rcases h with ⟨hl, h⟩
  rcases h with ⟨rfl, rfl⟩ | ⟨g, cap, cur, rfl, _, hg, hn, _, hcs, ht⟩
  · have : xs = [] := List.eq_nil_of_length_eq_zero (by simpa using hl)
    subst this
    exact ⟨none, 0, rfl, RowV.nil _ _⟩
  · refine ⟨_, cap, rfl, fun i v hv => ⟨g, 0, rfl, ?_⟩⟩
    have hi : i < xs.length := (List.getElem?_eq_some_iff.1 hv).1
    rw [← ht, List.getElem?_take_of_lt (by omega)] at hv
    simp only [World.cell?, hg, Nat.zero_add]
    simpa using hv
theorem cell_two_new (w : World) (x y : Value) (t : TypeId) : ∀ j u, [x, y][j]? = some u → (w.alloc (.cells #[x, y] t)).cell? ((⟨w.heap.size, 0, none⟩ : Addr).add j) = some u := by
  intro j u hj
  have h := (Whole.new w t #[x, y]).cell j
  rcases j with _ | _ | j
  · simp at hj
    subst hj
    exact h
  · simp at hj
    subst hj
    exact h
  · simp at hj

set_option maxRecDepth 100000 in
set_option maxHeartbeats 6400000 in
theorem sweep_one (L : Lay) (M : Mod) (w : World) (n i : Nat) (d : Ent) (M' : Mod) (h : Has L M w) (hring : M.ring = [i]) (hbroom : M.broom = some i) (hi : M.etab[i]? = some d) (hov : overB M d = true) (hx : M.expired < 4611686018427387904) (hr : RemR n (expM M d) i d M') :
    Calls Tryz.prog 53 #[.pointer (some ⟨L.xb, 0, none⟩), .int .i64 4] w fun e w' => ∃ A c L', e = .returned (.slice A 1 c) ∧ Goes L M w L' M' w' := by
  have hil : i < M.etab.length := (List.getElem?_eq_some_iff.1 hi).1
  obtain ⟨Ar, cr, erv, hrow0⟩ := own_row h.ring
  have x3 : w.cell? ⟨L.xb, 3, none⟩ = some (.slice Ar 1 cr) := by
    have := h.xcell 3
    simp only [modC, erv] at this
    rw [hring] at this
    exact this
  have x4 : w.cell? ⟨L.xb, 4, none⟩ = some (.pointer (some ⟨L.eb i, 0, none⟩)) := by
    have := h.xcell 4
    simp only [modC, hbroom] at this
    exact this
  obtain ⟨i0, hi0, hz0, hz1, hz2⟩ := info_parts ptrE_info
  obtain ⟨i1, hi1, hy0, hy1, hy2⟩ := info_parts key_info
  have hnx : nextM M i = none := by rw [nextM, if_pos (by rw [hring]; simp)]
  have hover := fun W (hW : Below w.heap.size w W) => overM_any L M W i d (h.below hW) hi
  rw [hov] at hover
  have hnext := fun W (hW : Below w.heap.size w W) => next_any L M W i d (h.below hW) hi (fun j hj => by rw [hring] at hj; simp at hj; omega) (by rw [hring]; simp)
  rw [hnx] at hnext
  have hdrop := fun W (hW : Below w.heap.size w W) => drop_any L M W n i d M' (h.below hW) hx hr
  simp only [ptrE, Option.map_some, Option.map_none] at hover hnext hdrop
  have HO := Lib.hid hover
  have HN := Lib.hid hnext
  have HD := Lib.hid hdrop
  have H := Lib.hid h
  have HX4 := Lib.hid x4
  clear hover hnext hdrop h hr hring hbroom hov hnx hrow0 erv
  go_enter Tryz.func53, Tryz.ntmps53
  go_wp2_with fail
  simp only [show min (4 : Int) 1 = 1 from rfl]
  go_loopw [5, 6, 18] (fun s5 s6 s18 wr => ∃ (k : Nat) (v : Value), k ≤ 1 ∧ s18 = .int .i64 k ∧ v = s5 ∧ Hid (Below w.heap.size w wr) ∧ Hid (wr.ownsRow w.heap.size 63 1 v k (List.replicate k (ptrE L (some i))))) (fun s5 s6 s18 wr => match s18 with | .int _ m => 1 - m.toNat | _ => 0)
  case atStart => exact ⟨0, _, Nat.zero_le _, rfl, rfl, Lib.hid (Below.refl _ _), Lib.hid (own_nil _ _ _ _)⟩
  case round =>
    obtain ⟨k, v, hk, rfl, hv5, HB, HW⟩ := hrel
    subst hv5
    by_cases hlt : k < 1
    · have hk0 : k = 0 := by omega
      subst hk0
      have y4 : wr.cell? ⟨L.xb, 4, none⟩ = some (.pointer (some ⟨L.eb i, 0, none⟩)) := (HB.out.cell (lt_of_cell HX4.out)).trans HX4.out
      go_wp2_with fail
      refine (HO.out wr HB.out).mono ?_
      rintro e w1 ⟨rfl, m, rfl⟩
      have HB1 := Lib.hid (below_drewN HB.out m)
      have HW1 : Hid ((wr.drewN m).ownsRow w.heap.size 63 1 v 0 []) := Lib.hid (own_stays HW.out (Kept.below (below_of_drewN wr m) fun _ => False) (fun _ _ h => h))
      obtain ⟨w1, hw1⟩ : ∃ w1, w1 = wr.drewN m := ⟨_, rfl⟩
      rw [← hw1] at HB1 HW1 ⊢
      have z4 : w1.cell? ⟨L.xb, 4, none⟩ = some (.pointer (some ⟨L.eb i, 0, none⟩)) := (HB1.out.cell (lt_of_cell HX4.out)).trans HX4.out
      clear hw1 y4 HB HW
      have hszw := HB1.out.size
      go_wp2_with (at_builtin; refine wpList_append_own_at _ rfl _ _ 62 rfl w.heap.size 63 i0 (.pointer none) 1 8 Tryz.underlying62 hi0 hz0 hz1 hz2 rfl (by decide) v 0 [] rfl (HW1.out.alloc _) ⟨w1.heap.size, 0, none⟩ 1 1 [.pointer (some ⟨L.eb i, 0, none⟩)] rfl rfl (cell_one_new _ _ _) (fun x hx => by simp at hx; subst hx; rfl) (by unfold maxLen; omega) (by omega) (by simp; omega) ?_; intro v' w4 hown4 hg4 _ _; have HB4 := Lib.hid (own_below (HW1.out.alloc _) (HB1.out.alloc hszw _) (by simp; omega) hg4); have HW4 := Lib.hid hown4; have z5 := (HB4.out.cell (lt_of_cell HX4.out)).trans HX4.out)
      refine (HN.out w4 HB4.out).mono ?_
      rintro e w5 ⟨rfl, m2, rfl⟩
      have HB5 := Lib.hid (below_drewN HB4.out m2)
      have HW5 : Hid ((w4.drewN m2).ownsRow w.heap.size 63 1 v' 1 [ptrE L (some i)]) := Lib.hid (own_stays HW4.out (Kept.below (below_of_drewN w4 m2) fun _ => False) (fun _ _ h => h))
      go_wp2_with fail
      go_roundw
      case rel => exact ⟨1, _, Nat.le_refl _, rfl, rfl, HB5, HW5⟩
      case measure => simp
    · have hk1 : k = 1 := by omega
      subst hk1
      obtain ⟨Ao, co, rfl, hrow⟩ := own_row HW.out
      obtain ⟨b, off, rfl, hcell⟩ := hrow 0 (ptrE L (some i)) rfl
      go_wp2_with fail
      simp only [show ((1 : Nat) : Int) = 1 from rfl]
      go_loopw [7, 10, 50] (fun s7 s10 s50 wq => ∃ (k : Nat) (v : Value) (xs : List Value), k ≤ 1 ∧ s50 = .int .i64 k ∧ v = s7 ∧ Hid (k = 0 → Below w.heap.size w wq ∧ wq.cell? ⟨b, off, none⟩ = some (ptrE L (some i)) ∧ v = .slice none 0 0) ∧ Hid (k = 1 → ∃ L', Goes L M w L' M' wq) ∧ Hid (wq.ownsRow 0 34 2 v k xs)) (fun s7 s10 s50 wr => match s50 with | .int _ m => 1 - m.toNat | _ => 0)
      case atStart => exact ⟨0, _, [], Nat.zero_le _, rfl, rfl, Lib.hid (fun _ => ⟨HB.out, hcell, rfl⟩), Lib.hid (fun h => by omega), Lib.hid (own_nil _ _ _ _)⟩
      case round =>
        obtain ⟨k, v, xs, hk, rfl, hv7, H0, H1, HW⟩ := hrel
        subst hv7
        by_cases hlt : k < 1
        · have hk0 : k = 0 := by omega
          subst hk0
          obtain ⟨hb2, hc2, hvn⟩ := H0.out rfl
          simp only [ptrE, Option.map_some] at hc2
          have hcall := HD.out _ hb2
          unfold keyV strV at hcall
          have HCL := Lib.hid hcall
          have HB2 := Lib.hid hb2
          have HVN := Lib.hid hvn
          clear hcall hb2 hvn
          go_wp2_with fail
          refine HCL.out.mono ?_
          rintro e w6 ⟨rfl, L', hg6⟩
          have HG6 := Lib.hid (hg6.after HB2.out)
          have HR6 : Hid (w6.ownsRow w6.heap.size 34 2 v 0 []) := Lib.hid (by rw [HVN.out]; exact own_nil _ _ _ _)
          clear hg6
          go_wp2_with (at_builtin; refine wpList_append_own_at _ rfl _ _ 35 rfl w6.heap.size 34 i1 (.agg #[.string ⟨#[]⟩, .int .u16 0]) 2 24 Tryz.underlying35 hi1 hy0 hy1 hy2 rfl (by decide) v 0 [] rfl (HR6.out.alloc _) ⟨w6.heap.size, 0, none⟩ 1 1 [.string ⟨d.name.toArray⟩, .int .u16 (d.typ : Int)] rfl rfl (cell_two_new _ _ _ _) (fun x hx => by simp at hx; rcases hx with rfl | rfl <;> rfl) (by unfold maxLen; omega) (by omega) (by simp) ?_; intro v' w7 hown7 hg7 _ _; have HB7 := Lib.hid (own_below (HR6.out.alloc _) ((Below.refl _ w6).alloc (Nat.le_refl _) _) (by simp) hg7); have HW7 := Lib.hid hown7)
          go_roundw
          case rel => exact ⟨1, _, _, Nat.le_refl _, rfl, rfl, Lib.hid (fun h => by omega), Lib.hid (fun _ => ⟨L', HG6.out.below HB7.out⟩), Lib.hid (own_base HW7.out (Nat.zero_le _))⟩
          case measure => simp
        · have hk1 : k = 1 := by omega
          subst hk1
          obtain ⟨L', hg⟩ := H1.out rfl
          go_wp2_with fail
          go_ret
          obtain ⟨A8, c8, e8, _⟩ := own_rows HW.out
          exact ⟨⟨A8, c8, congrArg Ending.returned e8⟩, L', hg⟩

def tickM (M : Mod) (n : Nat) : Mod := { M with now := M.now + min n (4611686018427387904 - M.now) }
theorem setNow {L : Lay} {M : Mod} {w : World} (h : Has L M w) (n : Nat) : Goes L M w L { M with now := n } (w.setCell ⟨L.xb, 5, none⟩ (.int .u64 (n : Int))) := by
  have hk : Kept (fun k => k = L.xb) w (w.setCell ⟨L.xb, 5, none⟩ (.int .u64 (n : Int))) := (Kept.refl (fun k => k = L.xb) w).setCell (p := ⟨L.xb, 5, none⟩) (.inl rfl) _
  have hx := h.xw.put 5 (.int .u64 (n : Int))
  refine ⟨h.setX L.rv L.G M.ring M.broom n M.evicted M.expired M.moved M.lent hk ?_ (fun _ _ h => h) (fun k hk' => Nat.lt_of_lt_of_le (h.dom k hk') hk.size) h.roles.ring hx (own_stays h.ring hk fun k e hkk => ?_), rfl, kept_own h.roles hk ?_, fun k hk' => .inl hk', fun _ _ => rfl, fun _ _ => rfl, Nat.le_refl _, Nat.le_refl _⟩
  · rintro k r rfl hr
    rw [h.roles.x] at hr
    exact .inl (Option.some.inj hr).symm
  · have h1 := h.roles.ring k e
    rw [hkk, h.roles.x] at h1
    cases h1
  · rintro k _ rfl
    rw [h.roles.x]
    simp

set_option maxRecDepth 100000 in
set_option maxHeartbeats 6400000 in
theorem tick_one (L : Lay) (M : Mod) (w : World) (n q i : Nat) (d : Ent) (M' : Mod) (h : Has L M w) (hlent : M.lent = 0) (hq : q < 4611686018427387904) (hnow : M.now ≤ 4611686018427387904) (hring : M.ring = [i]) (hbroom : M.broom = some i) (hi : M.etab[i]? = some d) (hov : overB (tickM M q) d = true) (hx : M.expired < 4611686018427387904) (hr : RemR n (expM (tickM M q) d) i d M') :
    Calls Tryz.prog 16 #[.pointer (some ⟨L.xb, 0, none⟩), .int .u64 (q : Int)] w fun e w' => ∃ A c L', e = .returned (.tuple #[.slice A 1 c, .int .i64 0]) ∧ Goes L M w L' M' w' := by
  have hfree := free_any L M w h
  rw [show freeE M = 0 by rw [freeE, hlent]; rfl] at hfree
  have hs := (setNow h (M.now + min q (4611686018427387904 - M.now))).below (below_of_drewN _ 1)
  rw [show ((M.now + min q (4611686018427387904 - M.now) : Nat) : Int) = (M.now : Int) + min (q : Int) (4611686018427387904 - (M.now : Int)) by omega] at hs
  have hsw := sweep_one L (tickM M q) _ n i d M' hs.has hring hbroom hi hov hx hr
  have x5 : w.drew.cell? ⟨L.xb, 5, none⟩ = some (.int .u64 (M.now : Int)) := h.xcell 5
  have f5 : w.drew.frozen? ⟨L.xb, 5, none⟩ = false := h.xw.frozen 5
  have HFR := Lib.hid hfree
  have HSW := Lib.hid hsw
  have HG := Lib.hid hs
  clear h hfree hs hsw hr hov
  go_enter Tryz.func16, Tryz.ntmps16
  go_wp2_with fail
  refine HFR.out.mono ?_
  rintro e w1 ⟨rfl, rfl⟩
  go_wp2_with fail
  go_region
  go_wp2_with fail
  refine HSW.out.mono ?_
  rintro e w2 ⟨A, c, L', rfl, hg2⟩
  have HG2 := Lib.hid (HG.out.trans hg2)
  clear hg2
  go_wp2_with fail
  go_ret2
  exact ⟨A, c, L', rfl, HG2.out⟩
end Go.Proofs.YtimdedkejadnfaaGreatDoor
