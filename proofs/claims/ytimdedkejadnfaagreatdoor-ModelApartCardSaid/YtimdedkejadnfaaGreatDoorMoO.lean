/-
  The walks of a model's find and Get, of an entry that isn't over. No condition but sizes.
-/
import Derived.Test.YtimdedkejadnfaaGreatDoorMoM
namespace Go.Proofs.YtimdedkejadnfaaGreatDoor
open Go.RowKit Go.Foldp Go.Colm Go.Wirep Go.Maps
set_option linter.unusedVariables false
set_option linter.unusedSimpArgs false
set_option linter.unusedSectionVars false

def keyL (nm : List UInt8) : List UInt8 := (textL (parseL nm).1).1
/-- What is found; the number, or the error. -/
def findM (M : Mod) (nm : List UInt8) (typ : Nat) : Option Nat × Int :=
  if (parseL nm).2 ≠ 0 then (none, (parseL nm).2) else match getA (keyL nm, typ) M.ents with
    | none => (none, 7)
    | some i => (some i, 0)
/-- The look-up of a key among the entries, in whatever later world. -/
theorem look_ents {L : Lay} {M : Mod} {w : World} (h : Has L M w) {k : List UInt8} {t : Nat} (hk : k.length ≤ 100000) (ht : t < 65536) :
    (getA (k, t) M.ents = none ∧ ∀ W, Below w.heap.size w W → (Instr.lookup 61 (.map (some L.em)) (keyV k t) true).run Tryz.prog W = .ok (.tuple #[.pointer none, .bool false]) W) ∨
    ∃ i, getA (k, t) M.ents = some i ∧ ∀ W, Below w.heap.size w W → (Instr.lookup 61 (.map (some L.em)) (keyV k t) true).run Tryz.prog W = .ok (.tuple #[ptrE L (some i), .bool true]) W := by
  obtain ⟨z, hz⟩ := key_key hk ht
  have hom : OwnL w Tryz.prog 34 L.em (entsV L M.ents) := h.comp .em
  rcases hg : getA (k, t) M.ents with _ | i
  · refine .inl ⟨rfl, fun W hW => ?_⟩
    rcases (hom.below hW).look true keyed_key Tryz.underlying61 (Tryz.zeroValue63 W) hz with ⟨_, hrun⟩ | ⟨j, v, hj, _⟩
    · exact hrun
    · obtain ⟨v', h1, _⟩ := look_some (ek := fun p : List UInt8 × Nat => keyV p.1 p.2) (ev := fun j => ptrE L (some j)) keyV_inj (k := (k, t)) hom.apart hj
      rw [hg] at h1
      cases h1
  · refine .inr ⟨i, rfl, fun W hW => ?_⟩
    rcases (hom.below hW).look true keyed_key Tryz.underlying61 (Tryz.zeroValue63 W) hz with ⟨hn, _⟩ | ⟨j, v, hj, hrun⟩
    · have := look_none (ek := fun p : List UInt8 × Nat => keyV p.1 p.2) (ev := fun j => ptrE L (some j)) keyV_inj (k := (k, t)) hn
      rw [hg] at this
      cases this
    · obtain ⟨v', h1, h2⟩ := look_some (ek := fun p : List UInt8 × Nat => keyV p.1 p.2) (ev := fun j => ptrE L (some j)) keyV_inj (k := (k, t)) hom.apart hj
      rw [hg] at h1
      cases h1
      rw [h2] at hrun
      exact hrun

set_option maxRecDepth 100000 in
set_option maxHeartbeats 6400000 in
theorem find_any (L : Lay) (M : Mod) (w : World) (nm : List UInt8) (typ : Nat) (h : Has L M w) (hn : nm.length ≤ 100000) (ht : typ < 65536) (hov : ∀ i, getA (keyL nm, typ) M.ents = some i → ∃ d, M.etab[i]? = some d ∧ overB M d = false) :
    Calls Tryz.prog 31 #[.pointer (some ⟨L.xb, 0, none⟩), keyV nm typ] w fun e w' => e = .returned (.tuple #[ptrE L (findM M nm typ).1, .int .i64 (findM M nm typ).2]) ∧ Below w.heap.size w w' := by
  obtain ⟨w0, hw0⟩ : ∃ w0, w0 = w.alloc (.cells #[.string ⟨nm.toArray⟩, .int .u16 (typ : Int)] 34) := ⟨_, rfl⟩
  have hb : Below w.heap.size w w0 := by rw [hw0]; exact (Below.refl _ w).alloc (Nat.le_refl _) _
  have hr0 : Whole w0 w.heap.size 34 #[.string ⟨nm.toArray⟩, .int .u16 (typ : Int)] := by rw [hw0]; exact Whole.new w _ _
  have h0 := h.below hb
  have x0 : w0.cell? ⟨w.heap.size, 0, none⟩ = some (.string ⟨nm.toArray⟩) := hr0.cell 0
  have hnone := none_any L M w0 h0
  have hparse := parse_any nm w0 (h0.comp .glob).2 hn
  have HNO := Lib.hid hnone
  have HP := Lib.hid hparse
  have H0 := Lib.hid h0
  have HB := Lib.hid hb
  have HR0 := Lib.hid hr0
  clear h h0 hnone hparse hb hr0
  unfold keyV strV
  go_enter Tryz.func31, Tryz.ntmps31
  go_upto_region 1 with fail
  rw [← hw0]
  clear hw0
  go_wp2_with fail
  refine HNO.out.mono ?_
  rintro e w1 ⟨rfl, rfl⟩
  go_wp2_with fail
  refine HP.out.mono ?_
  rintro e w2 ⟨A, c, rfl, hrow, hcap, hb2, _⟩
  by_cases hp : (parseL nm).2 = 0
  · have hck := parse_ok hp
    have htx := fun W (hW : Below w2.heap.size w2 W) => textM_any (parseL nm).1 A c W (hrow.below hW) hcap (by have := checkL_wire hck; omega)
    have h2 := H0.out.below hb2
    have x2 : w2.cell? ⟨L.xb, 2, none⟩ = some (.map (some L.em)) := h2.xcell 2
    have x3 : w2.cell? ⟨w.heap.size, 1, none⟩ = some (.int .u16 (typ : Int)) := ((Kept.below hb2 fun _ => False).whole HR0.out fun h => h).cell 1
    have hlook := look_ents h2 (k := keyL nm) (t := typ) (Nat.le_trans text_len (by omega)) ht
    have hek : (textL (parseL nm).1).1 = keyL nm := rfl
    rw [hek] at htx
    obtain ⟨kb, hkb⟩ : ∃ kb : ByteArray, kb = ⟨(keyL nm).toArray⟩ := ⟨_, rfl⟩
    have HTX := Lib.hid htx
    have HB2 := Lib.hid hb2
    have H2 := Lib.hid h2
    have HPP := Lib.hid hp
    rw [hp]
    clear htx hb2 h2 hrow hck hp
    rcases hlook with ⟨hg, hlook⟩ | ⟨i, hg, hlook⟩
    · have E : Hid (findM M nm typ = (none, 7)) := Lib.hid (by rw [findM, if_neg (by rw [HPP.out]; simp), hg])
      have hall : ∀ W, Below w2.heap.size w2 W → Below w2.heap.size w2 W ∧ W.cell? ⟨L.xb, 2, none⟩ = some (.map (some L.em)) ∧ W.cell? ⟨w.heap.size, 1, none⟩ = some (.int .u16 (typ : Int)) ∧ (Instr.lookup 61 (.map (some L.em)) (.agg #[.string ⟨(keyL nm).toArray⟩, .int .u16 (typ : Int)]) true).run Tryz.prog W = .ok (.tuple #[.pointer none, .bool false]) W := fun W hW => ⟨hW, (hW.cell (lt_of_cell x2)).trans x2, (hW.cell (lt_of_cell x3)).trans x3, hlook W hW⟩
      have hs0 := hall _ (Below.refl _ w2).drew
      clear hlook hg hov
      unfold strV at HTX
      go_wp2_with fail
      go_region_held3 (fun W => Below w2.heap.size w2 W ∧ W.cell? ⟨L.xb, 2, none⟩ = some (.map (some L.em)) ∧ W.cell? ⟨w.heap.size, 1, none⟩ = some (.int .u16 (typ : Int)) ∧ (Instr.lookup 61 (.map (some L.em)) (.agg #[.string ⟨(keyL nm).toArray⟩, .int .u16 (typ : Int)]) true).run Tryz.prog W = .ok (.tuple #[.pointer none, .bool false]) W)
        (first | exact hs0 | exact hall _ (by assumption) | exact hall _ (below_chain (And.left (by assumption)) (by assumption)) | exact hall _ (below_chain (by assumption) (by assumption)) | exact hall _ (below_chain (Below.refl _ _).drew (by assumption)))
        (first | ((go_at_call 22; with_reducible refine (HTX.out _ (And.left (by assumption))).mono ?_); rintro e w3 ⟨rfl, hb3⟩) | ((go_at_call 22; with_reducible refine (HTX.out _ (Below.refl _ _).drew).mono ?_); rintro e w3 ⟨rfl, hb3⟩))
      obtain ⟨hbf, _⟩ : Below w2.heap.size w2 w3 ∧ _ := by assumption
      have HBF := Lib.hid hbf
      go_wp2_with fail
      go_ret2
      rw [E.out]
      exact ⟨rfl, below_chain HB.out (below_chain HB2.out HBF.out)⟩
    · have E : Hid (findM M nm typ = (some i, 0)) := Lib.hid (by rw [findM, if_neg (by rw [HPP.out]; simp), hg])
      obtain ⟨d, hd, hod⟩ := hov i hg
      have hall : ∀ W, Below w2.heap.size w2 W → Below w2.heap.size w2 W ∧ W.cell? ⟨L.xb, 2, none⟩ = some (.map (some L.em)) ∧ W.cell? ⟨w.heap.size, 1, none⟩ = some (.int .u16 (typ : Int)) ∧ (Instr.lookup 61 (.map (some L.em)) (.agg #[.string ⟨(keyL nm).toArray⟩, .int .u16 (typ : Int)]) true).run Tryz.prog W = .ok (.tuple #[.pointer (some ⟨L.eb i, 0, none⟩), .bool true]) W := fun W hW => ⟨hW, (hW.cell (lt_of_cell x2)).trans x2, (hW.cell (lt_of_cell x3)).trans x3, hlook W hW⟩
      have hs0 := hall _ (Below.refl _ w2).drew
      clear hlook hg hov
      unfold strV at HTX
      go_wp2_with fail
      go_region_held3 (fun W => Below w2.heap.size w2 W ∧ W.cell? ⟨L.xb, 2, none⟩ = some (.map (some L.em)) ∧ W.cell? ⟨w.heap.size, 1, none⟩ = some (.int .u16 (typ : Int)) ∧ (Instr.lookup 61 (.map (some L.em)) (.agg #[.string ⟨(keyL nm).toArray⟩, .int .u16 (typ : Int)]) true).run Tryz.prog W = .ok (.tuple #[.pointer (some ⟨L.eb i, 0, none⟩), .bool true]) W)
        (first | exact hs0 | exact hall _ (by assumption) | exact hall _ (below_chain (And.left (by assumption)) (by assumption)) | exact hall _ (below_chain (by assumption) (by assumption)) | exact hall _ (below_chain (Below.refl _ _).drew (by assumption)))
        (first | ((go_at_call 22; with_reducible refine (HTX.out _ (And.left (by assumption))).mono ?_); rintro e w3 ⟨rfl, hb3⟩) | ((go_at_call 22; with_reducible refine (HTX.out _ (Below.refl _ _).drew).mono ?_); rintro e w3 ⟨rfl, hb3⟩))
      obtain ⟨hbf, _⟩ : Below w2.heap.size w2 w3 ∧ _ := by assumption
      have hov3 := overM_any L M w3 i d (H2.out.below hbf) hd
      rw [hod] at hov3
      simp only [ptrE, Option.map_some] at hov3
      have HOV := Lib.hid hov3
      have HBF := Lib.hid hbf
      clear hov3
      go_wp2_with fail
      refine HOV.out.mono ?_
      rintro e w4 ⟨rfl, m, rfl⟩
      go_wp2_with fail
      go_ret2
      rw [E.out]
      exact ⟨rfl, below_drewN (below_chain HB.out (below_chain HB2.out HBF.out)) m⟩
  · have hpe : ((parseL nm).2 == 0) = false := by simpa using hp
    have E : Hid (findM M nm typ = (none, (parseL nm).2)) := Lib.hid (by rw [findM, if_pos hp])
    have HB2 := Lib.hid hb2
    clear hrow hcap hb2
    go_wp2_with fail
    go_ret2
    rw [E.out]
    exact ⟨rfl, below_chain HB.out HB2.out⟩

theorem setUsed {L : Lay} {M : Mod} {w : World} (h : Has L M w) {i : Nat} {d : Ent} (hi : M.etab[i]? = some d) : Goes L M w L { M with etab := M.etab.set i { d with used := true } } (w.setCell ⟨L.eb i, 7, none⟩ (.bool true)) := by
  have hil := (List.getElem?_eq_some_iff.1 hi).1
  have hk : Kept (fun k => k = L.eb i) w (w.setCell ⟨L.eb i, 7, none⟩ (.bool true)) := (Kept.refl (fun k => k = L.eb i) w).setCell (p := ⟨L.eb i, 7, none⟩) (.inl rfl) _
  refine ⟨h.setEnt hi { d with used := true } rfl hk ((h.ent hi).put 7 (.bool true)), rfl, kept_own h.roles hk ?_, fun k hk' => .inl hk', fun _ _ => rfl, fun _ _ => rfl, Nat.le_refl _, by simp⟩
  rintro k _ rfl
  rw [h.roles.ent i hil]
  simp

set_option maxRecDepth 100000 in
set_option maxHeartbeats 3200000 in
theorem get_miss (L : Lay) (M : Mod) (w : World) (nm : List UInt8) (typ : Nat) (x : Int) (h : Has L M w) (hn : nm.length ≤ 100000) (ht : typ < 65536) (hov : ∀ i, getA (keyL nm, typ) M.ents = some i → ∃ d, M.etab[i]? = some d ∧ overB M d = false)
    (hf : findM M nm typ = (none, x)) (hx : x ≠ 0) :
    Calls Tryz.prog 9 #[.pointer (some ⟨L.xb, 0, none⟩), keyV nm typ] w fun e w' => e = .returned (.tuple #[.slice none 0 0, .int .i64 x]) ∧ Below w.heap.size w w' := by
  obtain ⟨w0, hw0⟩ : ∃ w0, w0 = w.alloc (.cells #[.string ⟨nm.toArray⟩, .int .u16 (typ : Int)] 34) := ⟨_, rfl⟩
  have hb : Below w.heap.size w w0 := by rw [hw0]; exact (Below.refl _ w).alloc (Nat.le_refl _) _
  have hr0 : Whole w0 w.heap.size 34 #[.string ⟨nm.toArray⟩, .int .u16 (typ : Int)] := by rw [hw0]; exact Whole.new w _ _
  have h0 := h.below hb
  have x0 : w0.cell? ⟨w.heap.size, 0, none⟩ = some (.string ⟨nm.toArray⟩) := hr0.cell 0
  have x1 : w0.cell? ⟨w.heap.size, 1, none⟩ = some (.int .u16 (typ : Int)) := hr0.cell 1
  have hfi := find_any L M w0 nm typ h0 hn ht hov
  rw [hf] at hfi
  have hx0 : (x == 0) = false := by simpa using hx
  have HF := Lib.hid hfi
  have HB := Lib.hid hb
  clear h h0 hfi hb hr0 hf hov
  unfold keyV strV at HF ⊢
  simp only [ptrE, Option.map_none] at HF
  go_enter Tryz.func9, Tryz.ntmps9
  go_upto_region 1 with fail
  rw [← hw0]
  clear hw0
  go_wp2_with fail
  refine HF.out.mono ?_
  rintro e w2 ⟨rfl, hb2⟩
  have HB2 := Lib.hid hb2
  clear hb2
  go_wp2_with fail
  go_ret2
  exact ⟨rfl, below_chain HB.out HB2.out⟩

set_option maxRecDepth 100000 in
set_option maxHeartbeats 3200000 in
theorem get_hit (L : Lay) (M : Mod) (w : World) (nm : List UInt8) (typ : Nat) (i : Nat) (d : Ent) (h : Has L M w) (hn : nm.length ≤ 100000) (ht : typ < 65536) (hov : ∀ i, getA (keyL nm, typ) M.ents = some i → ∃ d, M.etab[i]? = some d ∧ overB M d = false)
    (hf : findM M nm typ = (some i, 0)) (hi : M.etab[i]? = some d) (hl : d.recs.length < 4294967296) (hll : ∀ x ∈ d.recs, x.length < 1099511627776) :
    Calls Tryz.prog 9 #[.pointer (some ⟨L.xb, 0, none⟩), keyV nm typ] w fun e w' => ∃ v us, e = .returned (.tuple #[v, .int .i64 0]) ∧ RecOwn w.heap.size w' v us d.recs ∧ Goes L M w L { M with etab := M.etab.set i { d with used := true } } w' := by
  obtain ⟨w0, hw0⟩ : ∃ w0, w0 = w.alloc (.cells #[.string ⟨nm.toArray⟩, .int .u16 (typ : Int)] 34) := ⟨_, rfl⟩
  have hb : Below w.heap.size w w0 := by rw [hw0]; exact (Below.refl _ w).alloc (Nat.le_refl _) _
  have hr0 : Whole w0 w.heap.size 34 #[.string ⟨nm.toArray⟩, .int .u16 (typ : Int)] := by rw [hw0]; exact Whole.new w _ _
  have h0 := h.below hb
  have x0 : w0.cell? ⟨w.heap.size, 0, none⟩ = some (.string ⟨nm.toArray⟩) := hr0.cell 0
  have x1 : w0.cell? ⟨w.heap.size, 1, none⟩ = some (.int .u16 (typ : Int)) := hr0.cell 1
  have hfi := find_any L M w0 nm typ h0 hn ht hov
  rw [hf] at hfi
  have HF := Lib.hid hfi
  have HB := Lib.hid hb
  have H := Lib.hid h
  clear h h0 hfi hb hr0 hf hov
  unfold keyV strV at HF ⊢
  simp only [ptrE, Option.map_some] at HF
  go_enter Tryz.func9, Tryz.ntmps9
  go_upto_region 1 with fail
  rw [← hw0]
  clear hw0
  go_wp2_with fail
  refine HF.out.mono ?_
  rintro e w2 ⟨rfl, hb2⟩
  have hbb := below_chain HB.out hb2
  have h2 := H.out.below hbb
  have y7 : w2.cell? ⟨L.eb i, 7, none⟩ = some (.bool d.used) := (h2.ent hi).cell 7
  have g7 := (h2.ent hi).frozen 7
  have hu := ((Goes.refl H.out).below hbb).trans (setUsed h2 hi)
  obtain ⟨w3, hw3⟩ : ∃ w3, w3 = w2.setCell ⟨L.eb i, 7, none⟩ (.bool true) := ⟨_, rfl⟩
  rw [← hw3] at hu
  have hil := (List.getElem?_eq_some_iff.1 hi).1
  have hi3 : (M.etab.set i { d with used := true })[i]? = some { d with used := true } := by simp [hil]
  obtain ⟨A, c, erc, hrec⟩ := hu.has.comp .recs i { d with used := true } hi3
  have y5 : w3.cell? ⟨L.eb i, 5, none⟩ = some (.slice A d.recs.length c) := by
    have := (hu.has.ent hi3).cell 5
    simp only [entC, erc] at this
    exact this
  have hcl := clone_any _ A c d.recs w3 hl hll hrec
  have HCL := Lib.hid hcl
  have HU := Lib.hid hu
  clear hcl hrec erc h2 hbb hu hb2
  go_upto_region 5 with fail
  rw [← hw3]
  clear hw3 y7 g7
  go_wp2_with fail
  refine HCL.out.mono ?_
  rintro e w4 ⟨v, us, rfl, hro, hb4⟩
  have HRO := Lib.hid hro
  have HB4 := Lib.hid hb4
  clear hro hb4
  go_wp2_with fail
  go_ret2
  refine ⟨v, us, rfl, ?_, HU.out.below HB4.out⟩
  obtain ⟨r1, ⟨b, r2, r3, r4⟩, r5⟩ := HRO.out
  have hs := HU.out.kept.size
  exact ⟨r1, ⟨b, r2, by omega, r4⟩, fun i u x hu hx => own_base (r5 i u x hu hx) hs⟩
end Go.Proofs.YtimdedkejadnfaaGreatDoor
