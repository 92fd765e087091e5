/-
  The walks of a model's parts: pop, the looks at a part, first. No condition but sizes.
-/
import Derived.Test.YtimdedkejadnfaaGreatDoorMoD
import Derived.WalkKit
import Derived.RegionTactic
import Derived.Deep.QuietTactic
import Derived.Maps.OwnOps
namespace Go.Proofs.YtimdedkejadnfaaGreatDoor
open Go.RowKit Go.Colm Go.Maps
set_option linter.unusedVariables false
set_option linter.unusedSimpArgs false
set_option linter.unusedSectionVars false

theorem int_key {b : Nat} (h : b < 4611686018427387904) : keyOf Tryz.prog 3 (.int .i64 (b : Int)) = some (.int .i64 (b : Int)) :=
  keyOf_int_mk Tryz.underlying3 (by
    have e1 : IntKind.i64.min = -9223372036854775808 := by decide
    have e2 : IntKind.i64.max = 9223372036854775807 := by decide
    rw [Lit.wf, Bool.and_eq_true, decide_eq_true_eq, decide_eq_true_eq, e1, e2]
    omega)
theorem intsN_map (l : List Nat) : intsN l = (l.map fun (n : Nat) => (n : Int)).map (Value.int .i64) := by simp [intsN]

set_option maxHeartbeats 1600000 in
theorem pop_any (sb off g cap lb b : Nat) (r : List Nat) (cs : Array Value) (lv : List (Value × Value)) (w : World) (hW : Whole w sb 197 cs) (h1 : cs[off + 1]? = some (.map (some lb))) (h2 : cs[off + 2]? = some (.slice (some ⟨g, 0, none⟩) (r.length + 1) cap))
    (hown : w.ownsRow 0 3 1 (.slice (some ⟨g, 0, none⟩) (r.length + 1) cap) (r.length + 1) (intsN (b :: r))) (hl : OwnL w Tryz.prog 3 lb lv) (hb : b < 4611686018427387904) (hr : r.length < 1099511627776) :
    Calls Tryz.prog 122 #[.pointer (some ⟨sb, off, none⟩)] w fun e w' => e = .returned (.int .i64 (b : Int)) ∧ ∃ lv', lput (.int .i64 (b : Int)) (.agg #[.pointer none, .pointer none]) lv lv' ∧
      Whole w' sb 197 (cs.setIfInBounds (off + 2) (.slice (some ⟨g, 0, none⟩) r.length cap)) ∧ w'.ownsRow 0 3 1 (.slice (some ⟨g, 0, none⟩) r.length cap) r.length (intsN r) ∧ OwnL w' Tryz.prog 3 lb lv' ∧ Kept (fun k => k = sb ∨ k = g ∨ k = lb) w w' := by
  have hne : sb ≠ g := fun e => Lib.ownBlock_ne hown hW (by decide) (by rw [e]; rfl)
  have hnl := hl.whole_ne hW
  have hng : g ≠ lb := fun e => hl.row_ne hown (by rw [← e]; rfl)
  have c1 : w.cell? ⟨sb, off + 1, none⟩ = some (.map (some lb)) := (hW.cell _).trans h1
  have c2 : w.cell? ⟨sb, off + 2, none⟩ = some (.slice (some ⟨g, 0, none⟩) (r.length + 1) cap) := (hW.cell _).trans h2
  have cg : w.cell? ⟨g, 0, none⟩ = some (.int .i64 (b : Int)) := by rw [hown.cellAt 0 (by omega)]; rfl
  have hd := delI_any 0 g cap ((b :: r).map fun (n : Nat) => (n : Int)) 0 1 w (by rw [← intsN_map, List.length_map]; exact hown) (by omega) (by simp)
  simp only [List.length_map, List.length_cons, List.take_zero, List.nil_append, List.map_cons, List.drop_succ_cons, List.drop_zero, Nat.sub_zero, Nat.add_sub_cancel, ← intsN_map] at hd
  have HD := Lib.hid hd
  have HW := Lib.hid hW
  have HL := Lib.hid hl
  clear hd hW hl h1 h2
  go_enter Tryz.func122, Tryz.ntmps122
  go_wp2_with fail
  refine HD.out.mono ?_
  rintro e w1 ⟨rfl, hown1, hk1⟩
  have hW1 : Whole w1 sb 197 cs := hk1.whole HW.out hne
  have c3 : w1.cell? ⟨sb, off + 2, none⟩ = some (.slice (some ⟨g, 0, none⟩) (r.length + 1) cap) := by
    rw [hW1.cell, ← HW.out.cell]
    exact c2
  have f3 := hW1.frozen (off + 2)
  have hW2 := hW1.put (off + 2) (.slice (some ⟨g, 0, none⟩) r.length cap)
  have hk2 : Kept (fun k => k = sb ∨ k = g ∨ k = lb) w (w1.setCell ⟨sb, off + 2, none⟩ (.slice (some ⟨g, 0, none⟩) r.length cap)) := (hk1.mono fun k _ h => .inr (.inl h)).setCell (p := ⟨sb, off + 2, none⟩) (.inl (.inl rfl)) _
  have hk0 : Kept (fun k => k = sb) w1 (w1.setCell ⟨sb, off + 2, none⟩ (.slice (some ⟨g, 0, none⟩) r.length cap)) := (Kept.refl (fun k => k = sb) w1).setCell (p := ⟨sb, off + 2, none⟩) (.inl rfl) _
  have hown2 : (w1.setCell ⟨sb, off + 2, none⟩ (.slice (some ⟨g, 0, none⟩) r.length cap)).ownsRow 0 3 1 (.slice (some ⟨g, 0, none⟩) r.length cap) r.length (intsN r) :=
    own_stays (S := fun k => k = sb) hown1 hk0 fun k e h => hne (by
      have : g = k := by simpa [Value.ownBlock] using e
      rw [← h, this])
  have hl2 : OwnL (w1.setCell ⟨sb, off + 2, none⟩ (.slice (some ⟨g, 0, none⟩) r.length cap)) Tryz.prog 3 lb lv := (HL.out.kept hk1 (Ne.symm hng)).kept hk0 (Ne.symm hnl)
  have c4 : (w1.setCell ⟨sb, off + 2, none⟩ (.slice (some ⟨g, 0, none⟩) r.length cap)).cell? ⟨sb, off + 1, none⟩ = some (.map (some lb)) := by
    rw [hW2.cell, Array.getElem?_setIfInBounds_ne (by omega), ← HW.out.cell]
    exact c1
  have HW2 := Lib.hid hW2
  have HK2 := Lib.hid hk2
  have HO2 := Lib.hid hown2
  clear hW1 hW2 hk2 hown1 hk1 hk0 hown2 c1 c2 hown HW HL
  go_wp2_with (first | (at_mapUpdate; refine wpList_put _ rfl _ _ _ 195 rfl 3 156 (int_keyed Tryz.underlying3) Tryz.underlying195 lb lv rfl hl2 _ _ _ rfl rfl (int_key hb) ?_; intro w3 lv' hp3 hl3 hk3) | go_in)
  go_ret
  refine ⟨rfl, lv', hp3, ?_, ?_, hl3, ?_⟩
  · exact hk3.whole HW2.out hnl
  · exact own_stays HO2.out hk3 fun k e h => hng (by
      have : g = k := by simpa [Value.ownBlock] using e
      rw [this, h])
  · exact HK2.out.trans (hk3.mono fun k _ h => .inr (.inr h))

/-- What a look at a part reads. -/
structure PartIn (w : World) (sb off : Nat) (p : Part) (lm : Option Nat) (A : Option Addr) (cap : Nat) : Prop where
  cls : w.cell? ⟨sb, off, none⟩ = some (.int .i64 (p.cls : Int))
  lm : w.cell? ⟨sb, off + 1, none⟩ = some (.map lm)
  fv : w.cell? ⟨sb, off + 2, none⟩ = some (.slice A p.free.length cap)
theorem Has.part {L : Lay} {M : Mod} {w : World} (h : Has L M w) {i : Nat} {p : Part} (hp : M.parts[i]? = some p) : ∃ A cap, PartIn w L.sb (i * 3) p (L.lm i) A cap ∧ L.fv i = .slice A p.free.length cap := by
  obtain ⟨cs, h1, h2, h3⟩ : PartsAt L M w := h.comp .s
  obtain ⟨a1, a2, a3⟩ := h3 i p hp
  have hf : FreeAt L w i p := h.comp (.free i) p hp
  have hv : ∃ A cap, L.fv i = .slice A p.free.length cap := by
    rcases hl : L.lm i with _ | b
    · obtain ⟨_, h5, h6⟩ := hf.1 hl
      exact ⟨none, 0, by rw [h6, h5]; rfl⟩
    · obtain ⟨g, cap, h5, _⟩ := hf.2 b hl
      exact ⟨_, cap, h5⟩
  obtain ⟨A, cap, hv⟩ := hv
  exact ⟨A, cap, ⟨(h1.cell _).trans a1, (h1.cell _).trans a2, by rw [h1.cell, a3, hv]⟩, hv⟩

def fitsC (c : Nat) (_ : Nat) (p : Part) : Bool := decide (p.cls = c) && decide (0 < p.free.length)
def freeC (_ : Nat) (p : Part) : Bool := decide (p.cls = 0)
set_option maxHeartbeats 1600000 in
theorem of1_any (i : Int) (sb off cb c : Nat) (p : Part) (lm : Option Nat) (A : Option Addr) (cap : Nat) (w : World) (h : PartIn w sb off p lm A cap) (hc : w.cell? ⟨cb, 0, none⟩ = some (.int .i64 (c : Int))) (k : Nat) :
    Calls Tryz.prog 178 #[.int .i64 i, .pointer (some ⟨sb, off, none⟩), .pointer (some ⟨cb, 0, none⟩)] w fun e w' => e = .returned (.bool (fitsC c k p)) ∧ ∃ m, w' = w.drewN m := by
  obtain ⟨h1, h2, h3⟩ := h
  go_enter Tryz.func178, Tryz.ntmps178
  by_cases e1 : p.cls = c
  · have t1 : ((p.cls : Int) == (c : Int)) = true := by rw [e1]; simp
    by_cases e2 : 0 < p.free.length
    · have t2 : decide ((p.free.length : Int) > 0) = true := decide_eq_true (by omega)
      go_wp2
      go_region
      go_wp2
      go_ret
      refine ⟨ret_bool ?_, 1, rfl⟩
      simp [fitsC, e1, e2]
    · have t2 : decide ((p.free.length : Int) > 0) = false := decide_eq_false (by omega)
      go_wp2
      go_region
      go_wp2
      go_ret
      refine ⟨ret_bool ?_, 1, rfl⟩
      simp [fitsC, e1, e2]
  · have t1 : ((p.cls : Int) == (c : Int)) = false := by rw [beq_eq_false_iff_ne]; exact fun h => e1 (Int.ofNat.inj h)
    go_wp2
    go_region
    go_wp2
    go_ret
    refine ⟨ret_bool ?_, 1, rfl⟩
    simp [fitsC, e1]

set_option maxHeartbeats 400000 in
theorem take1_any (i : Int) (sb off : Nat) (p : Part) (lm : Option Nat) (A : Option Addr) (cap : Nat) (w : World) (h : PartIn w sb off p lm A cap) (k : Nat) :
    Calls Tryz.prog 123 #[.int .i64 i, .pointer (some ⟨sb, off, none⟩)] w fun e w' => e = .returned (.bool (freeC k p)) ∧ w' = w := by
  obtain ⟨h1, h2, h3⟩ := h
  go_enter Tryz.func123, Tryz.ntmps123
  go_wp2
  go_ret
  refine ⟨ret_bool ?_, rfl⟩
  rw [Bool.eq_iff_iff]
  simp [freeC]

/-- The first part of which a function says so. -/
def firstP (q : Nat → Part → Bool) (l : List Part) : Option Nat := (List.range l.length).find? fun i => match l[i]? with | some p => q i p | none => false
theorem firstP_some {q : Nat → Part → Bool} {l : List Part} {k : Nat} (hk : k < l.length) (h : q k l[k] = true) (hn : ∀ j (hj : j < l.length), j < k → q j l[j] = false) : firstP q l = some k := by
  rw [firstP, List.find?_range_eq_some]
  refine ⟨by simp [hk, h], by simpa using hk, fun j hj => ?_⟩
  have : j < l.length := by omega
  simp [this, hn j this hj]
theorem firstP_none {q : Nat → Part → Bool} {l : List Part} (hn : ∀ j (hj : j < l.length), q j l[j] = false) : firstP q l = none := by
  rw [firstP, List.find?_range_eq_none]
  intro j hj
  simp [hj, hn j hj]
def firstV (o : Option Nat) : Ending := .returned (.tuple #[.int .i64 ((o.getD 0 : Nat) : Int), .bool o.isSome])

set_option maxHeartbeats 3200000 in
theorem firstM_any (q : Nat → Part → Bool) (l : List Part) (xb sb f : Nat) (cp : Array Value) (w : World) (hc : w.cell? ⟨xb, 0, none⟩ = some (.slice (some ⟨sb, 0, none⟩) l.length l.length)) (hl : l.length < 1099511627776)
    (hf : ∀ (k m : Nat) (hk : k < l.length), Calls Tryz.prog f (#[.int .i64 (k : Int), .pointer (some ⟨sb, k * 3, none⟩)] ++ cp) (w.drewN m) fun e w' => e = .returned (.bool (q k l[k])) ∧ ∃ m', w' = (w.drewN m).drewN m')
    (he : ∀ (args : Array Value) W, (callFunc f args).run Tryz.prog W = .ok (.enter f args) W) :
    Calls Tryz.prog 120 #[.pointer (some ⟨xb, 0, none⟩), .func (.func f) #[] cp] w fun e w' => e = firstV (firstP q l) ∧ ∃ m, w' = w.drewN m := by
  have HF := Lib.hid hf
  clear hf
  go_enter Tryz.func120, Tryz.ntmps120
  go_wp2_with fail
  go_loopw [6, 12] (fun _ s12 wr => ∃ k m : Nat, k ≤ l.length ∧ s12 = .int .i64 k ∧ wr = w.drewN m ∧ Hid (∀ j (hj : j < l.length), j < k → q j l[j] = false)) (fun _ s12 wr => match s12 with | .int _ m => l.length - m.toNat | _ => 0)
  case atStart => exact ⟨0, 0, Nat.zero_le _, rfl, rfl, Lib.hid (fun j hj h => absurd h (by omega))⟩
  case round =>
    obtain ⟨k, m, hk, rfl, rfl, H⟩ := hrel
    have hcm : (w.drewN m).cell? ⟨xb, 0, none⟩ = some (.slice (some ⟨sb, 0, none⟩) l.length l.length) := hc
    by_cases hlt : k < l.length
    · go_wp2_with fail
      refine (HF.out k m hlt).mono ?_
      rintro e w1 ⟨rfl, m', rfl⟩
      by_cases hq : q k l[k] = true
      · have E := Lib.hid (firstP_some hlt hq H.out)
        rw [hq]
        go_wp2
        go_ret2
        rw [E.out]
        exact ⟨rfl, m + m', by first | rfl | rw [World.drewN_drewN]⟩
      · have hq' : q k l[k] = false := by simpa using hq
        have H2 : Hid (∀ j (hj : j < l.length), j < k + 1 → q j l[j] = false) := Lib.hid fun j hj h => by
          rcases Nat.lt_succ_iff_lt_or_eq.1 h with h3 | rfl
          · exact H.out j hj h3
          · exact hq'
        rw [hq']
        clear hq hq'
        go_wp2_with fail
        go_roundw
        case rel => exact ⟨k + 1, m + m', by omega, by go_num, by first | rfl | rw [World.drewN_drewN], H2⟩
        case measure => simp; omega
    · have hkk : k = l.length := by omega
      have E := Lib.hid (firstP_none (fun j hj => H.out j hj (by omega)))
      go_wp2_with fail
      go_ret2
      rw [E.out]
      exact ⟨rfl, m, rfl⟩
end Go.Proofs.YtimdedkejadnfaaGreatDoor
