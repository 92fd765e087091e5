/-
  The walks of layer script's number and code: digits' numbers. Fewer than 2^47 bytes; strconv's two errors hold some value, the tables lie there.
-/
import Derived.Test.YtifmgmiaeoiidaaGreatDoorScrN
import Derived.Test.YtifmgmiaeoiidaaGreatDoorScrF
import Derived.Test.YtifmgmiaeoiidaaGreatDoorPus
import Derived.Test.YtifmgmiaeoiidaaGreatDoorAto
namespace Go.Scrp
/-- What ParseUint gives; a number's digits, at most so great. -/
def numV (s : List UInt8) : Nat := match Lib.parseUintB 64 s with | .ok u => u | .range => 18446744073709551615 | _ => 0
def numL (s : List UInt8) (most : Nat) : Option Nat := match Lib.parseUintB 64 s with | .ok u => if u ≤ most ∧ Lib.decDigits u = s then some u else none | _ => none
theorem num_v {s : List UInt8} {most u : Nat} (h : numL s most = some u) : numV s = u ∧ u ≤ most ∧ Lib.decDigits u = s := by
  unfold numL at h
  unfold numV
  split at h
  · rename_i v e
    split at h
    · rename_i hc
      cases h
      rw [e]
      exact ⟨rfl, hc⟩
    · cases h
  · cases h
/-- What Atoi gives; a number's digits, with a - ahead or not. -/
def codeV (s : List UInt8) : Int := match Lib.atoiAll s with | .ok v => v | .range => Lib.atoiSat s | _ => 0
def codeL (s : List UInt8) : Option Int := match Lib.atoiAll s with | .ok v => if Lib.itoa v = s then some v else none | _ => none
theorem code_v {s : List UInt8} {v : Int} (h : codeL s = some v) : codeV s = v ∧ (-9223372036854775808 ≤ v ∧ v ≤ 9223372036854775807) ∧ Lib.itoa v = s := by
  unfold codeL at h
  unfold codeV
  split at h
  · rename_i u e
    split at h
    · rename_i hc
      cases h
      rw [e]
      exact ⟨rfl, Lib.atoiAll_bounds e, hc⟩
    · cases h
  · cases h
end Go.Scrp
namespace Go.Proofs.YtifmgmiaeoiidaaGreatDoor
open Go.RowKit Go.Colm Go.Scrp
set_option linter.unusedVariables false

/-- What the package's variables hold: the table of powers of ten, a number, two errors. -/
structure Env (w : World) : Prop where
  tabs : Tabs w
  maxl : MaxL w
  es : ∃ ev, w.cell? ⟨4, 0, none⟩ = some ev ∧ (ev = .nilIface ∨ ∃ te pe, ev = .iface te pe)
  er : ∃ ev, w.cell? ⟨5, 0, none⟩ = some ev ∧ (ev = .nilIface ∨ ∃ te pe, ev = .iface te pe)
theorem Env.below {w w' : World} (h : Env w) (hb : Below w.heap.size w w') : Env w' := by
  obtain ⟨ev, h1, h2⟩ := h.es
  obtain ⟨ev', h3, h4⟩ := h.er
  exact ⟨h.tabs.below hb, h.maxl.below hb, ⟨ev, (hb.cell (p := ⟨4, 0, none⟩) (lt_of_cell h1)).trans h1, h2⟩, ⟨ev', (hb.cell (p := ⟨5, 0, none⟩) (lt_of_cell h3)).trans h3, h4⟩⟩
def EnvB (B : Nat) (w : World) : Prop := ∀ w', Below B w w' → Env w'
theorem EnvB.of {w : World} (h : Env w) : EnvB w.heap.size w := fun w' hb => h.below hb
theorem EnvB.on {B : Nat} {w w' : World} (h : EnvB B w) (hb : Below B w w') : EnvB B w' := fun w2 h2 => h w2 (hb.trans h2)
theorem EnvB.here {B : Nat} {w : World} (h : EnvB B w) : Env w := h w (Below.refl _ _)

theorem str_beq2 (s t : List UInt8) : ((ByteArray.mk s.toArray).toList == t) = decide (s = t) := by
  by_cases h : s = t <;> simp [ByteArray.toList_mk, h]
/-- An error's value: none, or some. -/
def errV (no : Bool) (v : Value) : Prop := if no then v = .nilIface else ∃ t p, v = .iface t p
theorem pu_any (s : List UInt8) (w : World) (E : Env w) (hs : s.length ≤ 140737488355328) :
    Calls Tryz.prog 98 #[.string ⟨s.toArray⟩, .int .i64 10, .int .i64 64] w fun e w' => ∃ ev, e = .returned (.tuple #[.int .u64 (numV s : Nat), ev]) ∧ errV (match Lib.parseUintB 64 s with | .ok _ => true | _ => false) ev ∧ Below w.heap.size w w' := by
  have hd : (ByteArray.mk s.toArray).data.toList = s := by simp
  have hz := str_size s
  obtain ⟨ev1, e1, e2⟩ := E.es
  obtain ⟨ev2, e3, e4⟩ := E.er
  unfold numV
  cases h : Lib.parseUintB 64 s with
  | ok u =>
    refine (Any.strconv_ParseUint_10_at64_ok pusLays ⟨s.toArray⟩ (by omega) u (by rw [hd]; exact h) w).mono ?_
    rintro e w' ⟨rfl, hw⟩
    refine ⟨_, rfl, rfl, ?_⟩
    rcases hw with rfl | rfl
    · exact Below.refl _ _
    · exact below_bytesWorld _ _ _
  | range =>
    refine (Any.strconv_ParseUint_10_at64_range pusLays ⟨s.toArray⟩ (by omega) (by rw [hd]; exact h) ev2 w e3 e4).mono ?_
    rintro e w' ⟨N, rfl, _, _, hb⟩
    exact ⟨_, rfl, ⟨_, _, rfl⟩, hb⟩
  | _ =>
    refine (Any.strconv_ParseUint_10_at64_syntax pusLays ⟨s.toArray⟩ (by omega) (by rw [hd]; exact h) ev1 w e1 e2).mono ?_
    rintro e w' ⟨N, rfl, _, _, hb⟩
    exact ⟨_, rfl, ⟨_, _, rfl⟩, hb⟩
theorem at_any (s : List UInt8) (w : World) (E : Env w) (hs : s.length ≤ 140737488355328) :
    Calls Tryz.prog 108 #[.string ⟨s.toArray⟩] w fun e w' => ∃ ev, e = .returned (.tuple #[.int .i64 (codeV s), ev]) ∧ errV (match Lib.atoiAll s with | .ok _ => true | _ => false) ev ∧ Below w.heap.size w w' := by
  have hd : (ByteArray.mk s.toArray).data.toList = s := by simp
  have hz := str_size s
  obtain ⟨ev1, e1, e2⟩ := E.es
  obtain ⟨ev2, e3, e4⟩ := E.er
  unfold codeV
  cases h : Lib.atoiAll s with
  | ok u =>
    refine (Any.strconv_Atoi_ok atoLays ⟨s.toArray⟩ (by omega) u (by rw [hd]; exact h) w).mono ?_
    rintro e w' ⟨rfl, hw⟩
    refine ⟨_, rfl, rfl, ?_⟩
    rcases hw with rfl | ⟨t, rfl⟩
    · exact Below.refl _ _
    · exact below_bytesWorld _ _ _
  | range =>
    refine (Any.strconv_Atoi_range atoLays ⟨s.toArray⟩ (by omega) (by rw [hd]; exact h) ev2 w e3 e4).mono ?_
    rintro e w' ⟨N, rfl, _, _, hb⟩
    rw [hd]
    exact ⟨_, rfl, ⟨_, _, rfl⟩, hb⟩
  | _ =>
    refine (Any.strconv_Atoi_syntax atoLays ⟨s.toArray⟩ (by omega) (by rw [hd]; exact h) ev1 w e1 e2).mono ?_
    rintro e w' ⟨N, rfl, _, _, hb⟩
    exact ⟨_, rfl, ⟨_, _, rfl⟩, hb⟩

set_option maxRecDepth 100000 in
set_option maxHeartbeats 4000000 in
theorem number_any (s : List UInt8) (most : Nat) (w : World) (E : Env w) (hs : s.length ≤ 140737488355328) :
    Calls Tryz.prog 77 #[.string ⟨s.toArray⟩, .int .u64 (most : Int)] w fun e w' => e = .returned (.tuple #[.int .u64 (numV s : Nat), .bool (numL s most).isSome]) ∧ Below w.heap.size w w' := by
  have HP := Lib.hid (pu_any s w E hs)
  have HE := Lib.hid E
  obtain ⟨nv, hnv⟩ : ∃ x, x = numV s := ⟨_, rfl⟩
  obtain ⟨ol, hol⟩ : ∃ x, x = (numL s most).isSome := ⟨_, rfl⟩
  rw [← hol, ← hnv]
  rw [← hnv] at HP
  cases hr : Lib.parseUintB 64 s with
  | ok u =>
    have hu : u < 18446744073709551616 := by
      have := Lib.parseUintB_le hr
      omega
    have hun : nv = u := by rw [hnv, numV, hr]
    subst hun
    have hnl : numL s most = if nv ≤ most ∧ Lib.decDigits nv = s then some nv else none := by rw [numL, hr]
    have HUNS := Lib.hid fun W E' => unsigned_any nv hu W E'
    have heq := str_beq2 (Lib.decDigits nv) s
    have HEQ := Lib.hid heq
    rw [hr] at HP
    by_cases hm : nv ≤ most
    · have t1 : (nv : Int) ≤ (most : Int) := by omega
      have HO : Hid (ol = decide (Lib.decDigits nv = s)) := Lib.hid (by
        rw [hol, hnl]
        by_cases hd : Lib.decDigits nv = s
        · rw [if_pos ⟨hm, hd⟩, decide_eq_true hd]; rfl
        · rw [if_neg (fun h => hd h.2), decide_eq_false hd]; rfl)
      obtain ⟨ds, hds⟩ : ∃ x : ByteArray, x = ⟨(Lib.decDigits nv).toArray⟩ := ⟨_, rfl⟩
      simp only [← hds] at HUNS
      rw [← hds] at HEQ
      clear hr hnl hnv hol E heq hds
      go_enter Tryz.func77, Tryz.ntmps77
      go_wp2_with fail
      refine HP.out.mono ?_
      rintro e w2 ⟨ev, rfl, hev, hb2⟩
      have hev : ev = .nilIface := hev
      subst hev
      have HE2 := Lib.hid (HE.out.below hb2)
      go_wp2_with fail
      refine (HUNS.out _ HE2.out.tabs).mono ?_
      rintro e w3 ⟨rfl, hb3⟩
      have HB := Lib.hid (below_chain hb2 hb3)
      have hq := HEQ.out
      rw [← HO.out] at hq
      clear hb2 hb3
      go_wp2_with fail
      go_ret2
      exact ⟨rfl, HB.out⟩
    · have t1 : ¬ (nv : Int) ≤ (most : Int) := by omega
      have HO : Hid (ol = false) := Lib.hid (by
        rw [hol, hnl, if_neg (fun h => hm h.1)]; rfl)
      clear hr hnl hnv hol E heq
      go_enter Tryz.func77, Tryz.ntmps77
      go_wp2_with fail
      refine HP.out.mono ?_
      rintro e w2 ⟨ev, rfl, hev, hb2⟩
      have hev : ev = .nilIface := hev
      subst hev
      have HB := Lib.hid hb2
      clear hb2
      go_wp2_with fail
      go_ret2
      exact ⟨by rw [HO.out]; rfl, HB.out⟩
  | _ =>
    have HO : Hid (ol = false) := Lib.hid (by rw [hol, numL, hr]; rfl)
    rw [hr] at HP
    clear hr hnv hol E
    go_enter Tryz.func77, Tryz.ntmps77
    go_wp2_with fail
    refine HP.out.mono ?_
    rintro e w2 ⟨ev, rfl, hev, hb2⟩
    obtain ⟨t, p, rfl⟩ : ∃ t p, ev = .iface t p := hev
    have HB := Lib.hid hb2
    clear hb2
    go_wp2_with fail
    go_ret2
    exact ⟨by rw [HO.out]; rfl, HB.out⟩

set_option maxRecDepth 100000 in
set_option maxHeartbeats 4000000 in
theorem code_any (s : List UInt8) (w : World) (E : Env w) (hs : s.length ≤ 140737488355328) :
    Calls Tryz.prog 97 #[.string ⟨s.toArray⟩] w fun e w' => e = .returned (.tuple #[.int .i64 (codeV s), .bool (codeL s).isSome]) ∧ Below w.heap.size w w' := by
  have HP := Lib.hid (at_any s w E hs)
  have HE := Lib.hid E
  obtain ⟨nv, hnv⟩ : ∃ x, x = codeV s := ⟨_, rfl⟩
  obtain ⟨ol, hol⟩ : ∃ x, x = (codeL s).isSome := ⟨_, rfl⟩
  rw [← hol, ← hnv]
  rw [← hnv] at HP
  cases hr : Lib.atoiAll s with
  | ok u =>
    have hu := Lib.atoiAll_bounds hr
    have hun : nv = u := by rw [hnv, codeV, hr]
    subst hun
    have hnl : codeL s = if Lib.itoa nv = s then some nv else none := by rw [codeL, hr]
    have HUNS := Lib.hid fun W E' => itoa_any nv hu.1 hu.2 W E'
    have heq := str_beq2 (Lib.itoa nv) s
    have HEQ := Lib.hid heq
    rw [hr] at HP
    have HO : Hid (ol = decide (Lib.itoa nv = s)) := Lib.hid (by
      rw [hol, hnl]
      by_cases hd : Lib.itoa nv = s
      · rw [if_pos hd, decide_eq_true hd]; rfl
      · rw [if_neg hd, decide_eq_false hd]; rfl)
    obtain ⟨ds, hds⟩ : ∃ x : ByteArray, x = ⟨(Lib.itoa nv).toArray⟩ := ⟨_, rfl⟩
    simp only [← hds] at HUNS
    rw [← hds] at HEQ
    clear hr hnl hnv hol E heq hds
    go_enter Tryz.func97, Tryz.ntmps97
    go_wp2_with fail
    refine HP.out.mono ?_
    rintro e w2 ⟨ev, rfl, hev, hb2⟩
    have hev : ev = .nilIface := hev
    subst hev
    have HE2 := Lib.hid (HE.out.below hb2)
    go_wp2_with fail
    refine (HUNS.out _ HE2.out.tabs).mono ?_
    rintro e w3 ⟨rfl, hb3⟩
    have HB := Lib.hid (below_chain hb2 hb3)
    have hq := HEQ.out
    rw [← HO.out] at hq
    clear hb2 hb3
    go_wp2_with fail
    go_ret2
    exact ⟨rfl, HB.out⟩
  | _ =>
    have HO : Hid (ol = false) := Lib.hid (by rw [hol, codeL, hr]; rfl)
    rw [hr] at HP
    clear hr hnv hol E
    go_enter Tryz.func97, Tryz.ntmps97
    go_wp2_with fail
    refine HP.out.mono ?_
    rintro e w2 ⟨ev, rfl, hev, hb2⟩
    obtain ⟨t, p, rfl⟩ : ∃ t p, ev = .iface t p := hev
    have HB := Lib.hid hb2
    clear hb2
    go_wp2_with fail
    go_ret2
    exact ⟨by rw [HO.out]; rfl, HB.out⟩
end Go.Proofs.YtifmgmiaeoiidaaGreatDoor
