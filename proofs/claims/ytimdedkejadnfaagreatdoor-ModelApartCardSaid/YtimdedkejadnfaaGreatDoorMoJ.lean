/-
  The walks of a model's over, at, next; of none and free. No condition but sizes.
-/
import Derived.Test.YtimdedkejadnfaaGreatDoorMoI
import Derived.LaidEqlPtr
namespace Go.Proofs.YtimdedkejadnfaaGreatDoor
open Go.RowKit Go.Colm Go.Maps
set_option linter.unusedVariables false
set_option linter.unusedSimpArgs false
set_option linter.unusedSectionVars false

theorem Has.ent {L : Lay} {M : Mod} {w : World} (h : Has L M w) {i : Nat} {d : Ent} (hi : M.etab[i]? = some d) : Whole w (L.eb i) 95 (entC L i d) := h.comp (.ent i) d hi
theorem Has.node {L : Lay} {M : Mod} {w : World} (h : Has L M w) {i : Nat} {d : Nod} (hi : M.ntab[i]? = some d) : Whole w (L.nb i) 78 (nodC L d) := h.comp (.node i) d hi
theorem Has.xw {L : Lay} {M : Mod} {w : World} (h : Has L M w) : Whole w L.xb 65 (modC L M) := h.comp .x
theorem Has.ring {L : Lay} {M : Mod} {w : World} (h : Has L M w) : w.ownsRow 0 63 1 L.rv M.ring.length (M.ring.map fun i => ptrE L (some i)) := h.comp .ring
theorem Has.drewN {L : Lay} {M : Mod} {w : World} (h : Has L M w) (m : Nat) : Has L M (w.drewN m) := h.below (below_of_drewN w m)

set_option maxHeartbeats 400000 in
theorem none_any (L : Lay) (M : Mod) (w : World) (h : Has L M w) : Calls Tryz.prog 32 #[.pointer (some ⟨L.xb, 0, none⟩)] w fun e w' => e = .returned (.bool false) ∧ w' = w := by
  have c1 : w.cell? ⟨L.xb, 1, none⟩ = some (.map (some L.nm)) := h.xcell 1
  clear h
  have hq : ∀ (w : World) (r : Option Nat), (binOp .eql 60 (.map r) (.map none)).run Tryz.prog w = .ok (.bool r.isNone) w := fun w r => run_eql_map_nil w 60 9 72 r Tryz.underlying60
  go_enter Tryz.func32, Tryz.ntmps32
  go_wp2
  go_ret
  exact ⟨rfl, rfl⟩
def freeE (M : Mod) : Int := if 0 < M.lent then 10 else 0
set_option maxHeartbeats 400000 in
theorem free_any (L : Lay) (M : Mod) (w : World) (h : Has L M w) : Calls Tryz.prog 18 #[.pointer (some ⟨L.xb, 0, none⟩)] w fun e w' => e = .returned (.int .i64 (freeE M)) ∧ w' = w := by
  have c9 : w.cell? ⟨L.xb, 9, none⟩ = some (.int .i64 (M.lent : Int)) := h.xcell 9
  have H := Lib.hid h
  clear h
  go_enter Tryz.func18, Tryz.ntmps18
  go_wp2_with fail
  refine (none_any L M w H.out).mono ?_
  rintro e w1 ⟨rfl, rfl⟩
  by_cases h0 : 0 < M.lent
  · go_wp2
    go_ret
    refine ⟨ret_int ?_, rfl⟩
    rw [freeE, if_pos h0]
  · go_wp2
    go_ret
    refine ⟨ret_int ?_, rfl⟩
    rw [freeE, if_neg h0]

def overB (M : Mod) (d : Ent) : Bool := decide (d.fin ≠ 0 ∧ d.fin ≤ M.now)
set_option maxHeartbeats 1600000 in
theorem overM_any (L : Lay) (M : Mod) (w : World) (i : Nat) (d : Ent) (h : Has L M w) (hi : M.etab[i]? = some d) :
    Calls Tryz.prog 63 #[.pointer (some ⟨L.xb, 0, none⟩), ptrE L (some i)] w fun e w' => e = .returned (.bool (overB M d)) ∧ ∃ m, w' = w.drewN m := by
  have c5 : w.cell? ⟨L.xb, 5, none⟩ = some (.int .u64 (M.now : Int)) := h.xcell 5
  have c6 : w.cell? ⟨L.eb i, 6, none⟩ = some (.int .u64 (d.fin : Int)) := (h.ent hi).cell 6
  have hc := over_any M.now d.fin
  have HC := Lib.hid hc
  clear h hc
  unfold ptrE
  go_enter Tryz.func63, Tryz.ntmps63
  go_wp2_with fail
  go_quiet ((go_at_call 116; exact Calls.quiet_of_same (HC.out _)))
  go_wp2
  go_ret
  refine ⟨rfl, ?_⟩
  first | exact ⟨1, rfl⟩ | exact ⟨_, rfl⟩

/-- Where an entry stands among others; -1: nowhere. -/
def ixOf (i : Nat) (l : List Nat) : Int := if i ∈ l then ((l.idxOf i : Nat) : Int) else -1
theorem ixOf_at {i : Nat} {l : List Nat} {k : Nat} (hk : k < l.length) (h : l[k] = i) (hn : ∀ j (hj : j < l.length), j < k → l[j] ≠ i) : ixOf i l = (k : Int) := by
  have hm : i ∈ l := h ▸ List.getElem_mem hk
  rw [ixOf, if_pos hm]
  have : l.idxOf i = k := by
    rw [List.idxOf, List.findIdx_eq hk]
    refine ⟨by simpa using h, fun j hj => ?_⟩
    simpa using hn j (by omega) hj
  rw [this]
theorem ixOf_none {i : Nat} {l : List Nat} (hn : ∀ j (hj : j < l.length), l[j] ≠ i) : ixOf i l = -1 := by
  rw [ixOf, if_neg]
  intro hm
  obtain ⟨j, hj, e⟩ := List.getElem_of_mem hm
  exact hn j hj e

theorem ptr_info : (Tryz.prog.info? 95).map (fun i => i.size) = some 8 := by kernel_rfl
theorem eqE {L : Lay} {M : Mod} {w : World} (h : Has L M w) {i j : Nat} {d e : Ent} (hi : M.etab[i]? = some d) (hj : M.etab[j]? = some e) :
    (binOp .eql 63 (.pointer (some ⟨L.eb i, 0, none⟩)) (.pointer (some ⟨L.eb j, 0, none⟩))).run Tryz.prog w = .ok (.bool (decide (i = j))) w := by
  obtain ⟨i0, hi0, hz⟩ := Option.map_eq_some_iff.1 ptr_info
  by_cases he : i = j
  · subst he
    rw [run_eql_ptr_same w _ Tryz.underlying63 hi0]
    simp
  · have hne : (⟨L.eb i, 0, none⟩ : Addr) ≠ ⟨L.eb j, 0, none⟩ := fun e1 => he (by
      have h1 := h.roles.ent i (List.getElem?_eq_some_iff.1 hi).1
      have h2 := h.roles.ent j (List.getElem?_eq_some_iff.1 hj).1
      have e2 : L.eb i = L.eb j := by simpa using e1
      rw [e2, h2] at h1
      simpa using h1.symm)
    rw [run_eql_ptr_other w Tryz.underlying63 hi0 (by omega) hne (h.ent hi) (h.ent hj)]
    simp [he]

set_option maxHeartbeats 1600000 in
theorem index_any (L : Lay) (M : Mod) (w : World) (i : Nat) (d : Ent) (h : Has L M w) (hi : M.etab[i]? = some d) (hr : ∀ j ∈ M.ring, j < M.etab.length) (hl : M.ring.length < 1099511627776) :
    Calls Tryz.prog 175 #[L.rv, ptrE L (some i)] w fun e w' => e = .returned (.int .i64 (ixOf i M.ring)) ∧ w' = w := by
  obtain ⟨A, c, erv, hrow⟩ := own_row h.ring
  have H := Lib.hid h
  have HR := Lib.hid hrow
  rw [erv]
  clear h hrow
  unfold ptrE
  go_enter Tryz.func175, Tryz.ntmps175
  go_wp2_with fail
  go_loop [5, 8] (fun _ s8 => ∃ k : Nat, k ≤ M.ring.length ∧ s8 = .int .i64 k ∧ Hid (∀ j (hj : j < M.ring.length), j < k → M.ring[j] ≠ i)) (fun _ s8 => match s8 with | .int _ m => M.ring.length - m.toNat | _ => 0)
  case atStart => exact ⟨0, Nat.zero_le _, rfl, Lib.hid (fun j hj h => absurd h (by omega))⟩
  case round =>
    obtain ⟨k, hk, rfl, HN⟩ := hrel
    by_cases hlt : k < M.ring.length
    · obtain ⟨b, off, rfl, hc⟩ := HR.out k (ptrE L (some M.ring[k])) (by simp [hlt])
      have hlk := hr M.ring[k] (List.getElem_mem hlt)
      have heq := eqE H.out hi (j := M.ring[k]) (e := M.etab[M.ring[k]]) (by simp [hlk])
      simp only [ptrE, Option.map_some] at hc
      by_cases he : i = M.ring[k]
      · have E := Lib.hid (ixOf_at hlt he.symm HN.out)
        rw [decide_eq_true he] at heq
        clear he
        go_wp2
        go_ret
        exact ⟨ret_int E.out.symm, rfl⟩
      · have HN2 : Hid (∀ j (hj : j < M.ring.length), j < k + 1 → M.ring[j] ≠ i) := Lib.hid fun j hj h => by
          rcases Nat.lt_succ_iff_lt_or_eq.1 h with h3 | rfl
          · exact HN.out j hj h3
          · exact fun e => he e.symm
        rw [decide_eq_false he] at heq
        clear he
        go_wp2_with fail
        go_round
        case rel => exact ⟨k + 1, by omega, by go_num, HN2⟩
        case measure => simp; omega
    · have E := Lib.hid (ixOf_none (i := i) fun j hj => HN.out j hj (by omega))
      go_wp2
      go_ret
      exact ⟨ret_int E.out.symm, rfl⟩

set_option maxHeartbeats 800000 in
theorem at_any (L : Lay) (M : Mod) (w : World) (i : Nat) (d : Ent) (h : Has L M w) (hi : M.etab[i]? = some d) (hr : ∀ j ∈ M.ring, j < M.etab.length) (hl : M.ring.length < 1099511627776) :
    Calls Tryz.prog 117 #[.pointer (some ⟨L.xb, 0, none⟩), ptrE L (some i)] w fun e w' => e = .returned (.int .i64 (ixOf i M.ring)) ∧ w' = w := by
  have c3 : w.cell? ⟨L.xb, 3, none⟩ = some L.rv := h.xcell 3
  have hc := index_any L M w i d h hi hr hl
  have HC := Lib.hid hc
  clear h hc
  unfold ptrE at HC ⊢
  go_enter Tryz.func117, Tryz.ntmps117
  go_wp2_with fail
  refine HC.out.mono ?_
  rintro e w1 ⟨rfl, rfl⟩
  go_wp2
  go_ret
  exact ⟨rfl, rfl⟩
end Go.Proofs.YtimdedkejadnfaaGreatDoor
