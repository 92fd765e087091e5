/-
  Words for the walk of layer script's reader: the reader, steps that were read, in memory; over and fail. No condition.
-/
import Derived.Test.YtifmgmiaeoiidaaGreatDoorScrJ
import Derived.Test.YtifmgmiaeoiidaaGreatDoorRpt
namespace Go.Scrp
open Go.RowKit Go.Colm
set_option linter.unusedVariables false
/-- The cells of a row of steps. -/
def OpdsV (N : Nat → Prop) (w : World) : List Opd → List Value → Prop
  | [], vs => vs = []
  | .mk h sub :: r, vs => ∃ RA rc SA sc ys, vs = .int .i64 h.kind :: .string ⟨h.name.toArray⟩ :: .int .u16 (h.typ : Int) :: .slice RA h.recs.length rc :: .int .u64 (h.life : Int) :: .int .u64 (h.n : Int) :: .slice SA sub.length sc :: .int .i64 h.how :: .int .i64 h.code :: ys ∧
      h.Ok ∧ (h.recs.length ≤ rc ∧ rc ≤ maxLen) ∧ (sub.length ≤ sc ∧ sc ≤ maxLen) ∧ RecsAt N w RA h.recs ∧ OpdsAt N w SA 0 sub ∧ OpdsV N w r ys
theorem OpdsV.turn {N N' : Nat → Prop} {w w' : World} (hk : Turn N N' w w') : ∀ {l : List Opd} {vs : List Value}, OpdsV N w l vs → OpdsV N' w' l vs
  | [], _, h => h
  | .mk h sub :: r, _, ⟨RA, rc, SA, sc, ys, e, h0, h1, h2, h3, h4, h5⟩ => ⟨RA, rc, SA, sc, ys, e, h0, h1, h2, h3.turn hk, OpdsAt.turn hk SA 0 sub h4, OpdsV.turn hk h5⟩
theorem OpdsV.snoc {N : Nat → Prop} {w : World} {h : Hd} {sub : List Opd} {RA SA : Option Addr} {rc sc : Nat} (h0 : h.Ok) (h1 : h.recs.length ≤ rc ∧ rc ≤ maxLen) (h2 : sub.length ≤ sc ∧ sc ≤ maxLen) (h3 : RecsAt N w RA h.recs) (h4 : OpdsAt N w SA 0 sub) :
    ∀ {l : List Opd} {vs : List Value}, OpdsV N w l vs → OpdsV N w (l ++ [.mk h sub]) (vs ++ [.int .i64 h.kind, .string ⟨h.name.toArray⟩, .int .u16 (h.typ : Int), .slice RA h.recs.length rc, .int .u64 (h.life : Int), .int .u64 (h.n : Int), .slice SA sub.length sc, .int .i64 h.how, .int .i64 h.code])
  | [], _, g => by
    have g : _ = [] := g
    subst g
    exact ⟨RA, rc, SA, sc, [], rfl, h0, h1, h2, h3, h4, rfl⟩
  | .mk h' sub' :: r, _, ⟨RA', rc', SA', sc', ys, e, g0, g1, g2, g3, g4, g5⟩ => by
    subst e
    exact ⟨RA', rc', SA', sc', _, rfl, g0, g1, g2, g3, g4, OpdsV.snoc h0 h1 h2 h3 h4 g5⟩
theorem OpdsV.length {N : Nat → Prop} {w : World} : ∀ {l : List Opd} {vs : List Value}, OpdsV N w l vs → vs.length = l.length * 9
  | [], _, h => by
    have h : _ = [] := h
    subst h
    rfl
  | .mk h sub :: r, _, ⟨RA, rc, SA, sc, ys, e, h0, h1, h2, h3, h4, h5⟩ => by
    subst e
    have := OpdsV.length h5
    simp only [List.length_cons]
    omega
theorem OpdsV.at {N : Nat → Prop} {w : World} {g : Nat} (hg : N g) : ∀ {l : List Opd} {vs : List Value} {i : Nat}, (∀ j v, vs[j]? = some v → w.cell? ⟨g, 0 + i * 9 + j, none⟩ = some v) → OpdsV N w l vs → OpdsAt N w (some ⟨g, 0, none⟩) i l
  | [], _, _, _, _ => opdsAt_nil
  | .mk h sub :: r, _, i, hc, ⟨RA, rc, SA, sc, ys, e, h0, h1, h2, h3, h4, h5⟩ => by
    subst e
    refine opdsAt_cons.2 ⟨⟨g, 0, rfl, opdAt_mk.2 ⟨h0, hg, hc 0 _ rfl, hc 1 _ rfl, hc 2 _ rfl, ⟨RA, rc, hc 3 _ rfl, h1, h3⟩, hc 4 _ rfl, hc 5 _ rfl, ⟨SA, sc, hc 6 _ rfl, h2, h4⟩, hc 7 _ rfl, hc 8 _ rfl⟩⟩, OpdsV.at hg (fun j v hv => ?_) h5⟩
    have := hc (9 + j) v (by rw [← hv]; simp [Nat.add_comm 9 j, List.getElem?_cons_succ])
    rw [← this]
    congr 2
    omega
end Go.Scrp
namespace Go.Proofs.YtifmgmiaeoiidaaGreatDoor
open Go.RowKit Go.Colm Go.Scrp
set_option linter.unusedVariables false

theorem op_info : (Tryz.prog.info? 48).map (fun i => (i.zero, i.size, i.bytes)) = some (some (.agg #[.int .i64 0, .string ByteArray.empty, .int .u16 0, .slice none 0 0, .int .u64 0, .int .u64 0, .slice none 0 0, .int .i64 0, .int .i64 0]), 9, 112) := by kernel_rfl
theorem own_opds {w : World} {base : Nat} {v : Value} {n : Nat} {vs : List Value} {l : List Opd} (h : w.ownsRow base 48 9 v n vs) (hl : n = l.length) (hv : OpdsV (fun j => base ≤ j ∧ v.ownBlock ≠ some j) w l vs) :
    ∃ A c, v = .slice A n c ∧ (n ≤ c ∧ c ≤ maxLen) ∧ OpdsAt (fun j => base ≤ j) w A 0 l := by
  subst hl
  rcases h.2 with ⟨rfl, h0⟩ | ⟨g, cap, cur, rfl, hbg, hg, hnc, hcm, hcs, htake⟩
  · have : l = [] := List.eq_nil_of_length_eq_zero h0
    subst this
    exact ⟨none, 0, rfl, by unfold maxLen; simp, opdsAt_nil⟩
  · refine ⟨_, _, rfl, ⟨hnc, hcm⟩, OpdsV.at (N := fun j => base ≤ j) hbg (fun j v hv => ?_) (hv.turn fun b off u hb hc => ⟨hb.1, hc⟩)⟩
    have := h.cells (g := g) rfl j v hv
    rw [show 0 + 0 * 9 + j = j by omega]
    simpa [Addr.add_lit] using this
abbrev rdV (LA : Option Addr) (n c k b : Nat) : Array Value := #[.slice LA n c, .int .i64 (k : Int), .int .i64 (b : Int)]

set_option maxRecDepth 100000 in
theorem over_any (rb : Nat) (LA : Option Addr) (n c k b : Nat) (w : World) (h : Whole w rb 78 (rdV LA n c k b)) :
    Calls Tryz.prog 51 #[.pointer (some ⟨rb, 0, none⟩)] w fun e w' => e = .returned (.bool (decide (k = n))) ∧ ∃ m, w' = w.drewN m := by
  have c0 := h.cell 0
  have c1 := h.cell 1
  have HH := Lib.hid h
  clear h
  by_cases hk : k = n
  · have t : ((k : Int) == (n : Int)) = true := by rw [beq_iff_eq]; omega
    have HK := Lib.hid hk
    clear hk
    go_enter Tryz.func51, Tryz.ntmps51
    go_wp2_with fail
    go_quiet (fail)
    go_wp2_with fail
    go_ret
    exact ⟨ret_bool (decide_eq_true HK.out).symm, _, rfl⟩
  · have t : ((k : Int) == (n : Int)) = false := by rw [beq_eq_false_iff_ne]; omega
    have HK := Lib.hid hk
    clear hk
    go_enter Tryz.func51, Tryz.ntmps51
    go_wp2_with fail
    go_quiet (fail)
    go_wp2_with fail
    go_ret
    exact ⟨ret_bool (decide_eq_false HK.out).symm, _, rfl⟩

set_option maxRecDepth 100000 in
theorem fail_any (rb : Nat) (LA : Option Addr) (n c k : Nat) (w : World) (h : Whole w rb 78 (rdV LA n c k 0)) (hk : k ≤ 9223372036854775806) :
    Calls Tryz.prog 52 #[.pointer (some ⟨rb, 0, none⟩)] w fun e w' => e = .returned (.tuple #[]) ∧ Whole w' rb 78 (rdV LA n c k (k + 1)) ∧ Kept (fun j => j = rb) w w' := by
  have c1 := h.cell 1
  have c2 := h.cell 2
  have f2 := h.frozen 2
  have HH := Lib.hid (h.put 2 (.int .i64 ((k : Int) + 1)))
  have HK : Hid (Kept (fun j => j = rb) w (w.setCell ⟨rb, 2, none⟩ (.int .i64 ((k : Int) + 1)))) := Lib.hid ((Kept.refl (fun j => j = rb) w).setCell (p := ⟨rb, 2, none⟩) (.inl rfl) _)
  clear h
  go_enter Tryz.func52, Tryz.ntmps52
  go_wp2_with fail
  go_end0
  exact ⟨rfl, HH.out, HK.out⟩
end Go.Proofs.YtifmgmiaeoiidaaGreatDoor
