/-
  The walks of a model's known and have. No condition but sizes.
-/
import Derived.Test.YtimdedkejadnfaaGreatDoorMoO
import Derived.Test.YtimdedkejadnfaaGreatDoorMoS
namespace Go.Proofs.YtimdedkejadnfaaGreatDoor
open Go.RowKit Go.Foldp Go.Colm Go.Wirep Go.Maps
set_option linter.unusedVariables false
set_option linter.unusedSimpArgs false
set_option linter.unusedSectionVars false

/-- The node of the longest suffix that is there, and how many labels aren't, counted from i on. -/
def knownF (M : Mod) : List (List UInt8) → Nat → Option Nat × Nat
  | [], i => (none, i)
  | x :: r, i => match getA (textL (x :: r)).1 M.nodes with
    | some n => (some n, i)
    | none => knownF M r (i + 1)
theorem look_nodes {L : Lay} {M : Mod} {w : World} (h : Has L M w) {k : List UInt8} (hk : k.length ≤ 100000) :
    (getA k M.nodes = none ∧ ∀ W, Below w.heap.size w W → (Instr.lookup 60 (.map (some L.nm)) (strV k) true).run Tryz.prog W = .ok (.tuple #[.pointer none, .bool false]) W) ∨
    ∃ i, getA k M.nodes = some i ∧ ∀ W, Below w.heap.size w W → (Instr.lookup 60 (.map (some L.nm)) (strV k) true).run Tryz.prog W = .ok (.tuple #[ptrN L (some i), .bool true]) W := by
  have hz := str_key hk
  have hom : OwnL w Tryz.prog 9 L.nm (nodesV L M.nodes) := h.comp .nm
  rcases hg : getA k M.nodes with _ | i
  · refine .inl ⟨rfl, fun W hW => ?_⟩
    rcases (hom.below hW).look true (string_keyed Tryz.underlying9) Tryz.underlying60 (Tryz.zeroValue72 W) hz with ⟨_, hrun⟩ | ⟨j, v, hj, _⟩
    · exact hrun
    · obtain ⟨v', h1, _⟩ := look_some (ek := strV) (ev := fun j => ptrN L (some j)) strV_inj (k := k) hom.apart hj
      rw [hg] at h1
      cases h1
  · refine .inr ⟨i, rfl, fun W hW => ?_⟩
    rcases (hom.below hW).look true (string_keyed Tryz.underlying9) Tryz.underlying60 (Tryz.zeroValue72 W) hz with ⟨hn, _⟩ | ⟨j, v, hj, hrun⟩
    · have := look_none (ek := strV) (ev := fun j => ptrN L (some j)) strV_inj (k := k) hn
      rw [hg] at this
      cases this
    · obtain ⟨v', h1, h2⟩ := look_some (ek := strV) (ev := fun j => ptrN L (some j)) strV_inj (k := k) hom.apart hj
      rw [hg] at h1
      cases h1
      rw [h2] at hrun
      exact hrun
theorem wireL_drop (l : List (List UInt8)) (k : Nat) : wireL (l.drop k) ≤ wireL l := by
  induction l generalizing k with
  | nil => simp
  | cons x r ih =>
    rcases k with _ | k
    · simp
    · have := ih k
      simp only [List.drop_succ_cons, wireL]
      omega

set_option maxRecDepth 100000 in
set_option maxHeartbeats 6400000 in
theorem known_any (L : Lay) (M : Mod) (w : World) (ls : List (List UInt8)) (A : Option Addr) (c : Nat) (h : Has L M w) (hr : RowV w A (labV ls)) (hcap : ls.length ≤ c) (hw : wireL ls < 100000) :
    Calls Tryz.prog 21 #[.pointer (some ⟨L.xb, 0, none⟩), .slice A ls.length c] w fun e w' => e = .returned (.tuple #[ptrN L (knownF M ls 0).1, .int .i64 ((knownF M ls 0).2 : Nat)]) ∧ Below w.heap.size w w' := by
  have hlen := wireL_len ls
  have hsuf := suffixes_any A c ls w hr hcap (by omega)
  have HS := Lib.hid hsuf
  have H := Lib.hid h
  clear hsuf h hr
  go_enter Tryz.func21, Tryz.ntmps21
  go_wp2_with fail
  refine HS.out.mono ?_
  rintro e w1 ⟨v, rfl, hs1, hb1⟩
  obtain ⟨A1, c1, vs, rfl, hrow, hall⟩ := hs1
  have HRW := Lib.hid hrow
  have HALL := Lib.hid hall
  have HB1 := Lib.hid hb1
  clear hrow hall hb1
  go_wp2_with fail
  go_loopw [6, 7, 8, 9, 13] (fun _ _ _ _ s13 wr => ∃ k : Nat, k ≤ ls.length ∧ s13 = .int .i64 k ∧ Hid (Below w1.heap.size w1 wr) ∧ Hid (knownF M ls 0 = knownF M (ls.drop k) k)) (fun _ _ _ _ s13 wr => match s13 with | .int _ m => ls.length - m.toNat | _ => 0)
  case atStart => exact ⟨0, Nat.zero_le _, rfl, Lib.hid (Below.refl _ _), Lib.hid rfl⟩
  case round =>
    obtain ⟨k, hk, rfl, HB, HK⟩ := hrel
    by_cases hlt : k < ls.length
    · obtain ⟨Au, cu, hvk, hcu, hrk⟩ := HALL.out k hlt
      obtain ⟨b, off, rfl, hcell⟩ := (HRW.out.below HB.out).row k _ hvk
      have hro : RowV wr Au (labV (ls.drop k)) := (hrk.below HB.out).row
      have h2 := (H.out.below HB1.out).below HB.out
      have x2 : wr.cell? ⟨L.xb, 1, none⟩ = some (.map (some L.nm)) := h2.xcell 1
      have hwd := wireL_drop ls k
      have htx := fun W (hW : Below wr.heap.size wr W) => textM_any (ls.drop k) Au cu W (hro.below hW) (by rw [List.length_drop]; exact hcu) (by omega)
      rw [List.length_drop] at htx
      have hlook := look_nodes h2 (k := (textL (ls.drop k)).1) (Nat.le_trans text_len (by omega))
      have hkn : knownF M (ls.drop k) k = match getA (textL (ls.drop k)).1 M.nodes with | some n => (some n, k) | none => knownF M (ls.drop (k + 1)) (k + 1) := by
        rw [List.drop_eq_getElem_cons hlt, knownF]
      have hsub : ((ls.length : Int) - (k : Int)) = ((ls.length - k : Nat) : Int) := by omega
      have HTX := Lib.hid htx
      have HKN := Lib.hid hkn
      clear htx hkn h2 hro hrk hvk hwd
      rcases hlook with ⟨hg, hlook⟩ | ⟨i, hg, hlook⟩
      · have hall : ∀ W, Below wr.heap.size wr W → Below wr.heap.size wr W ∧ W.cell? ⟨L.xb, 1, none⟩ = some (.map (some L.nm)) ∧ (Instr.lookup 60 (.map (some L.nm)) (.string ⟨(textL (ls.drop k)).1.toArray⟩) true).run Tryz.prog W = .ok (.tuple #[.pointer none, .bool false]) W := fun W hW => ⟨hW, (hW.cell (lt_of_cell x2)).trans x2, hlook W hW⟩
        have hs0 := hall _ (Below.refl _ wr).drew
        have E : Hid (knownF M ls 0 = knownF M (ls.drop (k + 1)) (k + 1)) := Lib.hid (by rw [HK.out, HKN.out, hg])
        clear hlook hg
        unfold strV at HTX
        go_wp2_with fail
        go_region_held3 (fun W => Below wr.heap.size wr W ∧ W.cell? ⟨L.xb, 1, none⟩ = some (.map (some L.nm)) ∧ (Instr.lookup 60 (.map (some L.nm)) (.string ⟨(textL (ls.drop k)).1.toArray⟩) true).run Tryz.prog W = .ok (.tuple #[.pointer none, .bool false]) W)
          (first | exact hs0 | exact hall _ (by assumption) | exact hall _ (below_chain (And.left (by assumption)) (by assumption)) | exact hall _ (below_chain (by assumption) (by assumption)) | exact hall _ (below_chain (Below.refl _ _).drew (by assumption)))
          (first | ((go_at_call 22; with_reducible refine (HTX.out _ (And.left (by assumption))).mono ?_); rintro e w3 ⟨rfl, hb3⟩) | ((go_at_call 22; with_reducible refine (HTX.out _ (Below.refl _ _).drew).mono ?_); rintro e w3 ⟨rfl, hb3⟩))
        obtain ⟨hbf, _⟩ : Below wr.heap.size wr w3 ∧ _ := by assumption
        have HBF := Lib.hid (below_chain HB.out hbf)
        go_wp2_with fail
        go_roundw
        case rel => exact ⟨k + 1, by omega, by go_num, HBF, E⟩
        case measure => simp; omega
      · have hall : ∀ W, Below wr.heap.size wr W → Below wr.heap.size wr W ∧ W.cell? ⟨L.xb, 1, none⟩ = some (.map (some L.nm)) ∧ (Instr.lookup 60 (.map (some L.nm)) (.string ⟨(textL (ls.drop k)).1.toArray⟩) true).run Tryz.prog W = .ok (.tuple #[.pointer (some ⟨L.nb i, 0, none⟩), .bool true]) W := fun W hW => ⟨hW, (hW.cell (lt_of_cell x2)).trans x2, hlook W hW⟩
        have hs0 := hall _ (Below.refl _ wr).drew
        have E : Hid (knownF M ls 0 = (some i, k)) := Lib.hid (by rw [HK.out, HKN.out, hg])
        clear hlook hg
        unfold strV at HTX
        go_wp2_with fail
        go_region_held3 (fun W => Below wr.heap.size wr W ∧ W.cell? ⟨L.xb, 1, none⟩ = some (.map (some L.nm)) ∧ (Instr.lookup 60 (.map (some L.nm)) (.string ⟨(textL (ls.drop k)).1.toArray⟩) true).run Tryz.prog W = .ok (.tuple #[.pointer (some ⟨L.nb i, 0, none⟩), .bool true]) W)
          (first | exact hs0 | exact hall _ (by assumption) | exact hall _ (below_chain (And.left (by assumption)) (by assumption)) | exact hall _ (below_chain (by assumption) (by assumption)) | exact hall _ (below_chain (Below.refl _ _).drew (by assumption)))
          (first | ((go_at_call 22; with_reducible refine (HTX.out _ (And.left (by assumption))).mono ?_); rintro e w3 ⟨rfl, hb3⟩) | ((go_at_call 22; with_reducible refine (HTX.out _ (Below.refl _ _).drew).mono ?_); rintro e w3 ⟨rfl, hb3⟩))
        obtain ⟨hbf, _⟩ : Below wr.heap.size wr w3 ∧ _ := by assumption
        have HBF := Lib.hid (below_chain HB1.out (below_chain HB.out hbf))
        go_wp2_with fail
        go_ret2
        rw [E.out]
        exact ⟨rfl, HBF.out⟩
    · have hkk : k = ls.length := by omega
      have E : Hid (knownF M ls 0 = (none, ls.length)) := Lib.hid (by rw [HK.out, hkk, List.drop_length, knownF])
      go_wp2_with fail
      go_ret2
      rw [E.out]
      exact ⟨rfl, below_chain HB1.out HB.out⟩
end Go.Proofs.YtimdedkejadnfaaGreatDoor
