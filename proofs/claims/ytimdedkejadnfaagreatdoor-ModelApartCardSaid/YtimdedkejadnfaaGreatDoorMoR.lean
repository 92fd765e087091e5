/-
  The walks of a model's have, where there is a block. No condition but sizes.
-/
import Derived.Test.YtimdedkejadnfaaGreatDoorMoQ
namespace Go.Proofs.YtimdedkejadnfaaGreatDoor
open Go.RowKit Go.Foldp Go.Colm Go.Wirep Go.Maps
set_option linter.unusedVariables false
set_option linter.unusedSimpArgs false
set_option linter.unusedSectionVars false

theorem Goes.none_at {L L' : Lay} {M M' : Mod} {w w' : World} (h : Goes L M w L' M' w') {k : Nat} (hk : L.G k = none) (hlt : k < w.heap.size) : L'.G k = none := by
  rcases hh : L'.G k with _ | r
  · rfl
  · rcases h.grow _ (by rw [hh]; simp) with h1 | h1
    · exact absurd hk h1
    · omega
theorem Has.none_new {L : Lay} {M : Mod} {w : World} (h : Has L M w) {k : Nat} (hk : w.heap.size ≤ k) : L.G k = none := by
  rcases hh : L.G k with _ | r
  · rfl
  · have := h.dom k (by rw [hh]; simp)
    omega

set_option maxRecDepth 100000 in
set_option maxHeartbeats 3200000 in
theorem have_any (L : Lay) (M : Mod) (w : World) (wb : Nat) (gone : Value) (c i b : Nat) (M1 : Mod) (h : Has L M w) (hW : Whole w wb 84 #[.pointer (some ⟨L.xb, 0, none⟩), gone]) (hb : 1 ≤ blocksC c) (hsz : M.parts.length < 1099511627776)
    (hfr : ∀ p ∈ M.parts, p.free.length < 1099511627776 ∧ ∀ b ∈ p.free, b < 4611686018427387904) (htk : takeM M c = (some (i, b), M1)) :
    Calls Tryz.prog 27 #[.pointer (some ⟨wb, 0, none⟩), .int .i64 (c : Int)] w fun e w' => e = .returned (.tuple #[.agg #[.int .i64 (i : Int), .int .i64 (b : Int)], .int .i64 0]) ∧ ∃ L', Goes L M w L' M1 w' := by
  obtain ⟨w0, hw0⟩ : ∃ w0, w0 = w.alloc (.cells #[.int .i64 0, .int .i64 0] 76) := ⟨_, rfl⟩
  have hbw : Below w.heap.size w w0 := by rw [hw0]; exact (Below.refl _ w).alloc (Nat.le_refl _) _
  have hr0 : Whole w0 w.heap.size 76 #[.int .i64 0, .int .i64 0] := by rw [hw0]; exact Whole.new w _ _
  have h0 := h.below hbw
  have hW0 : Whole w0 wb 84 #[.pointer (some ⟨L.xb, 0, none⟩), gone] := (hbw.block _ hW.lt).trans hW
  have x0 : w0.cell? ⟨wb, 0, none⟩ = some (.pointer (some ⟨L.xb, 0, none⟩)) := hW0.cell 0
  have htake := take_any L M w0 c h0 hb hsz hfr
  rw [htk] at htake
  have HT := Lib.hid htake
  have H := Lib.hid h
  have HB := Lib.hid hbw
  have HR0 := Lib.hid hr0
  clear h h0 htake hbw hr0 hW hW0 htk
  unfold placeV at HT
  simp only [Option.getD_some, Option.isSome_some] at HT
  go_enter Tryz.func27, Tryz.ntmps27
  go_wp2_with fail
  rw [← hw0]
  clear hw0
  go_loopw [6, 7, 8, 9, 10, 11] (fun _ _ _ _ _ _ wr => wr = w0) (fun _ _ _ _ _ _ _ => 0)
  case atStart => rfl
  case round =>
    subst hrel
    go_wp2_with fail
    refine HT.out.mono ?_
    rintro e w2 ⟨rfl, L', hg⟩
    have hr2 : Whole w2 w.heap.size 76 #[.int .i64 0, .int .i64 0] := hg.kept.whole HR0.out fun hne => hne (H.out.none_new (Nat.le_refl _))
    have c20 := hr2.cell 0
    have c21 := hr2.cell 1
    have f20 := hr2.frozen 0
    have f21 := hr2.frozen 1
    simp only [List.getElem?_toArray, List.getElem?_cons_zero, List.getElem?_cons_succ] at c20 c21
    have hlt2 := hr2.lt
    have hn0 := hg.none_at (H.out.none_new (Nat.le_refl _)) HR0.out.lt
    have HR2 := Lib.hid hr2
    have HG := Lib.hid (hg.after HB.out)
    clear hr2 hg
    go_wp2_with fail
    refine bodyPost_ret (results_cell_row2 rfl _ _ w.heap.size 76 _ (0, 0) _ rfl ((heap_alloc_old _ _ (by simpa [World.setCell] using hlt2)).trans (place2 HR2.out _ _)) Tryz.underlying76 rfl (by kernel_rfl)) rfl ?_
    refine ⟨rfl, L', (HG.out.side (keptP w2 w.heap.size _ _) ?_).below ((Below.refl _ _).alloc (Nat.le_refl _) _)⟩
    rintro j rfl
    exact ⟨Nat.le_refl _, hn0⟩
end Go.Proofs.YtimdedkejadnfaaGreatDoor
