/-
  The walk of the page's example of layer wire: wires(). No condition.
-/
import Derived.Test.YtfnpjcfaabbejaaWireW
namespace Go.Proofs.Ytfnpjcfaabbejaa
open Go.RowKit Go.Foldp Go.Colm Go.Wirep Go.Maps
set_option linter.unusedVariables false

def exN : List (List (List UInt8)) := [[[97], [98]], [[99], [66]]]
def exB : List UInt8 := [1, 97, 1, 98, 0, 1, 99, 192, 2]
theorem exN_packs : packL exN = (exB, [0, 5], 0) := by decide +kernel
theorem exB_gets : getA exB 5 = ([[99], [98]], 9, 0) := by
  rw [getA, if_pos (by decide)]
  show getF exB 5 5 0 [] = _
  rw [getF_on (by decide) (by decide) (by decide) (by decide) (by decide) (by decide)]
  show getF exB 7 5 0 [[99]] = _
  rw [getF_to (to := 2) (by decide) (by decide) (by decide) (by decide) (by decide)]
  show getF exB 2 2 9 [[99]] = _
  rw [getF_on (by decide) (by decide) (by decide) (by decide) (by decide) (by decide)]
  show getF exB 4 2 9 [[99], [98]] = _
  rw [getF_end (by decide) (by decide)]
  rfl
theorem exC_gets : getA [192, 0] 0 = ([], 0, 4) := by
  rw [getA, if_pos (by decide)]
  show getF [192, 0] 0 0 0 [] = _
  rw [getF_far (by decide) (by decide) (by decide) (by decide)]
theorem exN_at (w : World) : NamesV (((w.alloc (.cells #[.string ⟨#[97]⟩, .string ⟨#[98]⟩] 9)).alloc (.cells #[.string ⟨#[99]⟩, .string ⟨#[66]⟩] 9)).alloc (.cells #[.slice (some ⟨w.heap.size, 0, none⟩) 2 2, .slice (some ⟨w.heap.size + 1, 0, none⟩) 2 2] 24)) (some ⟨w.heap.size + 2, 0, none⟩) exN := by
  have r1 := ((RowV.new w 9 #[.string ⟨#[97]⟩, .string ⟨#[98]⟩]).alloc (.cells #[.string ⟨#[99]⟩, .string ⟨#[66]⟩] 9)).alloc (.cells #[.slice (some ⟨w.heap.size, 0, none⟩) 2 2, .slice (some ⟨w.heap.size + 1, 0, none⟩) 2 2] 24)
  have r2 := (RowV.new (w.alloc (.cells #[.string ⟨#[97]⟩, .string ⟨#[98]⟩] 9)) 9 #[.string ⟨#[99]⟩, .string ⟨#[66]⟩]).alloc (.cells #[.slice (some ⟨w.heap.size, 0, none⟩) 2 2, .slice (some ⟨w.heap.size + 1, 0, none⟩) 2 2] 24)
  have r3 := RowV.new ((w.alloc (.cells #[.string ⟨#[97]⟩, .string ⟨#[98]⟩] 9)).alloc (.cells #[.string ⟨#[99]⟩, .string ⟨#[66]⟩] 9)) 24 #[.slice (some ⟨w.heap.size, 0, none⟩) 2 2, .slice (some ⟨w.heap.size + 1, 0, none⟩) 2 2]
  simp only [World.size_alloc] at r2 r3
  intro i l hl
  have hi : i < 2 := by
    have := (List.getElem?_eq_some_iff.1 hl).1
    simpa [exN] using this
  rcases i with _ | _ | i
  · obtain ⟨b, off, e, h⟩ := r3 0 _ rfl
    cases e
    have hl : l = [[97], [98]] := by simpa [exN] using hl.symm
    subst hl
    exact ⟨_, _, _, 2, rfl, h, Nat.le_refl _, r1⟩
  · obtain ⟨b, off, e, h⟩ := r3 1 _ rfl
    cases e
    have hl : l = [[99], [66]] := by simpa [exN] using hl.symm
    subst hl
    exact ⟨_, _, _, 2, rfl, h, Nat.le_refl _, r2⟩
  · omega

set_option maxRecDepth 100000 in
set_option maxHeartbeats 4000000 in
theorem wires_any (w : World) : Calls Try.prog 7 #[] w fun e w' => e = .returned (.bool true) ∧ Below w.heap.size w w' := by
  have hpack := pack_any _ 2 exN _ (exN_at w) (by decide +kernel) (by decide)
  rw [exN_packs] at hpack
  have HPK := Lib.hid hpack
  clear hpack
  go_enter Try.func7, Try.ntmps7
  go_wp2_with fail
  refine HPK.out.mono ?_
  rintro e w1 ⟨Ab, cb, Ap, cp, rfl, hrb, hrp, hcb, hsp, hb1⟩
  have hb : Below w.heap.size w w1 := ((((Below.refl _ w).alloc (Nat.le_refl _) _).alloc (by simp) _).alloc (by simp; omega) _).trans (hb1.mono (by simp; omega))
  have hg1 := get_any Ab cb exB 5 w1 hrb hcb (by decide)
  rw [exB_gets] at hg1
  have HG1 := Lib.hid hg1
  have HB := Lib.hid hb
  have HRB := Lib.hid hrb
  have HRP := Lib.hid hrp
  have HSP := Lib.hid hsp
  clear hg1 hb hrb hrp hcb hsp hb1 HPK
  go_wp2_with fail
  refine HG1.out.mono ?_
  rintro e w2 ⟨Al, cl, rfl, hrl, hb2⟩
  have HB2 := Lib.hid hb2
  have HRL := Lib.hid hrl.row
  clear hb2 hrl HG1
  have hx := RowV.new w2 5 #[.int .u8 192, .int .u8 0]
  have hg2 := get_any (some ⟨w2.heap.size, 0, none⟩) 2 [192, 0] 0 _ hx (by decide) (by decide)
  rw [exC_gets] at hg2
  have HG2 := Lib.hid hg2
  clear hx hg2
  go_wp2_with fail
  refine HG2.out.mono ?_
  rintro e w3 ⟨A3, c3, rfl, _, hb3⟩
  have hb13 : Below w1.heap.size w1 w3 := HB2.out.trans ((((Below.refl _ w2).alloc (Nat.le_refl _) _).trans (hb3.mono (by simp))).mono HB2.out.size)
  have hb23 : Below w2.heap.size w2 w3 := ((Below.refl _ w2).alloc (Nat.le_refl _) _).trans (hb3.mono (by simp))
  have htx := run_text (P := Try.prog) Try.underlying22 Try.underlying5 w3 Ab exB cb (HRB.out.below hb13) HSP.out 9 Try.underlying9
  have HP3 := HRP.out.below hb13
  obtain ⟨bp, op, rfl, p0⟩ := HP3 0 _ rfl
  obtain ⟨_, _, e1, p1⟩ := HP3 1 _ rfl
  cases e1
  have q0 : w3.cell? ⟨bp, op, none⟩ = some (.int .i64 0) := p0
  have q1 : w3.cell? ⟨bp, op + 1, none⟩ = some (.int .i64 5) := p1
  clear p0 p1
  have hrl3 := HRL.out.below hb23
  have hr4 := RowV.new w3 9 #[.string ⟨#[99]⟩, .string ⟨#[98]⟩]
  have hsame := same_strs [[99], [98]] [[99], [98]] Al (some ⟨w3.heap.size, 0, none⟩) cl 2 (w3.alloc (.cells #[.string ⟨#[99]⟩, .string ⟨#[98]⟩] 9)) (hrl3.alloc _) hr4 (by decide) (by decide)
  rw [show (([[99], [98]] : List (List UInt8)) == [[99], [98]]) = true from by decide] at hsame
  have HS := Lib.hid hsame
  have HB3 := Lib.hid (HB.out.trans (hb13.mono HB.out.size))
  have t1 : ((ByteArray.mk exB.toArray).toList == (ByteArray.mk #[1, 97, 1, 98, 0, 1, 99, 192, 2]).toList) = true := by decide +kernel
  clear hb3 hb13 hb23 HP3 hrl3 hr4 hsame HG2 HB2
  go_wp2_with fail
  refine HS.out.mono ?_
  rintro e w4 ⟨rfl, hb4⟩
  have HB4 := Lib.hid (HB3.out.trans ((((Below.refl _ w3).alloc (Nat.le_refl _) _).trans (hb4.mono (by simp))).mono HB3.out.size))
  clear hb4 HB3 HS
  go_wp2_with fail
  go_ret
  exact ⟨rfl, HB4.out⟩

end Go.Proofs.Ytfnpjcfaabbejaa
