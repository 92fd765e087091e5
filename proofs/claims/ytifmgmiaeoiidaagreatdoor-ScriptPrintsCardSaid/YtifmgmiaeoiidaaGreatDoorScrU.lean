/-
  The walk of layer script's Print. No more than 2^36 bytes.
-/
import Derived.Test.YtifmgmiaeoiidaaGreatDoorScrT
namespace Go.Scrp
open Go.RowKit Go.Colm
set_option linter.unusedVariables false
/-- What text a script is, or that it is none. -/
def printL (l : List Opd) : List UInt8 × Int := if (outL 1 l).2 = true then ([], 2) else ((outL 1 l).1, 0)
theorem OpdsAt.low {N : Nat → Prop} {w : World} {A : Option Addr} {i : Nat} {l : List Opd} (h : OpdsAt N w A i l) : OpdsAt (fun k => k < w.heap.size) w A i l :=
  OpdsAt.turn (fun b off v _ hc => ⟨lt_of_cell (a := ⟨b, off, none⟩) hc, hc⟩) A i l h
end Go.Scrp
namespace Go.Proofs.YtifmgmiaeoiidaaGreatDoor
open Go.RowKit Go.Colm Go.Scrp
set_option linter.unusedVariables false

theorem steps_any : ∀ (n : Nat) (l : List Opd), cntL l < n → StepsOK l
  | 0, _, h => absurd h (by omega)
  | n + 1, l, h => steps_step fun k hk hd sub e => steps_any n sub (by
      have := cntL_get l k hk
      rw [e, cntS_sub] at this
      omega)
theorem steps_ok (l : List Opd) : StepsOK l := steps_any (cntL l + 1) l (by omega)
theorem fresh_writer (w : World) : IsWriter w.heap.size w.heap.size (Lib.byteCells []) false (w.alloc (.cells #[.pointer none, .slice none 0 0, .bool false] 65)) :=
  .inl ⟨Nat.le_refl _, .slice none 0 0, heap_alloc_new w _, own_nil _ _ _ _, by simp [Value.ownBlock], fun _ => rfl⟩

set_option maxRecDepth 100000 in
set_option maxHeartbeats 4000000 in
theorem print_any (N : Nat → Prop) (A : Option Addr) (c : Nat) (l : List Opd) (w : World) (hS : OpdsAt N w A 0 l) (hT : Tabs w) (hl : l.length ≤ maxLen) (hlen : (outL 1 l).1.length ≤ 68719476736) :
    Calls Tryz.prog 13 #[.slice A l.length c] w fun e w' => e = .returned (.tuple #[.string ⟨(printL l).1.toArray⟩, .int .i64 (printL l).2]) ∧ Below w.heap.size w w' := by
  obtain ⟨W, hW⟩ : ∃ W, W = w.alloc (.cells #[.pointer none, .slice none 0 0, .bool false] 65) := ⟨_, rfl⟩
  have hb : Below w.heap.size w W := by rw [hW]; exact (Below.refl _ _).alloc (Nat.le_refl _) _
  have hst := steps_ok l _ A c 1 w.heap.size w.heap.size [] false W (by rw [hW]; exact fresh_writer w) (OpdsAt.turn (Turn.below hb) A 0 l (OpdsAt.low hS)) (fun k h => h) hb.size (by omega) (by omega) (TabsB.on (TabsB.of hT) hb) hl (by simpa using hlen)
  rw [Bool.false_or, List.nil_append] at hst
  obtain ⟨pl, hpl⟩ : ∃ p, p = printL l := ⟨_, rfl⟩
  rw [← hpl]
  unfold printL at hpl
  obtain ⟨ow, how⟩ : ∃ p, p = outL 1 l := ⟨_, rfl⟩
  rw [← how] at hst hpl
  obtain ⟨o1, o2⟩ := ow
  dsimp only at hst hpl
  rw [hW] at hst
  have HST := Lib.hid hst
  have HB := Lib.hid hb
  clear hst hS hT how hW hb
  go_enter Tryz.func13, Tryz.ntmps13
  go_wp2_with fail
  refine HST.out.mono ?_
  rintro e w2 ⟨rfl, hI, hWr⟩
  obtain ⟨q1, q2⟩ := hI.cells
  have HWS := Lib.hid (wstring_any _ _ o1 o2 w2 hI)
  have HW2 : Hid (Below w.heap.size w w2) := Lib.hid (((Below.refl _ w).alloc (Nat.le_refl _) _).trans hWr.1)
  clear hI hWr
  cases o2
  · have HP : Hid (pl = (o1, 0)) := Lib.hid hpl
    clear hpl
    go_wp2_with fail
    refine HWS.out.mono ?_
    rintro e w3 ⟨rfl, hb3⟩
    have HB3 := Lib.hid (HW2.out.trans hb3)
    clear hb3
    go_wp2_with fail
    go_ret2
    exact ⟨by rw [HP.out]; rfl, HB3.out⟩
  · have HP : Hid (pl = ([], 2)) := Lib.hid hpl
    clear hpl
    go_wp2_with fail
    go_ret2
    exact ⟨by rw [HP.out]; rfl, HW2.out⟩
end Go.Proofs.YtifmgmiaeoiidaaGreatDoor
