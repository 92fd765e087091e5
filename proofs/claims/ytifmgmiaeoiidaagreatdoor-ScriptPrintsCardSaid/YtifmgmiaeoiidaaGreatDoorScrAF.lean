/-
  The walk of the law ScriptWords. The package's variables as Env says.
-/
import Derived.Test.YtifmgmiaeoiidaaGreatDoorScrAE
namespace Go.Proofs.YtifmgmiaeoiidaaGreatDoor
open Go.RowKit Go.Colm Go.Scrp
set_option linter.unusedVariables false

theorem runword_one (s : List UInt8) (w : World) (hs : s.length ≤ 549755813888) :
    Calls Tryz.prog 9 #[.string ⟨s.toArray⟩] w fun e w' => e = .returned (.tuple #[.string ⟨((unwordL s).getD []).toArray⟩, .bool (unwordL s).isSome]) ∧ Below w.heap.size w w' := by
  refine (runword_any ⟨s.toArray⟩ w (by rw [str_size]; exact hs)).mono ?_
  have hd : (ByteArray.mk s.toArray).data.toList = s := by simp
  rintro e w' ⟨h1, h2, hb⟩
  rw [hd] at h1 h2
  cases h : unwordL s with
  | none => exact ⟨h1 h, hb⟩
  | some b => exact ⟨h2 b h, hb⟩

set_option maxRecDepth 100000 in
set_option maxHeartbeats 8000000 in
theorem scriptWords_walk (s : ByteArray) (hsz : s.size ≤ maxLen) (w : World) (E : Env w) : Calls Tryz.prog 3 #[.string s] w fun e w' => e = .returned (.bool true) ∧ Below w.heap.size w w' := by
  have HE := Lib.hid E
  have HP := Lib.hid prints_any
  clear E
  by_cases h1 : 1000 < s.size
  · go_enter Tryz.func3, Tryz.ntmps3
    go_wp2_with fail
    refine (HP.out _ HE.out).mono ?_
    rintro e w2 ⟨rfl, hb2⟩
    go_wp2_with fail
    go_ret
    exact ⟨rfl, hb2⟩
  · have hl := str_len s
    have hun := fun W => unword_one s.data.toList W (by omega)
    have hrun := fun W => runword_one s.data.toList W (by omega)
    rw [bytes_eq] at hun hrun
    obtain ⟨U, hU⟩ : ∃ U : ByteArray, U = ⟨((unwordL s.data.toList).getD []).toArray⟩ := ⟨_, rfl⟩
    obtain ⟨q, hq⟩ : ∃ q, q = (unwordL s.data.toList).isSome := ⟨_, rfl⟩
    simp only [← hU, ← hq] at hun hrun
    have hwd := fun W => word_any s W (by omega)
    have hrwd := fun W => rword_any s W (by omega)
    have hback := fun W => unword_one (wordL s.data.toList) W (by have := word_len s.data.toList; omega)
    rw [unword_word] at hback
    simp only [Option.getD_some, Option.isSome_some, bytes_eq] at hback
    obtain ⟨X, hX⟩ : ∃ X : ByteArray, X = ⟨(wordL s.data.toList).toArray⟩ := ⟨_, rfl⟩
    simp only [← hX] at hwd hrwd hback
    have HUN := Lib.hid hun
    have HRUN := Lib.hid hrun
    have HWD := Lib.hid hwd
    have HRWD := Lib.hid hrwd
    have HBACK := Lib.hid hback
    clear hun hrun hwd hrwd hback hX hU hq
    go_enter Tryz.func3, Tryz.ntmps3
    go_wp2_with fail
    refine (HUN.out _).mono ?_
    rintro e w2 ⟨rfl, hb2⟩
    go_wp2_with fail
    refine (HRUN.out _).mono ?_
    rintro e w3 ⟨rfl, hb3⟩
    have HB3 := Lib.hid (below_chain hb2 hb3)
    clear hb2 hb3
    go_wp2_with fail
    refine (HWD.out _).mono ?_
    rintro e w4 ⟨rfl, hb4⟩
    go_wp2_with fail
    refine (HBACK.out _).mono ?_
    rintro e w5 ⟨rfl, hb5⟩
    have HB5 := Lib.hid (below_chain HB3.out (below_chain hb4 hb5))
    clear hb4 hb5
    go_wp2_with fail
    refine (HWD.out _).mono ?_
    rintro e w6 ⟨rfl, hb6⟩
    go_wp2_with fail
    refine (HRWD.out _).mono ?_
    rintro e w7 ⟨rfl, hb7⟩
    have HB7 := Lib.hid (below_chain HB5.out (below_chain hb6 hb7))
    clear hb6 hb7
    go_wp2_with fail
    refine (HP.out _ (HE.out.below HB7.out)).mono ?_
    rintro e w8 ⟨rfl, hb8⟩
    have HB8 := Lib.hid (below_chain HB7.out hb8)
    clear hb8
    go_wp2_with fail
    go_ret
    exact ⟨rfl, HB8.out⟩
end Go.Proofs.YtifmgmiaeoiidaaGreatDoor
