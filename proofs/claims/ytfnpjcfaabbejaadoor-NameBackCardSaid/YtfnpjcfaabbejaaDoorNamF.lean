/-
  What a check of labels answers (plain), and the walk of the reference's Same on texts. Fewer than 2^40 texts.
-/
import Derived.Test.YtfnpjcfaabbejaaDoorWireA
namespace Go.Wirep
open Go.Foldp
/-- Why a name may not be (0: it may). -/
def checkL (l : List (List UInt8)) : Int := if l.all (fun s => labelE s == 0) then (if 255 < wireL l then 21 else 0) else 20
theorem labelE_two (s : List UInt8) : labelE s = 0 ∨ labelE s = 20 := by
  unfold labelE
  split
  · exact .inr rfl
  · split
    · exact .inl rfl
    · exact .inr rfl
end Go.Wirep
namespace Go.Proofs.YtfnpjcfaabbejaaDoor
open Go.RowKit Go.Foldp Go.Colm Go.Wirep
set_option linter.unusedVariables false

theorem labs_ne {a b : List (List UInt8)} {k : Nat} (hk : k < a.length) (hk' : k < b.length) (h : a[k] ≠ b[k]) : (a == b) = false := by
  rw [beq_eq_false_iff_ne]
  rintro rfl
  exact h rfl
theorem labs_eq {a b : List (List UInt8)} (hl : a.length = b.length) (h : ∀ j, (hj : j < a.length) → (hj' : j < b.length) → a[j] = b[j]) : (a == b) = true := by
  rw [beq_iff_eq]
  exact List.ext_getElem hl h
theorem str_beq (s t : List UInt8) : ((ByteArray.mk s.toArray).toList == (ByteArray.mk t.toArray).toList) = decide (s = t) := by
  rw [ByteArray.toList_mk, ByteArray.toList_mk]
  rw [Bool.eq_iff_iff]
  simp

set_option maxHeartbeats 1000000 in
theorem same_strs (a b : List (List UInt8)) (A B : Option Addr) (ca cb : Nat) (w : World) (ha : RowV w A (labV a)) (hb : RowV w B (labV b)) (la : a.length < 1099511627776) (lb : b.length < 1099511627776) :
    Calls Tryd.prog 10 #[.slice A a.length ca, .slice B b.length cb] w fun e w' => e = .returned (.bool (a == b)) ∧ Below w.heap.size w w' := by
  by_cases hne : a.length = b.length
  · have HA := Lib.hid ha
    have HB := Lib.hid hb
    have hne' : (a.length : Int) = b.length := by omega
    clear ha hb
    go_enter Tryd.func10, Tryd.ntmps10
    go_wp2_with fail
    go_loopw [5] (fun i wr => ∃ k : Nat, k ≤ a.length ∧ i = .int .i64 k ∧ Hid (∀ j, j < k → (hj : j < a.length) → (hj' : j < b.length) → a[j] = b[j]) ∧ Below w.heap.size w wr) (fun i _ => a.length - (intOf i).toNat)
    case atStart => exact ⟨0, Nat.zero_le _, rfl, Lib.hid (by intro j hj; omega), Below.refl _ _⟩
    case round =>
      obtain ⟨k, hk, rfl, HE, hbw⟩ := hrel
      by_cases hlt : k < a.length
      · have hlt' : k < b.length := by omega
        obtain ⟨ba, oa, rfl, xa⟩ := labV_at (HA.out.below hbw) hlt
        obtain ⟨bb, ob, rfl, xb⟩ := labV_at (HB.out.below hbw) hlt'
        have hsb := str_beq a[k] b[k]
        obtain ⟨sa, hsa⟩ : ∃ s, s = ByteArray.mk a[k].toArray := ⟨_, rfl⟩
        obtain ⟨sb, hsb2⟩ : ∃ s, s = ByteArray.mk b[k].toArray := ⟨_, rfl⟩
        rw [← hsa] at xa hsb
        rw [← hsb2] at xb hsb
        by_cases e : a[k] = b[k]
        · have HE2 : Hid (∀ j, j < k + 1 → (hj : j < a.length) → (hj' : j < b.length) → a[j] = b[j]) := Lib.hid (by
            intro j hj hj1 hj2
            rcases Nat.lt_or_ge j k with h | h
            · exact HE.out j h hj1 hj2
            · have : j = k := by omega
              subst this
              exact e)
          have t1 : (sa.toList == sb.toList) = true := by rw [hsb]; simp [e]
          clear e hsb hsa hsb2
          go_wp2_with fail
          go_quiet (fail)
          go_wp2_with fail
          go_roundw
          case rel => exact ⟨k + 1, by omega, by go_num, HE2, below_drewN hbw _⟩
          case measure => simp [intOf]; omega
        · have t1 : (sa.toList == sb.toList) = false := by rw [hsb]; simp [e]
          have HF := Lib.hid (labs_ne hlt hlt' e)
          clear e hsb hsa hsb2
          go_wp2_with fail
          go_quiet (fail)
          go_wp2_with fail
          go_ret
          exact ⟨ret_bool HF.out.symm, below_drewN hbw _⟩
      · have HF := Lib.hid (labs_eq hne fun j hj hj' => HE.out j (by omega) hj hj')
        go_wp2_with fail
        go_ret
        exact ⟨ret_bool HF.out.symm, hbw⟩
  · have hf : (a == b) = false := by
      rw [beq_eq_false_iff_ne]
      rintro rfl
      exact hne rfl
    have HF := Lib.hid hf
    have hne' : ¬ (a.length : Int) = b.length := by omega
    clear ha hb hf
    go_enter Tryd.func10, Tryd.ntmps10
    go_wp2_with fail
    go_ret
    exact ⟨ret_bool HF.out.symm, Below.refl _ _⟩

end Go.Proofs.YtfnpjcfaabbejaaDoor
