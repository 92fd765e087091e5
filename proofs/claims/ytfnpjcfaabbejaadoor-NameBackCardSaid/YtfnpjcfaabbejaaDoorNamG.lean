/-
  The walks of name's Check and of wire's laid and label. Names of at most 2^40 bytes.
-/
import Derived.Test.YtfnpjcfaabbejaaDoorNamF
import Derived.Lib.AppendStr
namespace Go.Proofs.YtfnpjcfaabbejaaDoor
open Go.RowKit Go.Foldp Go.Colm Go.Wirep
set_option linter.unusedVariables false

/-- The first error of labels. -/
def firstL (l : List (List UInt8)) : Int := if l.all (fun s => labelE s == 0) then 0 else 20
theorem firstL_bad {l : List (List UInt8)} {k : Nat} (hk : k < l.length) (h : labelE l[k] ≠ 0) : firstL l = 20 := by
  unfold firstL
  rw [if_neg]
  intro ha
  rw [List.all_eq_true] at ha
  have := ha l[k] (List.getElem_mem _)
  simp at this
  exact h this
theorem firstL_ok {l : List (List UInt8)} (h : ∀ j, (hj : j < l.length) → labelE l[j] = 0) : firstL l = 0 := by
  unfold firstL
  rw [if_pos]
  rw [List.all_eq_true]
  intro s hs
  obtain ⟨j, hj, rfl⟩ := List.getElem_of_mem hs
  simp [h j hj]
theorem label_lab {W : World} {s : List UInt8} (h : s.length ≤ 70368744177664) : Calls Tryd.prog 27 #[.string ⟨s.toArray⟩] W fun e w' => e = .returned (.int .i64 (labelE s)) ∧ Below W.heap.size W w' :=
  label_is ⟨s.toArray⟩ W (by show s.toArray.size ≤ _; simp only [List.size_toArray]; omega)

set_option maxHeartbeats 1000000 in
theorem first_any (l : List (List UInt8)) (A : Option Addr) (c : Nat) (w : World) (hr : RowV w A (labV l)) (hl : l.length ≤ 9223372036854775807) (hsz : ∀ s ∈ l, s.length ≤ 70368744177664) :
    Calls Tryd.prog 26 #[.slice A l.length c, .func (.func 27) #[] #[]] w fun e w' => e = .returned (.int .i64 (firstL l)) ∧ Below w.heap.size w w' := by
  have HR := Lib.hid hr
  have HSZ := Lib.hid hsz
  clear hr hsz
  go_enter Tryd.func26, Tryd.ntmps26
  go_wp2_with fail
  go_loopw [10] (fun i wr => ∃ k : Nat, k ≤ l.length ∧ i = .int .i64 k ∧ Hid (∀ j, j < k → (hj : j < l.length) → labelE l[j] = 0) ∧ Below w.heap.size w wr) (fun i _ => l.length - (intOf i).toNat)
  case atStart => exact ⟨0, Nat.zero_le _, rfl, Lib.hid (by intro j hj; omega), Below.refl _ _⟩
  case round =>
    obtain ⟨k, hk, rfl, HO, hbw⟩ := hrel
    by_cases hlt : k < l.length
    · obtain ⟨b, off, rfl, hc⟩ := labV_at (HR.out.below hbw) hlt
      have hlab := fun W => label_lab (W := W) (HSZ.out l[k] (List.getElem_mem _))
      obtain ⟨le, hle⟩ : ∃ le, le = labelE l[k] := ⟨_, rfl⟩
      simp only [← hle] at hlab
      obtain ⟨sk, hsk⟩ : ∃ s, s = ByteArray.mk l[k].toArray := ⟨_, rfl⟩
      rw [← hsk] at hc
      simp only [← hsk] at hlab
      have HLAB := Lib.hid hlab
      by_cases h0 : le = 0
      · have HO2 : Hid (∀ j, j < k + 1 → (hj : j < l.length) → labelE l[j] = 0) := Lib.hid (by
          intro j hj hj1
          rcases Nat.lt_or_ge j k with h | h
          · exact HO.out j h hj1
          · have : j = k := by omega
            subst this
            exact hle ▸ h0)
        subst h0
        clear hlab hle hsk
        go_wp2_with fail
        refine (HLAB.out _).mono ?_
        rintro e w2 ⟨rfl, hb2⟩
        go_wp2_with fail
        go_roundw
        case rel => exact ⟨k + 1, by omega, by go_num, HO2, below_chain hbw hb2⟩
        case measure => simp [intOf]; omega
      · have t1 : (le != 0) = true := by rwa [bne_iff_ne]
        have h20 : le = 20 := by
          rcases labelE_two l[k] with h | h
          · exact absurd (hle.trans h) h0
          · exact hle.trans h
        have HF : Hid (firstL l = le) := Lib.hid (by rw [h20]; exact firstL_bad hlt (hle ▸ h0))
        clear hlab hle hsk h20 h0
        go_wp2_with fail
        refine (HLAB.out _).mono ?_
        rintro e w2 ⟨rfl, hb2⟩
        go_wp2_with fail
        go_ret
        exact ⟨ret_int HF.out.symm, below_chain hbw hb2⟩
    · have HF := Lib.hid (firstL_ok fun j hj => HO.out j (by omega) hj)
      go_wp2_with fail
      go_ret
      exact ⟨ret_int HF.out.symm, hbw⟩

set_option maxHeartbeats 1000000 in
theorem check_any (l : List (List UInt8)) (A : Option Addr) (c : Nat) (w : World) (hr : RowV w A (labV l)) (hl : wireL l < 1099511627776) (hsz : ∀ s ∈ l, s.length ≤ 70368744177664) :
    Calls Tryd.prog 14 #[.slice A l.length c] w fun e w' => e = .returned (.int .i64 (checkL l)) ∧ Below w.heap.size w w' := by
  have hlen := wireL_len l
  have hf := first_any l A c w hr (by omega) hsz
  have hck : checkL l = if firstL l = 0 then (if 255 < wireL l then 21 else 0) else 20 := by
    unfold checkL firstL
    split <;> simp
  have h2 : firstL l = 0 ∨ firstL l = 20 := by
    unfold firstL
    split
    · exact .inl rfl
    · exact .inr rfl
  have hw := fun W (hb : Below w.heap.size w W) => wire_any l A c W (hr.below hb) hl
  obtain ⟨fl, hfl⟩ : ∃ f, f = firstL l := ⟨_, rfl⟩
  obtain ⟨WL, hWL⟩ : ∃ f, f = wireL l := ⟨_, rfl⟩
  rw [← hfl] at hf h2
  rw [← hfl, ← hWL] at hck
  simp only [← hWL] at hw
  have HF := Lib.hid hf
  have HW := Lib.hid hw
  have HCK := Lib.hid hck
  clear hf hw hck hfl hWL hr hlen
  rcases h2 with rfl | rfl
  · by_cases h3 : 255 < WL
    all_goals
      go_enter Tryd.func14, Tryd.ntmps14
      go_wp2_with fail
      refine HF.out.mono ?_
      rintro e w2 ⟨rfl, hb2⟩
      go_wp2_with fail
      refine (HW.out _ hb2).mono ?_
      rintro e w3 ⟨rfl, rfl⟩
      go_wp2_with fail
      go_ret
      refine ⟨ret_int ?_, hb2⟩
      rw [HCK.out]
      simp [h3]
  · go_enter Tryd.func14, Tryd.ntmps14
    go_wp2_with fail
    refine HF.out.mono ?_
    rintro e w2 ⟨rfl, hb2⟩
    go_wp2_with fail
    go_ret
    refine ⟨ret_int ?_, hb2⟩
    rw [HCK.out]
    simp

end Go.Proofs.YtfnpjcfaabbejaaDoor
