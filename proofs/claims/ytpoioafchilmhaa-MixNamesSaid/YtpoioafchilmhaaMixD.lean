/-
  The walks of layer mix's Chain and of the reference's: what each call answers of any labels, each of at most 2^46 bytes, and what becomes of the world.
-/
import Derived.Test.YtpoioafchilmhaaMixC
import Derived.Test.YtpoioafchilmhaaInp
namespace Go.Proofs.Ytpoioafchilmhaa
open Go.RowKit Go.Mixp Go.Foldp Go.Colm

/-- The number of labels, the last one first. -/
def mChain : List ByteArray → Nat
  | [] => 2166136261
  | s :: l => mLabel (mChain l) s.data.toList
theorem mChain_nil_nat : mChain [] = 2166136261 := by rw [mChain]
theorem mChain_cons (s : ByteArray) (l : List ByteArray) : mChain (s :: l) = mLabel (mChain l) s.data.toList := by rw [mChain]
attribute [irreducible] mChain
theorem mChain_lt (l : List ByteArray) : mChain l < 4294967296 := by
  rcases l with _ | ⟨s, l⟩
  · rw [mChain_nil_nat]
    omega
  · rw [mChain_cons]
    exact mLabel_lt _ _
theorem mChain_nil : ((mChain [] : Nat) : Int) = 2166136261 := by
  rw [mChain_nil_nat]
  omega
theorem mChain_drop (l : List ByteArray) (k : Nat) (h : k < l.length) : mChain (l.drop k) = mLabel (mChain (l.drop (k + 1))) l[k].data.toList := by
  rw [List.drop_eq_getElem_cons h, mChain_cons]
set_option maxHeartbeats 800000 in
theorem chain_any (A : Option Addr) (l : List ByteArray) (c : Nat) (w : World) (hl : l.length ≤ 140737488355328) (hs : ∀ s ∈ l, s.size ≤ 70368744177664) (hr : RowV w A (strsV l)) :
    Calls Try.prog 13 #[.slice A l.length c] w fun e w' => e = .returned (.int .u32 (mChain l : Nat)) ∧ Below w.heap.size w w' := by
  have Hr := Lib.hid hr
  have Hs := Lib.hid hs
  clear hr hs
  go_enter Try.func13, Try.ntmps13
  go_wp2_with fail
  go_loopw [3, 7] (fun h i wr => ∃ k : Nat, k ≤ l.length ∧ i = .int .i64 k ∧ h = .int .u32 (mChain (l.drop (l.length - k)) : Nat) ∧ Below w.heap.size w wr) (fun _ i _ => l.length - (intOf i).toNat)
  case atStart => exact ⟨0, Nat.zero_le _, rfl, by rw [Nat.sub_zero, List.drop_length, mChain_nil], Below.refl _ _⟩
  case round =>
    obtain ⟨k, hk, rfl, rfl, hb⟩ := hrel
    have hlt := mChain_lt (l.drop (l.length - k))
    by_cases hk2 : k < l.length
    · obtain ⟨b, off, rfl, hc⟩ := (Hr.out.below hb).str (k := l.length - 1 - k) (by omega)
      have hm := Hs.out l[l.length - 1 - k] (List.getElem_mem _)
      have he : mChain (l.drop (l.length - (k + 1))) = mLabel (mChain (l.drop (l.length - k))) l[l.length - 1 - k].data.toList := by
        have h := mChain_drop l (l.length - 1 - k) (by omega)
        rw [show l.length - 1 - k + 1 = l.length - k by omega] at h
        rw [show l.length - (k + 1) = l.length - 1 - k by omega]
        exact h
      have He := Lib.hid he
      clear he
      go_wp2_with fail
      refine (label_any _ _ _ (by omega) (by omega) hm).mono ?_
      rintro e w2 ⟨rfl, hb2⟩
      go_wp2_with fail
      go_roundw
      case rel => exact ⟨k + 1, by omega, by go_num, by rw [He.out], below_chain hb hb2⟩
      case measure => simp [intOf]; omega
    · go_wp2_with fail
      go_ret
      exact ⟨ret_int (by rw [show l.length - k = 0 by omega, List.drop_zero]), hb⟩

set_option maxHeartbeats 800000 in
theorem rchain_any (A : Option Addr) (l : List ByteArray) (c : Nat) (w : World) (hl : l.length ≤ 140737488355328) (hs : ∀ s ∈ l, s.size ≤ 70368744177664) (hr : RowV w A (strsV l)) :
    Calls Try.prog 16 #[.slice A l.length c] w fun e w' => e = .returned (.int .u32 (mChain l : Nat)) ∧ Below w.heap.size w w' := by
  have Hr := Lib.hid hr
  have Hs := Lib.hid hs
  clear hr hs
  go_enter Try.func16, Try.ntmps16
  go_wp2_with fail
  go_loopw [3, 4] (fun h i wr => ∃ k : Nat, k ≤ l.length ∧ i = .int .i64 ((k : Int) - 1) ∧ h = .int .u32 (mChain (l.drop k) : Nat) ∧ Below w.heap.size w wr) (fun _ i _ => (intOf i + 1).toNat)
  case atStart => exact ⟨l.length, Nat.le_refl _, rfl, by rw [List.drop_length, mChain_nil], Below.refl _ _⟩
  case round =>
    obtain ⟨k, hk, rfl, rfl, hb⟩ := hrel
    have hlt := mChain_lt (l.drop k)
    by_cases hk2 : k = 0
    · subst hk2
      go_wp2_with fail
      go_ret
      exact ⟨ret_int (by rw [List.drop_zero]), hb⟩
    · obtain ⟨j, rfl⟩ : ∃ j, k = j + 1 := ⟨k - 1, by omega⟩
      obtain ⟨b, off, rfl, hc⟩ := (Hr.out.below hb).str (k := j) (by omega)
      have hm := Hs.out l[j] (List.getElem_mem _)
      have He := Lib.hid (mChain_drop l j (by omega))
      go_wp2_with fail
      refine (rlabel_any _ _ _ (by omega) (by omega) hm).mono ?_
      rintro e w2 ⟨rfl, hb2⟩
      go_wp2_with fail
      go_roundw
      case rel => exact ⟨j, by omega, by go_num, by rw [He.out], below_chain hb hb2⟩
      case measure => simp [intOf]

end Go.Proofs.Ytpoioafchilmhaa
