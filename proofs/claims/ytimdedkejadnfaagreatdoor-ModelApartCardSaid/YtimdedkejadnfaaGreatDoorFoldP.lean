/-
  Plain law of small letters (layer fold). No program in sight. No condition.
-/
import Derived.Laws.BitsAllLaws
namespace Go.Foldp
/-- A byte's small letter. -/
def lowB (c : UInt8) : UInt8 := if 65 ≤ c.toNat ∧ c.toNat ≤ 90 then c + 32 else c
def lowL (l : List UInt8) : List UInt8 := l.map lowB
def lowI (c : Int) : Int := if 65 ≤ c ∧ c ≤ 90 then c + 32 else c
theorem lowI_toNat (c : UInt8) : lowI (c.toNat : Int) = ((lowB c).toNat : Int) := by
  unfold lowI lowB
  by_cases h : 65 ≤ c.toNat ∧ c.toNat ≤ 90
  · rw [if_pos (by omega), if_pos h, UInt8.toNat_add]
    simp
    omega
  · rw [if_neg (by omega), if_neg h]
theorem lowB_lowB (c : UInt8) : lowB (lowB c) = lowB c := by
  have h : ∀ n : Fin 256, lowB (lowB (UInt8.ofNat n.val)) = lowB (UInt8.ofNat n.val) := by decide +kernel
  have := h ⟨c.toNat, UInt8.toNat_lt c⟩
  simpa using this
theorem lowL_lowL (l : List UInt8) : lowL (lowL l) = lowL l := by
  unfold lowL
  rw [List.map_map]
  exact List.map_congr_left fun c _ => lowB_lowB c
theorem lowL_length (l : List UInt8) : (lowL l).length = l.length := by simp [lowL]
theorem lowL_take_succ (l : List UInt8) (k : Nat) (h : k < l.length) : lowL (l.take (k + 1)) = lowL (l.take k) ++ [lowB l[k]] := by
  rw [List.take_succ_eq_append_getElem h, lowL, List.map_append]
  rfl
theorem lowI_range {c : Int} (h0 : 0 ≤ c) (h1 : c < 256) : 0 ≤ lowI c ∧ lowI c < 256 := by
  unfold lowI
  split <;> omega
end Go.Foldp
