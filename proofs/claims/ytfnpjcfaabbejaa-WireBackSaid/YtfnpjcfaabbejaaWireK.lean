/-
  The walk of wire's key of a suffix. Names of at most 2^40 bytes.
-/
import Derived.Test.YtfnpjcfaabbejaaWireH
import Derived.Test.YtfnpjcfaabbejaaWireQ
import Derived.Test.YtfnpjcfaabbejaaJoi
namespace Go.Proofs.Ytfnpjcfaabbejaa
open Go.RowKit Go.Foldp Go.Colm Go.Wirep
set_option linter.unusedVariables false

theorem joinTail_len : ∀ r : List (List UInt8), (Lib.joinTail [46] r).length + 1 ≤ wireL r
  | [] => by simp [Lib.joinTail, wireL]
  | s :: r => by
    have := joinTail_len r
    simp only [Lib.joinTail, List.map_cons, List.flatten_cons, List.length_append, List.length_cons, List.length_nil, wireL] at this ⊢
    omega
theorem join_len : ∀ l : List (List UInt8), (Lib.join l [46]).length ≤ wireL l
  | [] => by simp [Lib.join_nil]
  | s :: r => by
    have := joinTail_len r
    rw [Lib.join_cons]
    simp only [List.length_append, wireL]
    omega

set_option maxHeartbeats 1000000 in
theorem key_any (l : List (List UInt8)) (A : Option Addr) (c : Nat) (w : World) (hr : RowV w A (labV l)) (hne : l ≠ []) (hcap : l.length ≤ c) (hl : wireL l < 1099511627776) :
    Calls Try.prog 34 #[.slice A l.length c] w fun e w' => e = .returned (.string ⟨(keyL l).toArray⟩) ∧ Below w.heap.size w w' := by
  have hlen := wireL_len l
  have hpos : 0 < l.length := List.length_pos_iff.2 hne
  obtain ⟨b, off, rfl, hc0⟩ := labV_at hr hpos
  have hjl := join_len l
  have hmap : (l.map fun s => ByteArray.mk s.toArray).map (·.data.toList) = l := by
    rw [List.map_map]
    conv => rhs; rw [← List.map_id l]
    exact List.map_congr_left fun x _ => by simp
  have hj := join_any b off c (l.map fun s => ByteArray.mk s.toArray) ⟨#[46]⟩ w (fun j x hx => by
    rw [List.getElem?_map] at hx
    obtain ⟨s, hs, rfl⟩ := Option.map_eq_some_iff.1 hx
    obtain ⟨b', off', e, h⟩ := hr j (.string ⟨s.toArray⟩) (by simp [labV, hs])
    cases e
    exact h) (lt_of_cell hc0) (by simp; omega) (by simpa using hcap) (by
    rw [hmap]
    show (Lib.join l [46]).length ≤ _
    omega)
  rw [hmap, List.length_map] at hj
  have hj2 : Calls Try.prog 43 #[.slice (some ⟨b, off, none⟩) l.length c, .string ⟨#[46]⟩] w fun e w' => e = .returned (.string ⟨(Lib.join l [46]).toArray⟩) ∧ Below w.heap.size w w' := hj
  have hlow : ∀ W, Calls Try.prog 30 #[.string ⟨(Lib.join l [46]).toArray⟩] W fun e w' => e = .returned (.string ⟨(keyL l).toArray⟩) ∧ Below W.heap.size W w' := fun W =>
    lower_any ⟨(Lib.join l [46]).toArray⟩ W (by rw [str_size]; omega)
  have HJ := Lib.hid hj2
  have HLOW := Lib.hid hlow
  clear hj hj2 hlow hr hc0 hjl hmap
  go_enter Try.func34, Try.ntmps34
  go_wp2_with fail
  refine HJ.out.mono ?_
  rintro e w1 ⟨rfl, hb1⟩
  go_wp2_with fail
  refine (HLOW.out _).mono ?_
  rintro e w2 ⟨rfl, hb2⟩
  go_wp2_with fail
  go_ret
  exact ⟨rfl, below_chain hb1 hb2⟩

end Go.Proofs.Ytfnpjcfaabbejaa
