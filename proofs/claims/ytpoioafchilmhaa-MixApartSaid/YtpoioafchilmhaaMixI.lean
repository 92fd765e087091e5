/-
  The walk of the law MixApart of layer mix: it answers true. No condition.
-/
import Derived.Test.YtpoioafchilmhaaMixE
import Derived.OpenShut
namespace Go.Proofs.Ytpoioafchilmhaa
open Go.RowKit Go.Mixp Go.Foldp Go.Colm
set_option linter.unusedVariables false

theorem mKey_inj {g h : Nat} (hg : g < 4294967296) (hh : h < 4294967296) (t : Nat) (ht : t < 65536) (e : mKey g t = mKey h t) : g = h := by
  unfold mKey at e
  exact mStep_inj hg hh (by omega) (mStep_inj (mStep_lt _ _) (mStep_lt _ _) (by omega) e)

set_option maxHeartbeats 1600000 in
theorem mixApart_walk (g : Int) (wg : (Lit.int .u32 g).wf = true) (h : Int) (wh : (Lit.int .u32 h).wf = true) (A : Option Addr) (l : List UInt8) (c : Nat) (hlc : l.length ≤ c) (hcm : c ≤ maxLen) (w : World) (hr : RowV w A (bytesV l)) :
    Calls Try.prog 7 #[.int .u32 g, .int .u32 h, .slice A l.length c] w fun e w' => e = .returned (.bool true) ∧ Below w.heap.size w w' := by
  obtain ⟨g0, g1⟩ := bounds_u32 wg
  obtain ⟨h0, h1⟩ := bounds_u32 wh
  unfold maxLen at hcm
  have Hr := Lib.hid hr
  clear hr
  by_cases h3 : 3000 < l.length
  · go_enter Try.func7, Try.ntmps7
    go_wp2_with fail
    refine (mixes_any _).mono ?_
    rintro e w1 ⟨rfl, hb⟩
    go_wp2_with fail
    go_ret
    exact ⟨rfl, hb⟩
  · by_cases e : g = h
    · subst e
      go_enter Try.func7, Try.ntmps7
      go_wp2_with fail
      refine (bytes_any _ _ _ _ _ g0 (by omega) (by omega) Hr.out).mono ?_
      rintro e w1 ⟨rfl, rfl⟩
      go_wp2_with fail
      refine (bytes_any _ _ _ _ _ g0 (by omega) (by omega) Hr.out).mono ?_
      rintro e w1 ⟨rfl, rfl⟩
      go_wp2_with fail
      refine (key_any _ _ _ g0 (by omega) (by omega) (by omega)).mono ?_
      rintro e w1 ⟨rfl, hb1⟩
      go_wp2_with fail
      refine (key_any _ _ _ g0 (by omega) (by omega) (by omega)).mono ?_
      rintro e w2 ⟨rfl, hb2⟩
      go_wp2_with fail
      refine (mixes_any _).mono ?_
      rintro e w3 ⟨rfl, hb3⟩
      go_wp2_with fail
      go_ret
      exact ⟨rfl, below_chain (below_chain hb1 hb2) hb3⟩
    · have n1 : (((mBytes g.toNat l : Nat) : Int) == (mBytes h.toNat l : Nat)) = false := by
        rw [beq_eq_false_iff_ne]
        intro x
        have := mBytes_inj l (g := g.toNat) (h := h.toNat) (by omega) (by omega) (by omega)
        omega
      have n2 : (((mKey g.toNat (7 : Int).toNat : Nat) : Int) == (mKey h.toNat (7 : Int).toNat : Nat)) = false := by
        rw [beq_eq_false_iff_ne]
        intro x
        have := mKey_inj (g := g.toNat) (h := h.toNat) (by omega) (by omega) (7 : Int).toNat (by omega) (by omega)
        omega
      have n3 : (g == h) = false := by
        rw [beq_eq_false_iff_ne]
        exact e
      obtain ⟨B1, B2, nB, b1, b2⟩ : ∃ B1 B2 : Int, (B1 == B2) = false ∧ (∀ W, W = w → Calls Try.prog 11 #[.int .u32 g, .slice A l.length c] W fun e w' => e = .returned (.int .u32 B1) ∧ W = w') ∧
          (∀ W, W = w → Calls Try.prog 11 #[.int .u32 h, .slice A l.length c] W fun e w' => e = .returned (.int .u32 B2) ∧ W = w') :=
        ⟨_, _, n1, fun W hW => by subst hW; exact bytes_any _ _ _ _ _ g0 (by omega) (by omega) Hr.out, fun W hW => by subst hW; exact bytes_any _ _ _ _ _ h0 (by omega) (by omega) Hr.out⟩
      obtain ⟨K1, K2, nK, k1, k2⟩ : ∃ K1 K2 : Int, (K1 == K2) = false ∧ (∀ W, Calls Try.prog 17 #[.int .u32 g, .int .u16 7] W fun e w' => e = .returned (.int .u32 K1) ∧ Below W.heap.size W w') ∧
          (∀ W, Calls Try.prog 17 #[.int .u32 h, .int .u16 7] W fun e w' => e = .returned (.int .u32 K2) ∧ Below W.heap.size W w') :=
        ⟨_, _, n2, fun W => key_any _ _ _ g0 (by omega) (by omega) (by omega), fun W => key_any _ _ _ h0 (by omega) (by omega) (by omega)⟩
      have b1 := Lib.hid b1
      have b2 := Lib.hid b2
      have k1 := Lib.hid k1
      have k2 := Lib.hid k2
      clear n1 n2 e
      go_enter Try.func7, Try.ntmps7
      go_wp2_with fail
      refine (b1.out _ rfl).mono ?_
      rintro e w1 ⟨rfl, rfl⟩
      go_wp2_with fail
      refine (b2.out _ rfl).mono ?_
      rintro e w1 ⟨rfl, rfl⟩
      go_wp2_with fail
      refine (k1.out _).mono ?_
      rintro e w1 ⟨rfl, hb1⟩
      go_wp2_with fail
      refine (k2.out _).mono ?_
      rintro e w2 ⟨rfl, hb2⟩
      go_wp2_with fail
      refine (mixes_any _).mono ?_
      rintro e w3 ⟨rfl, hb3⟩
      go_wp2_with fail
      go_ret
      exact ⟨rfl, below_chain (below_chain hb1 hb2) hb3⟩

end Go.Proofs.Ytpoioafchilmhaa
