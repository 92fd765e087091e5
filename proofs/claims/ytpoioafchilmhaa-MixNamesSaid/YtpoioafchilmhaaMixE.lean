/-
  The walk of the examples that every law of layer mix ends with: they hold. No condition.
-/
import Derived.Test.YtpoioafchilmhaaMixD
namespace Go.Proofs.Ytpoioafchilmhaa
open Go.RowKit Go.Mixp Go.Foldp Go.Colm

theorem ex_a : mBytes 2166136261 [97] = 3826002220 := by
  rw [mBytes_cons, mBytes_nil]
  unfold mStep
  decide +kernel
theorem ex_aB : mLabel 5 [97, 66] = mLabel 5 [65, 98] := by
  unfold mLabel
  rw [show lowL [97, 66] = lowL [65, 98] by decide +kernel]

theorem chain_nil (w : World) : Calls Try.prog 13 #[.slice none 0 0] w fun e w' => e = .returned (.int .u32 2166136261) ∧ Below w.heap.size w w' := by
  have c := chain_any none [] 0 w (by simp) (by simp) (RowV.nil _ _)
  rw [mChain_nil] at c
  exact c
theorem bytes_a (w : World) (m : Nat × Nat) : Calls Try.prog 11 #[.int .u32 2166136261, .slice (some ⟨w.heap.size, 0, none⟩) 1 1] (w.alloc (.cells #[.int .u8 97] 5 m)) fun e w' => e = .returned (.int .u32 3826002220) ∧ w.alloc (.cells #[.int .u8 97] 5 m) = w' := by
  have c := bytes_any 2166136261 (some ⟨w.heap.size, 0, none⟩) [97] 1 _ (by omega) (by omega) (by simp) (RowV.newM w 5 #[.int .u8 97] m)
  have e : (mBytes (2166136261 : Int).toNat [97] : Int) = 3826002220 := by
    rw [show (2166136261 : Int).toNat = 2166136261 by omega, ex_a]
    omega
  rw [e] at c
  exact c
theorem label_aB (w : World) : Calls Try.prog 14 #[.int .u32 5, .string ⟨#[97, 66]⟩] w fun e w' => e = .returned (.int .u32 (mLabel 5 [65, 98] : Nat)) ∧ Below w.heap.size w w' := by
  have c := label_any 5 ⟨#[97, 66]⟩ w (by omega) (by omega) (by decide)
  rw [← ex_aB]
  exact c
theorem label_Ab (w : World) : Calls Try.prog 14 #[.int .u32 5, .string ⟨#[65, 98]⟩] w fun e w' => e = .returned (.int .u32 (mLabel 5 [65, 98] : Nat)) ∧ Below w.heap.size w w' :=
  label_any 5 ⟨#[65, 98]⟩ w (by omega) (by omega) (by decide)
theorem home_7 (w : World) : Calls Try.prog 19 #[.int .u32 10, .int .i64 7] w fun e w' => e = .returned (.int .i64 3) ∧ w = w' :=
  home_any 10 7 w (by omega) (by omega) (by omega) (by omega)
theorem home_0 (w : World) : Calls Try.prog 19 #[.int .u32 10, .int .i64 0] w fun e w' => e = .returned (.int .i64 0) ∧ w = w' :=
  home_any 10 0 w (by omega) (by omega) (by omega) (by omega)

set_option maxHeartbeats 800000 in
theorem mixes_any (w : World) : Calls Try.prog 8 #[] w fun e w' => e = .returned (.bool true) ∧ Below w.heap.size w w' := by
  have kc := fun (w : World) (C : Array Value) (n c : Nat) => Lib.run_convert_bytes_const (P := Try.prog) w 23 5 C n c Try.underlying23 Try.underlying5
  go_enter Try.func8, Try.ntmps8
  go_wp2_with fail
  refine (chain_nil _).mono ?_
  rintro e w1 ⟨rfl, hb1⟩
  go_wp2_with fail
  refine (bytes_a _ _).mono ?_
  rintro e w2 ⟨rfl, rfl⟩
  go_wp2_with fail
  refine (label_aB _).mono ?_
  rintro e w3 ⟨rfl, hb3⟩
  go_wp2_with fail
  refine (label_Ab _).mono ?_
  rintro e w4 ⟨rfl, hb4⟩
  go_wp2_with fail
  refine (home_7 _).mono ?_
  rintro e w5 ⟨rfl, rfl⟩
  go_wp2_with fail
  refine (home_0 _).mono ?_
  rintro e w6 ⟨rfl, rfl⟩
  go_wp2_with fail
  go_ret
  exact ⟨rfl, below_chain (below_chain hb1 (below_chain ((Below.refl _ _).alloc (Nat.le_refl _) _) hb3)) hb4⟩

end Go.Proofs.Ytpoioafchilmhaa
