/-
  The walk of the law MixParts of layer mix: it answers true. No condition.
-/
import Derived.Test.YtpoioafchilmhaaMixE
import Derived.OpenShut
import Derived.Deep.RegionHeld3
namespace Go.Proofs.Ytpoioafchilmhaa
open Go.RowKit Go.Mixp Go.Foldp Go.Colm
set_option linter.unusedVariables false

set_option maxHeartbeats 1600000 in
theorem mixParts_walk (h : Int) (wh : (Lit.int .u32 h).wf = true) (A : Option Addr) (l : List UInt8) (c : Nat) (hlc : l.length ≤ c) (hcm : c ≤ maxLen) (k : Int) (wk : (Lit.int .i64 k).wf = true) (s : ByteArray) (hs : s.size ≤ maxLen) (w : World) (hr : RowV w A (bytesV l)) :
    Calls Try.prog 4 #[.int .u32 h, .slice A l.length c, .int .i64 k, .string s] w fun e w' => e = .returned (.bool true) ∧ Below w.heap.size w w' := by
  obtain ⟨h0, h1⟩ := bounds_u32 wh
  obtain ⟨k0, k1⟩ := bounds_i64 wk
  unfold maxLen at hcm hs
  have Hr := Lib.hid hr
  clear hr
  by_cases h3 : 3000 < l.length
  · go_enter Try.func4, Try.ntmps4
    go_wp2_with fail
    refine (mixes_any _).mono ?_
    rintro e w1 ⟨rfl, hb⟩
    go_wp2_with fail
    go_ret
    exact ⟨rfl, hb⟩
  · by_cases h4 : 3000 < s.size
    · go_enter Try.func4, Try.ntmps4
      go_wp2_with fail
      refine (mixes_any _).mono ?_
      rintro e w1 ⟨rfl, hb⟩
      go_wp2_with fail
      go_ret
      exact ⟨rfl, hb⟩
    · by_cases h5 : k < 0
      · go_enter Try.func4, Try.ntmps4
        go_wp2_with fail
        refine (mixes_any _).mono ?_
        rintro e w1 ⟨rfl, hb⟩
        go_wp2_with fail
        go_ret
        exact ⟨rfl, hb⟩
      · by_cases h6 : (l.length : Int) < k
        · go_enter Try.func4, Try.ntmps4
          go_wp2_with fail
          refine (mixes_any _).mono ?_
          rintro e w1 ⟨rfl, hb⟩
          go_wp2_with fail
          go_ret
          exact ⟨rfl, hb⟩
        · obtain ⟨k, rfl⟩ := Int.eq_ofNat_of_zero_le (show 0 ≤ k by omega)
          have hkl : k ≤ l.length := by omega
          have cut1 := fun W => run_cut_to (P := Try.prog) Try.underlying23 Try.sizeOf5 A l.length c .i64 (k : Int) (by omega) (by omega) W
          have cut2 := fun W => run_cut_from (P := Try.prog) Try.underlying23 Try.sizeOf5 A l.length c .i64 (k : Int) (by omega) (by omega) W
          rw [Int.toNat_natCast] at cut1 cut2
          have hx1 : RowV w A (bytesV (l.take k)) := by
            have := Hr.out.take k
            rwa [bytesV, ← List.map_take] at this
          have hx2 : RowV w (cutA A c k 1) (bytesV (l.drop k)) := by
            have := Hr.out.cut (c := c) (k := k) (s := 1) (by rw [bytesV_length]; omega)
            rwa [bytesV, ← List.map_drop, Nat.mul_one] at this
          have hx3 : RowV (w.alloc (.cells #[.string s, .string ⟨#[120]⟩, .string ⟨#[89, 90]⟩] 9)) (some ⟨w.heap.size, 0, none⟩) (strsV [s, ⟨#[120]⟩, ⟨#[89, 90]⟩]) := RowV.new w 9 #[.string s, .string ⟨#[120]⟩, .string ⟨#[89, 90]⟩]
          have hx4 : RowV (w.alloc (.cells #[.string s, .string ⟨#[120]⟩, .string ⟨#[89, 90]⟩] 9)) (cutA (some ⟨w.heap.size, 0, none⟩) 3 (1 : Int).toNat 1) (strsV [⟨#[120]⟩, ⟨#[89, 90]⟩]) := hx3.cut (c := 3) (k := 1) (s := 1) (by simp [strsV])
          rw [show cutA (some ⟨w.heap.size, 0, none⟩) 3 (1 : Int).toNat 1 = some ⟨w.heap.size, 1, none⟩ by simp [cutA, Addr.add]] at hx4
          have hbw : Below w.heap.size w (w.alloc (.cells #[.string s, .string ⟨#[120]⟩, .string ⟨#[89, 90]⟩] 9)) := (Below.refl _ _).alloc (Nat.le_refl _) _
          have hz : ∀ x ∈ [s, (⟨#[120]⟩ : ByteArray), ⟨#[89, 90]⟩], x.size ≤ 70368744177664 := by
            intro x hx
            simp only [List.mem_cons, List.not_mem_nil, or_false] at hx
            rcases hx with rfl | rfl | rfl
            · omega
            · decide
            · decide
          have hm := mBytes_lt (h := h.toNat) (by omega) (l.take k)
          have e12 : mBytes (mBytes h.toNat (l.take k)) (l.drop k) = mBytes h.toNat l := by rw [← mBytes_append, List.take_append_drop]
          have hcl := mChain_lt [⟨#[120]⟩, ⟨#[89, 90]⟩]
          have e3 : mLabel (mChain [⟨#[120]⟩, ⟨#[89, 90]⟩]) s.data.toList = mChain [s, ⟨#[120]⟩, ⟨#[89, 90]⟩] := (mChain_cons _ _).symm
          have C1 : ∀ W, Below w.heap.size w W → Calls Try.prog 11 #[.int .u32 h, .slice A k c] W fun e w' => e = .returned (.int .u32 (mBytes h.toNat (l.take k) : Nat)) ∧ W = w' := fun W hW => by
            have c1 := bytes_any h A (l.take k) c W h0 (by omega) (by rw [List.length_take]; omega) (hx1.below hW)
            rwa [List.length_take, Nat.min_eq_left hkl] at c1
          have C2 : ∀ W, Below w.heap.size w W → Calls Try.prog 11 #[.int .u32 (mBytes h.toNat (l.take k) : Nat), .slice (cutA A c k 1) (l.length - k) (c - k)] W fun e w' => e = .returned (.int .u32 (mBytes h.toNat l : Nat)) ∧ W = w' := fun W hW => by
            have c2 := bytes_any (mBytes h.toNat (l.take k) : Nat) (cutA A c k 1) (l.drop k) (c - k) W (by omega) (by omega) (by rw [List.length_drop]; omega) (hx2.below hW)
            rwa [List.length_drop, Int.toNat_natCast, e12] at c2
          have C3 : ∀ W, Below w.heap.size w W → Calls Try.prog 11 #[.int .u32 h, .slice A l.length c] W fun e w' => e = .returned (.int .u32 (mBytes h.toNat l : Nat)) ∧ W = w' := fun W hW =>
            bytes_any h A l c W h0 (by omega) (by omega) (Hr.out.below hW)
          have Hr' := Hr
          clear Hr hx1 hx2 e12
          go_enter Try.func4, Try.ntmps4
          go_wp2_with fail
          obtain ⟨w1, hw1⟩ : ∃ w1, w1 = w.alloc (.cells #[.string s, .string ⟨#[120]⟩, .string ⟨#[89, 90]⟩] 9) := ⟨_, rfl⟩
          rw [← hw1] at hx3 hx4 hbw ⊢
          clear hw1
          have C4 : ∀ W, Below w1.heap.size w1 W → Calls Try.prog 13 #[.slice (some ⟨w.heap.size, 0, none⟩) 3 3] W fun e w' => e = .returned (.int .u32 (mChain [s, ⟨#[120]⟩, ⟨#[89, 90]⟩] : Nat)) ∧ Below W.heap.size W w' := fun W hW =>
            chain_any _ [s, ⟨#[120]⟩, ⟨#[89, 90]⟩] 3 W (by simp) hz (hx3.below hW)
          have C5 : ∀ W, Below w1.heap.size w1 W → Calls Try.prog 13 #[.slice (some ⟨w.heap.size, 1, none⟩) 2 2] W fun e w' => e = .returned (.int .u32 (mChain [⟨#[120]⟩, ⟨#[89, 90]⟩] : Nat)) ∧ Below W.heap.size W w' := fun W hW =>
            chain_any _ [⟨#[120]⟩, ⟨#[89, 90]⟩] 2 W (by simp) (fun x hx => hz x (List.mem_cons_of_mem _ hx)) (hx4.below hW)
          have C6 : ∀ W, Calls Try.prog 14 #[.int .u32 (mChain [⟨#[120]⟩, ⟨#[89, 90]⟩] : Nat), .string s] W fun e w' => e = .returned (.int .u32 (mChain [s, ⟨#[120]⟩, ⟨#[89, 90]⟩] : Nat)) ∧ Below W.heap.size W w' := fun W => by
            have c := label_any (mChain [⟨#[120]⟩, ⟨#[89, 90]⟩] : Nat) s W (by omega) (by omega) (by omega)
            rwa [Int.toNat_natCast, e3] at c
          have hd : Below w1.heap.size w1 w1.drew := (Below.refl _ _).drew
          have K1 := fun W (hW : Below w1.heap.size w1 W) => C1 W (below_chain hbw hW)
          have K2 := fun W (hW : Below w1.heap.size w1 W) => C2 W (below_chain hbw hW)
          have K3 := fun W (hW : Below w1.heap.size w1 W) => C3 W (below_chain hbw hW)
          have L1 := Lib.hid K1
          have L2 := Lib.hid K2
          have L3 := Lib.hid K3
          have L4 := Lib.hid C4
          have L5 := Lib.hid C5
          have L6 := Lib.hid C6
          clear K1 K2 K3 C1 C2 C3 C4 C5 C6 e3 hx3 hx4 hz
          go_region_held3 (fun w' => Below w1.heap.size w1 w') (first | exact hd | assumption | exact below_chain (by assumption) (by assumption))
            (first
              | ((go_at_call 11; with_reducible refine (L1.out _ (by assumption)).mono ?_); rintro e w2 ⟨rfl, rfl⟩)
              | ((go_at_call 11; with_reducible refine (L2.out _ (by assumption)).mono ?_); rintro e w2 ⟨rfl, rfl⟩)
              | ((go_at_call 11; with_reducible refine (L3.out _ (by assumption)).mono ?_); rintro e w2 ⟨rfl, rfl⟩)
              | ((go_at_call 13; with_reducible refine (L4.out _ (by assumption)).mono ?_); rintro e w2 ⟨rfl, hb4⟩)
              | ((go_at_call 13; with_reducible refine (L5.out _ (by assumption)).mono ?_); rintro e w2 ⟨rfl, hb5⟩)
              | ((go_at_call 14; with_reducible refine (L6.out _).mono ?_); rintro e w2 ⟨rfl, hb6⟩)
              | ((go_at_call 8; with_reducible refine (mixes_any _).mono ?_); rintro e w2 ⟨rfl, hb7⟩))
          go_wp2_with fail
          go_ret
          exact ⟨rfl, below_chain hbw (by assumption)⟩

end Go.Proofs.Ytpoioafchilmhaa
