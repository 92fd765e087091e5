/-
  The walk of the law MixNames of layer mix: it answers true. No condition.
-/
import Derived.Test.YtpoioafchilmhaaMixE
import Derived.OpenShut
import Derived.Deep.RegionHeld3
namespace Go.Proofs.Ytpoioafchilmhaa
open Go.RowKit Go.Mixp Go.Foldp Go.Colm
set_option linter.unusedVariables false

theorem held_next {w W W2 : World} {p : Addr} {v : Value} (hc : w.cell? p = some v) (h : Below w.heap.size w W) (k : Below W.heap.size W W2) : Below w.heap.size w W2 ∧ W2.cell? p = some v :=
  ⟨below_chain h k, by rw [(below_chain h k).cell (lt_of_cell hc)]; exact hc⟩

set_option maxHeartbeats 1600000 in
theorem mixNames_walk (A : Option Addr) (l : List ByteArray) (c : Nat) (hlc : l.length ≤ c) (hcm : c ≤ maxLen) (hsm : ∀ s ∈ l, s.size ≤ maxLen) (t : Int) (wt : (Lit.int .u16 t).wf = true) (sl : Int) (wsl : (Lit.int .i64 sl).wf = true) (w : World) (hr : RowV w A (strsV l)) :
    Calls Try.prog 5 #[.slice A l.length c, .int .u16 t, .int .i64 sl] w fun e w' => e = .returned (.bool true) ∧ Below w.heap.size w w' := by
  obtain ⟨t0, t1⟩ := bounds_u16 wt
  obtain ⟨sl0, sl1⟩ := bounds_i64 wsl
  unfold maxLen at hcm hsm
  have Hr := Lib.hid hr
  have Hs := Lib.hid hsm
  clear hr hsm
  go_enter Try.func5, Try.ntmps5
  go_wp2_with fail
  go_loop [7, 8] (fun n i => ∃ (k : Nat) (n' : Int), k ≤ l.length ∧ i = .int .i64 k ∧ n = .int .i64 n' ∧ 0 ≤ n' ∧ n' ≤ 12999 ∧ Hid (∀ j, (h : j < k) → (h' : j < l.length) → (l[j].size : Int) ≤ n' ∨ 9999 ≤ n')) (fun _ i => l.length - (intOf i).toNat)
  case atStart => exact ⟨0, 0, Nat.zero_le _, rfl, rfl, by omega, by omega, Lib.hid (fun j h => absurd h (by omega))⟩
  case round =>
    obtain ⟨k, n, hk, rfl, rfl, hn0, hn1, HN⟩ := hrel
    by_cases ha : k < l.length ∧ n ≤ 3000
    · obtain ⟨ha, hb⟩ := ha
      obtain ⟨b, off, rfl, hc⟩ := Hr.out.str ha
      have hm := Hs.out l[k] (List.getElem_mem _)
      go_wp2_with fail
      go_round
      case rel =>
        refine ⟨k + 1, n + min (l[k].size : Int) 9999, by omega, by go_num, rfl, by omega, by omega, Lib.hid fun j hj hj' => ?_⟩
        by_cases hjk : j = k
        · subst hjk
          omega
        · have := HN.out j (by omega) hj'
          omega
      case measure => simp [intOf]; omega
    · by_cases h2 : 200 < l.length
      · by_cases ha2 : k < l.length
        all_goals
          go_wp2_with fail
          refine (mixes_any _).mono ?_
          rintro e w1 ⟨rfl, hb⟩
          go_wp2_with fail
          go_ret
          exact ⟨rfl, hb⟩
      · by_cases h4 : 3000 < n
        · by_cases ha2 : k < l.length
          all_goals
            go_wp2_with fail
            refine (mixes_any _).mono ?_
            rintro e w1 ⟨rfl, hb⟩
            go_wp2_with fail
            go_ret
            exact ⟨rfl, hb⟩
        · have hkl : ¬ k < l.length := fun h => ha ⟨h, by omega⟩
          have hz : ∀ s ∈ l, s.size ≤ 70368744177664 := fun s hs => by
            obtain ⟨j, hj, rfl⟩ := List.getElem_of_mem hs
            have := HN.out j (by omega) hj
            omega
          have Hz := Lib.hid hz
          have hcl := mChain_lt l
          clear HN Hs hz
          go_wp2_with fail
          refine (chain_any _ _ _ _ (by omega) Hz.out Hr.out).mono ?_
          rintro e w1 ⟨rfl, hb1⟩
          go_wp2_with fail
          clear h2 h4 hkl ha
          go_loopw [10] (fun i wr => ∃ k : Nat, k ≤ l.length ∧ k ≤ 3 ∧ i = .int .i64 k ∧ Below w.heap.size w wr) (fun i _ => 3 - (intOf i).toNat)
          case atStart => exact ⟨0, Nat.zero_le _, by omega, rfl, hb1⟩
          case round =>
            obtain ⟨j, hj, hj3, rfl, hbr⟩ := hrel
            by_cases hj2 : j < l.length ∧ j < 3
            · obtain ⟨ha, hb⟩ := hj2
              obtain ⟨b, off, rfl, hc⟩ := (Hr.out.below hbr).str ha
              have hm := Hz.out l[j] (List.getElem_mem _)
              have hs0 : Below wr.heap.size wr wr.drew ∧ wr.drew.cell? ⟨b, off + j, none⟩ = some (.string l[j]) := ⟨(Below.refl _ _).drew, hc⟩
              go_wp2_with fail
              go_region_held3 (fun w' => Below wr.heap.size wr w' ∧ w'.cell? ⟨b, off + j, none⟩ = some (.string l[j]))
                (first | exact hs0 | exact held_next hc (by assumption) (by assumption) | exact held_next hc (And.left (by assumption)) (by assumption))
                (first
                  | ((go_at_call 14; with_reducible refine (label_any _ _ _ (by omega) (by omega) hm).mono ?_); rintro e w2 ⟨rfl, hb2⟩)
                  | ((go_at_call 15; with_reducible refine (rlabel_any _ _ _ (by omega) (by omega) hm).mono ?_); rintro e w2 ⟨rfl, hb2⟩))
              go_wp2_with fail
              go_roundw
              case rel => exact ⟨j + 1, by omega, by omega, by go_num, below_chain hbr (by first | assumption | exact And.left (by assumption))⟩
              case measure => simp [intOf]; omega
            · have hmt : ((mKey (mChain l) t.toNat : Nat) : Int) = (mKey (mChain l) t.toNat : Nat) := rfl
              have ck := fun W => key_any (mChain l : Nat) t W (by omega) (by omega) (by omega) (by omega)
              have crk := fun W => rkey_any (mChain l : Nat) t W (by omega) (by omega) (by omega) (by omega)
              rw [Int.toNat_natCast] at ck crk
              have ck := Lib.hid ck
              have crk := Lib.hid crk
              clear hmt
              by_cases ha2 : j < l.length
              all_goals
                go_wp2_with fail
                refine (rchain_any _ _ _ _ (by omega) Hz.out (Hr.out.below hbr)).mono ?_
                rintro e w2 ⟨rfl, hb2⟩
                go_wp2_with fail
                refine (ck.out _).mono ?_
                rintro e w3 ⟨rfl, hb3⟩
                go_wp2_with fail
                refine (crk.out _).mono ?_
                rintro e w4 ⟨rfl, m, rfl⟩
                go_wp2_with fail
                refine (home_any _ _ _ (by omega) (by omega) (by omega) (by omega)).mono ?_
                rintro e w5 ⟨rfl, rfl⟩
                go_wp2_with fail
                refine (rhome_any _ _ _ (by omega) (by omega) (by omega) (by omega)).mono ?_
                rintro e w5 ⟨rfl, rfl⟩
                go_wp2_with fail
                refine (mixes_any _).mono ?_
                rintro e w6 ⟨rfl, hb6⟩
                go_wp2_with fail
                go_ret
                exact ⟨rfl, below_chain (below_drewN (below_chain (below_chain hbr hb2) hb3) _) hb6⟩

end Go.Proofs.Ytpoioafchilmhaa
