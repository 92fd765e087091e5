/-
  The walk of Same on the same names, and of the law WireAll. No condition.
-/
import Derived.Test.YtfnpjcfaabbejaaWireAA
import Derived.Test.YtfnpjcfaabbejaaWireY
import Derived.OpenShut
namespace Go.Proofs.Ytfnpjcfaabbejaa
open Go.RowKit Go.Foldp Go.Colm Go.Wirep Go.Maps
set_option linter.unusedVariables false

theorem allG_len (b : List UInt8) : ∀ (f at_ : Nat) (out : List (List (List UInt8))), out.length ≤ at_ → at_ ≤ b.length → (∀ l ∈ out, l.length ≤ 255) → (allG b f at_ out).1.length ≤ b.length ∧ ∀ l ∈ (allG b f at_ out).1, l.length ≤ 255
  | 0, at_, out, h, h2, h3 => by
    rw [allG]
    exact ⟨Nat.le_trans h h2, h3⟩
  | f + 1, at_, out, h, h2, h3 => by
    rw [allG]
    by_cases hlt : b.length ≤ at_
    · rw [if_pos hlt]
      exact ⟨Nat.le_trans h h2, h3⟩
    · rw [if_neg hlt]
      by_cases he : (getA b at_).2.2 = 0
      · rw [if_pos he]
        have := getA_next he
        refine allG_len b f _ _ (by simp; omega) this.2 fun l hl => ?_
        rcases List.mem_append.1 hl with hl | hl
        · exact h3 l hl
        · rcases List.mem_singleton.1 hl with rfl
          exact getA_len b at_
      · rw [if_neg he]
        simp
theorem allL_len (b : List UInt8) : (allL b).1.length ≤ b.length ∧ ∀ l ∈ (allL b).1, l.length ≤ 255 := allG_len b _ _ _ (Nat.le_refl _) (Nat.zero_le _) (by simp)

set_option maxRecDepth 100000 in
set_option maxHeartbeats 4000000 in
theorem same_names (ll : List (List (List UInt8))) (A B : Option Addr) (ca cb : Nat) (w : World) (ha : NamesR w A ll) (hb : NamesR w B ll) (hl : ll.length < 1099511627776) (hs : ∀ l ∈ ll, l.length ≤ 255) :
    Calls Try.prog 15 #[.slice A ll.length ca, .slice B ll.length cb] w fun e w' => e = .returned (.bool true) ∧ Below w.heap.size w w' := by
  have HA := Lib.hid ha
  have HB := Lib.hid hb
  have HS := Lib.hid hs
  clear ha hb hs
  go_enter Try.func15, Try.ntmps15
  go_wp2_with fail
  go_loopw [5] (fun i wr => ∃ k : Nat, k ≤ ll.length ∧ i = .int .i64 k ∧ Below w.heap.size w wr) (fun i _ => ll.length - (intOf i).toNat)
  case atStart => exact ⟨0, Nat.zero_le _, rfl, Below.refl _ _⟩
  case round =>
    obtain ⟨k, hk, rfl, hbw⟩ := hrel
    by_cases hlt : k < ll.length
    · obtain ⟨ba, oa, Aa, cca, rfl, xa, ra⟩ := (HA.out.below hbw) k _ (List.getElem?_eq_getElem hlt)
      obtain ⟨bb, ob, Ab, ccb, rfl, xb, rb⟩ := (HB.out.below hbw) k _ (List.getElem?_eq_getElem hlt)
      have hl255 := HS.out ll[k] (List.getElem_mem hlt)
      have xad : wr.drew.cell? ⟨ba, oa + k, none⟩ = some (.slice Aa ll[k].length cca) := xa
      have xbd : wr.drew.cell? ⟨bb, ob + k, none⟩ = some (.slice Ab ll[k].length ccb) := xb
      have hc := same_strs ll[k] ll[k] Aa Ab cca ccb wr.drew (ra.drewN 1) (rb.drewN 1) (by omega) (by omega)
      rw [beq_self_eq_true] at hc
      have HC := Lib.hid hc
      have HBW := Lib.hid hbw
      clear hc ra rb hbw xa xb
      go_wp2_with fail
      go_region_law (
        (refine step_call (w := wr.drew) rfl 10 #[.slice Aa ll[k].length cca, .slice Ab ll[k].length ccb] (by first | kernel_rfl | rfl | (simp [execOp, go_sem])) (.bool true) (fun w' => Below wr.drew.heap.size wr.drew w') HC.out ?_
         intro w3 hb3
         have HB3 := Lib.hid (below_chain HBW.out (below_chain (below_of_drewN wr 1) hb3))
         clear hb3))
      all_goals
        go_wp2_with fail
        go_roundw
        case rel => exact ⟨k + 1, by omega, by go_num, HB3.out⟩
        case measure => simp [intOf]; omega
    · go_wp2_with fail
      go_ret
      exact ⟨rfl, hbw⟩

set_option maxRecDepth 100000 in
set_option maxHeartbeats 4000000 in
theorem wireAll_walk (A : Option Addr) (b : List UInt8) (c : Nat) (hlc : b.length ≤ c) (hcm : c ≤ maxLen) (w : World) (hr : RowV w A (bytesV b)) :
    Calls Try.prog 5 #[.slice A b.length c] w fun e w' => e = .returned (.bool true) ∧ Below w.heap.size w w' := by
  unfold maxLen at hcm
  have Hr := Lib.hid hr
  clear hr
  by_cases h3 : 1000 < b.length
  · go_enter Try.func5, Try.ntmps5
    go_wp2_with fail
    refine (wires_any _).mono ?_
    rintro e w1 ⟨rfl, hb⟩
    go_wp2_with fail
    go_ret
    exact ⟨rfl, hb⟩
  · have hgl := allL_len b
    obtain ⟨g, hg⟩ : ∃ g, g = allL b := ⟨_, rfl⟩
    have HG1 : Hid (∀ W, Below w.heap.size w W → Calls Try.prog 13 #[.slice A b.length c] W (AllIt W g)) := Lib.hid (fun W hb => hg ▸ wall_any A c b W (Hr.out.below hb) hlc (by omega))
    have HG2 : Hid (∀ W, Below w.heap.size w W → Calls Try.prog 14 #[.slice A b.length c] W (AllIt W g)) := Lib.hid (fun W hb => hg ▸ rall_any A c b W (Hr.out.below hb) hlc (by omega))
    rw [← hg] at hgl
    clear hg
    obtain ⟨gl, ge⟩ := g
    simp only at hgl
    obtain ⟨hgl, hgs⟩ := hgl
    have HGS := Lib.hid hgs
    clear hgs
    go_enter Try.func5, Try.ntmps5
    go_wp2_with fail
    refine (HG1.out _ (Below.refl _ _)).mono ?_
    rintro e w1 ⟨A1, c1, rfl, hr1, hb1⟩
    have HR1 := Lib.hid hr1
    have HB1 := Lib.hid hb1
    clear hr1 hb1
    go_wp2_with fail
    refine (HG2.out _ HB1.out).mono ?_
    rintro e w2 ⟨A2, c2, rfl, hr2, hb2⟩
    have HR2 := Lib.hid hr2
    have HB2 := Lib.hid (below_chain HB1.out hb2)
    have HR12 := Lib.hid (HR1.out.below hb2)
    have HS := Lib.hid (same_names gl A1 A2 c1 c2 w2 HR12.out HR2.out (by omega) HGS.out)
    clear hr2 hb2
    go_wp2_with fail
    refine HS.out.mono ?_
    rintro e w3 ⟨rfl, hb3⟩
    have HB3 := Lib.hid (below_chain HB2.out hb3)
    clear hb3
    go_wp2_with fail
    refine (wires_any _).mono ?_
    rintro e w4 ⟨rfl, hb4⟩
    go_wp2_with fail
    go_ret
    exact ⟨rfl, below_chain HB3.out hb4⟩

end Go.Proofs.Ytfnpjcfaabbejaa
