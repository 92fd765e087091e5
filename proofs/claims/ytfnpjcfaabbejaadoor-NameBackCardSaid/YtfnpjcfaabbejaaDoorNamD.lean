/-
  The walks of both Shared, and of Below. Names of fewer than 2^40 bytes.
-/
import Derived.Test.YtfnpjcfaabbejaaDoorNamC
import Derived.Lib.MinMax
import Derived.IntWalk
import Derived.Deep.AppendLies
import Derived.Deep.RegionLaw
import Derived.Maps.AppendAt
namespace Go.Colm
open Go.RowKit
theorem step_call {P : Program} {ops : Array Oper} {o : Oper} {a : Act} {w : World} {K : Act → World → Prop} {Q : Exit → Act → World → Prop} {E : Prop} (hg : o.guard = none) (f : FuncId) (args : Array Value) (hrun : (execOp a.eval o).run P w = .ok (.enter f args) w)
    (v : Value) (R : World → Prop) (hc : Calls P f args w fun e w' => e = .returned v ∧ R w') (h : ∀ w', R w' → K (a.put o.dst v) w') :
    if Region.wanted o (yielded ops a.tmps) = true then Oper.wp P o a w K Q else E := by
  have hw : Region.wanted o (yielded ops a.tmps) = true := by simp [Region.wanted, hg]
  rw [if_pos hw]
  unfold Oper.wp
  rw [hrun, Oper.upon_enter]
  refine hc.mono fun e w' hh => ?_
  obtain ⟨rfl, hR⟩ := hh
  exact h w' hR
theorem step_callg {P : Program} {ops : Array Oper} {o : Oper} {a : Act} {w : World} {K : Act → World → Prop} {Q : Exit → Act → World → Prop} {E : Prop} (hw : Region.wanted o (yielded ops a.tmps) = true) (f : FuncId) (args : Array Value) (hrun : (execOp a.eval o).run P w = .ok (.enter f args) w)
    (v : Value) (R : World → Prop) (hc : Calls P f args w fun e w' => e = .returned v ∧ R w') (h : ∀ w', R w' → K (a.put o.dst v) w') :
    if Region.wanted o (yielded ops a.tmps) = true then Oper.wp P o a w K Q else E := by
  rw [if_pos hw]
  unfold Oper.wp
  rw [hrun, Oper.upon_enter]
  refine hc.mono fun e w' hh => ?_
  obtain ⟨rfl, hR⟩ := hh
  exact h w' hR
end Go.Colm
namespace Go.Proofs.YtfnpjcfaabbejaaDoor
open Go.RowKit Go.Foldp Go.Colm Go.Wirep
set_option linter.unusedVariables false

set_option maxRecDepth 100000 in
set_option maxHeartbeats 4000000 in
theorem shared_any (a b : List (List UInt8)) (A B : Option Addr) (ca cb : Nat) (w : World) (ha : RowV w A (labV a)) (hb : RowV w B (labV b)) (la : wireL a < 1099511627776) (lb : wireL b < 1099511627776) :
    Calls Tryd.prog 19 #[.slice A a.length ca, .slice B b.length cb] w fun e w' => e = .returned (.int .i64 (sharedL a b : Nat)) ∧ Below w.heap.size w w' := by
  have HA := Lib.hid ha
  have HB := Lib.hid hb
  have hla := wireL_len a
  have hlb := wireL_len b
  have HSM : Hid (∀ (x y : List UInt8), x.length < 1099511627776 → y.length < 1099511627776 → ∀ W, Calls Tryd.prog 29 #[.string ⟨x.toArray⟩, .string ⟨y.toArray⟩] W fun e w' => e = .returned (.bool (decide (lowL x = lowL y))) ∧ Below W.heap.size W w') := Lib.hid (fun x y hx hy W => by
    have := same_any ⟨x.toArray⟩ ⟨y.toArray⟩ W (by rw [str_size]; omega) (by rw [str_size]; omega)
    simpa [sameL] using this)
  obtain ⟨m, hm⟩ : ∃ m : Nat, min (a.length : Int) (b.length : Int) = m := ⟨min a.length b.length, by omega⟩
  have hma : m ≤ a.length := by omega
  have hmb : m ≤ b.length := by omega
  have hmm : m = a.length ∨ m = b.length := by omega
  clear ha hb
  go_enter Tryd.func19, Tryd.ntmps19
  go_wp2_with fail
  try rw [hm]
  clear hm
  go_loopw [13] (fun i wr => ∃ k : Nat, k ≤ m ∧ i = .int .i64 k ∧ Hid (comL a.reverse b.reverse = k + comL (a.reverse.drop k) (b.reverse.drop k)) ∧ Below w.heap.size w wr) (fun i _ => m - (intOf i).toNat)
  case atStart => exact ⟨0, Nat.zero_le _, rfl, Lib.hid (by simp), Below.refl _ _⟩
  case round =>
    obtain ⟨k, hk, rfl, HC, hbw⟩ := hrel
    have HBW := Lib.hid hbw
    clear hbw
    by_cases hlt : k < m
    · have hka : k < a.length := by omega
      have hkb : k < b.length := by omega
      obtain ⟨qa, hqa⟩ : ∃ qa, qa = a.length - 1 - k := ⟨_, rfl⟩
      obtain ⟨qb, hqb⟩ : ∃ qb, qb = b.length - 1 - k := ⟨_, rfl⟩
      have f1 : IntKind.i64.wrap ((a.length : Int) - 1) = (a.length : Int) - 1 := IntWalk.i64_in _ (by omega)
      have f2 : IntKind.i64.wrap ((a.length : Int) - 1 - (k : Int)) = (qa : Int) := by rw [IntWalk.i64_in _ (by omega)]; omega
      have f3 : IntKind.i64.wrap ((b.length : Int) - 1) = (b.length : Int) - 1 := IntWalk.i64_in _ (by omega)
      have f4 : IntKind.i64.wrap ((b.length : Int) - 1 - (k : Int)) = (qb : Int) := by rw [IntWalk.i64_in _ (by omega)]; omega
      have f5 : qa < a.length := by omega
      have f6 : qb < b.length := by omega
      obtain ⟨b1, o1, rfl, hc1⟩ := labV_at (HA.out.below HBW.out) (show a.length - 1 - k < a.length by omega)
      obtain ⟨b2, o2, rfl, hc2⟩ := labV_at (HB.out.below HBW.out) (show b.length - 1 - k < b.length by omega)
      have hw1 := wireL_mem (List.getElem_mem (show a.length - 1 - k < a.length by omega))
      have hw2 := wireL_mem (List.getElem_mem (show b.length - 1 - k < b.length by omega))
      have hsm := HSM.out a[a.length - 1 - k] b[b.length - 1 - k] (by omega) (by omega) wr.drew
      have ea : a.reverse[k]'(by simpa using hka) = a[a.length - 1 - k] := by simp
      have eb : b.reverse[k]'(by simpa using hkb) = b[b.length - 1 - k] := by simp
      by_cases he : lowL a[a.length - 1 - k] = lowL b[b.length - 1 - k]
      · have HC2 := Lib.hid (comL_step (by simpa using hka) (by simpa using hkb) HC.out (by rw [ea, eb]; exact he))
        rw [decide_eq_true he] at hsm
        obtain ⟨s1, hs1⟩ : ∃ s1, s1 = ByteArray.mk a[a.length - 1 - k].toArray := ⟨_, rfl⟩
        obtain ⟨s2, hs2⟩ : ∃ s2, s2 = ByteArray.mk b[b.length - 1 - k].toArray := ⟨_, rfl⟩
        rw [← hs1] at hsm hc1
        rw [← hs2] at hsm hc2
        have HS := Lib.hid hsm
        have d1 : wr.drew.cell? ⟨b1, o1 + qa, none⟩ = some (.string s1) := hqa ▸ hc1
        have d2 : wr.drew.cell? ⟨b2, o2 + qb, none⟩ = some (.string s2) := hqb ▸ hc2
        clear hsm hs1 hs2 he ea eb hw1 hw2 hc1 hc2 hqa hqb
        go_wp2_with fail
        go_region_law (
          (refine step_call (w := wr.drew) rfl 29 #[.string s1, .string s2] (by first | kernel_rfl | rfl | (simp [execOp, go_sem])) (.bool true) (fun w' => Below wr.drew.heap.size wr.drew w') HS.out ?_
           intro w3 hb3
           have HB3 := Lib.hid (below_chain HBW.out (below_chain (below_of_drewN wr 1) hb3))
           clear hb3))
        all_goals
          go_wp2_with fail
          go_roundw
          case rel => exact ⟨k + 1, by omega, by go_num, HC2, HB3.out⟩
          case measure => simp [intOf]; omega
      · have HE : Hid (sharedL a b = k) := Lib.hid (comL_stop (by simpa using hka) (by simpa using hkb) HC.out (by rw [ea, eb]; exact he))
        rw [decide_eq_false he] at hsm
        obtain ⟨s1, hs1⟩ : ∃ s1, s1 = ByteArray.mk a[a.length - 1 - k].toArray := ⟨_, rfl⟩
        obtain ⟨s2, hs2⟩ : ∃ s2, s2 = ByteArray.mk b[b.length - 1 - k].toArray := ⟨_, rfl⟩
        rw [← hs1] at hsm hc1
        rw [← hs2] at hsm hc2
        have HS := Lib.hid hsm
        have d1 : wr.drew.cell? ⟨b1, o1 + qa, none⟩ = some (.string s1) := hqa ▸ hc1
        have d2 : wr.drew.cell? ⟨b2, o2 + qb, none⟩ = some (.string s2) := hqb ▸ hc2
        clear hsm hs1 hs2 he ea eb hw1 hw2 hc1 hc2 hqa hqb
        go_wp2_with fail
        go_region_law (
          (refine step_call (w := wr.drew) rfl 29 #[.string s1, .string s2] (by first | kernel_rfl | rfl | (simp [execOp, go_sem])) (.bool false) (fun w' => Below wr.drew.heap.size wr.drew w') HS.out ?_
           intro w3 hb3
           have HB3 := Lib.hid (below_chain HBW.out (below_chain (below_of_drewN wr 1) hb3))
           clear hb3))
        all_goals
          go_wp2_with fail
          go_ret
          exact ⟨ret_int (by rw [HE.out]), HB3.out⟩
    · have HE : Hid (sharedL a b = m) := Lib.hid (by
        have hkm : k = m := by omega
        have := comL_end (by simp; omega) HC.out
        rw [sharedL, this, hkm])
      go_wp2_with fail
      go_ret
      exact ⟨ret_int (by rw [HE.out]), HBW.out⟩
end Go.Proofs.YtfnpjcfaabbejaaDoor
