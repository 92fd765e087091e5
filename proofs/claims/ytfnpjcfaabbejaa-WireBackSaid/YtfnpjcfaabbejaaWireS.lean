/-
  The iterator over a name's suffixes: its contract, for every loop body that keeps what lay below. No condition.
-/
import Derived.RangeFuncNested
import Derived.RangeFuncBound
import Derived.RangeFuncCalls
import Derived.RangeFuncLeaves
import Derived.RangeFuncBox
import Derived.Shelf.Abstract
import Derived.Shelf.RegionOpen
import Derived.WalkKit
import Derived.OwnWalkIn
import Derived.TacticsInMore
import Derived.LoopNIn
import Derived.LoopIn
import Derived.Test.YtfnpjcfaabbejaaWireK
namespace Go.Colm
open Go.RowKit
theorem run_cut3 {P : Program} {t e : TypeId} {s : Nat} (ht : P.underlying t = some (.slice e)) (hs : ∀ w, (sizeOf e).run P w = .ok s w) (A : Option Addr) (n c k : Nat) (h1 : k ≤ n) (h2 : n ≤ c) (w : World) :
    (Instr.slice t (.slice A n c) (some (.int .i64 (k : Int))) (some (.int .i64 (n : Int))) (some (.int .i64 (n : Int)))).run P w = .ok (.slice (cutA A n k s) (n - k) (n - k)) w := by
  have e1 : ∀ (y : Nat) (code : BoundsCode), n ≤ y → (Instr.sliceBound (.int .i64 (n : Int)) y code).run P w = .ok n w := fun y code h => by
    rw [run_sliceBound w .i64 (n : Int) y code (by omega) (by omega)]
    simp
  have e2 : ∀ (code : BoundsCode), (Instr.sliceBound (.int .i64 (k : Int)) n code).run P w = .ok k w := fun code => by
    rw [run_sliceBound w .i64 (k : Int) n code (by omega) (by omega)]
    simp
  simp [Instr.slice, run_underlying ht, Instr.sliceBounds, e1, e2, h2, hs, cutA]
end Go.Colm
namespace Go.Proofs.Ytfnpjcfaabbejaa
open Go.RowKit Go.Foldp Go.Colm Go.Wirep Go.Shelf
set_option linter.unusedVariables false
attribute [local go_sem] Oper.semAt_some

/-- The suffix from label i on, as the iterator hands it out. -/
def sufV (A : Option Addr) (n i : Nat) : Value := .slice (cutA A n i 1) (n - i) (n - i)

/-- The box at block B is kept. -/
def keepB (B : Nat) (W W' : World) : Prop := ∀ v, W.cell? ⟨B, 0, none⟩ = some v → W'.cell? ⟨B, 0, none⟩ = some v
/-- A place in a name of so many labels. -/
abbrev Place (len : Nat) := { i : Nat // i < len }

set_option maxRecDepth 100000 in
set_option maxHeartbeats 2000000 in
theorem suf1_in (F : Fence) (n : Nat) (h46 : F.fn 46) (hro : F.round = none) (hn : 1 ≤ n) (l Bs : Nat) (A : Option Addr) (len cap : Nat) (hcap : len ≤ cap) (hlen : len < 1099511627776) (J Jx : List (Place len) → World → Prop)
    (hY : ∀ pre x W, J pre W → pre.length < len → YieldAt F (n - 1) Try.prog l #[sufV A len x.1] W fun e W' =>
      (e = .returned (.bool true) ∧ J (pre ++ [x]) W' ∧ keepB Bs W W') ∨ (e = .returned (.bool false) ∧ Jx (pre ++ [x]) W'))
    (W : World) (hBs : W.cell? ⟨Bs, 0, none⟩ = some (.slice A len cap)) (h0 : J [] W) :
    CallsIn F n Try.prog 46 #[.func (.yield l) #[] #[], .pointer (some ⟨Bs, 0, none⟩)] W fun e W' => (∃ v, e = .returned v) ∧
      ((∃ xs, xs.map (·.1) = List.range len ∧ J xs W') ∨ (∃ pre, (∃ k, k ≤ len ∧ pre.map (·.1) = List.range k) ∧ Jx pre W')) := by
  refine callsIn_of_wp Try.func46 rfl h46 ?_ hro
  simp only [Try.ntmps46, List.size_toArray, List.length_cons, List.length_nil, Nat.reduceAdd, Nat.reduceSub, Array.replicate_succ, Array.replicate_zero, List.push_toArray, List.append_toArray, List.nil_append, List.cons_append]
  gi_wp2
  gi_loopw [6] (fun i wr => ∃ (k : Nat) (pre : List (Place len)), k ≤ len ∧ i = .int .i64 k ∧ pre.map (·.1) = List.range k ∧ J pre wr ∧ wr.cell? ⟨Bs, 0, none⟩ = some (.slice A len cap)) (fun i _ => len - (intOf i).toNat)
  case atStart => exact ⟨0, [], Nat.zero_le _, rfl, rfl, h0, hBs⟩
  case round =>
    obtain ⟨k, pre, hk, rfl, hpre, hJs, hbx⟩ := hrel
    have hpl : pre.length = k := by
      have := congrArg List.length hpre
      simpa using this
    by_cases hlt : k < len
    · obtain ⟨fn, tmps, assign, body, hy, hR⟩ := hY pre ⟨k, hlt⟩ wr hJs (by omega)
      have hcut := fun W => run_cut3 (P := Try.prog) Try.underlying24 Try.sizeOf9 A len cap k (by omega) hcap W
      have hnext : (pre ++ [(⟨k, hlt⟩ : Place len)]).map (·.1) = List.range (k + 1) := by rw [List.map_append, hpre, List.range_succ]; rfl
      have HP := Lib.hid hpre
      have HN := Lib.hid hnext
      have HPL := Lib.hid hpl
      clear hpre hnext hpl
      unfold sufV at hy
      gi_wp2
      refine hR.mono ?_
      rintro e W3 (⟨rfl, hJ3, hk3⟩ | ⟨rfl, hJx3⟩)
      · gi_wp2
        go_roundw
        case rel => exact ⟨k + 1, _, by omega, by simp, HN.out, hJ3, hk3 _ hbx⟩
        case measure => simp [intOf]; omega
      · gi_wp2
        refine bodyPost_ret (results_none rfl _ _ _) rfl ?_
        exact ⟨⟨_, rfl⟩, .inr ⟨_, ⟨k + 1, by omega, HN.out⟩, hJx3⟩⟩
    · obtain rfl : k = len := by omega
      gi_wp2
      go_end0
      exact ⟨⟨_, rfl⟩, .inl ⟨pre, hpre, hJs⟩⟩

theorem suf_stops (F : Fence) (n : Nat) (h46 : F.fn 46) (hro : F.round = none) (hn : 1 ≤ n) (Bs : Nat) (A : Option Addr) (len cap : Nat) (hcap : len ≤ cap) (hlen : len < 1099511627776) (w : World) (hBs : w.cell? ⟨Bs, 0, none⟩ = some (.slice A len cap)) :
    SeqStopsK F n Try.prog 46 #[.pointer (some ⟨Bs, 0, none⟩)] (fun x : Place len => #[sufV A len x.1]) (keepB Bs) (fun xs => xs.map (·.1) = List.range len) (fun pre => ∃ k, k ≤ len ∧ pre.map (·.1) = List.range k) len w :=
  fun l J Jx W hW _ _ hY h0 => suf1_in F n h46 hro hn l Bs A len cap hcap hlen J Jx hY W ((hW.cell (p := ⟨Bs, 0, none⟩) (lt_of_cell hBs)).trans hBs) h0
theorem keepB_t {Bs : Nat} {A B C : World} (h : keepB Bs A B) (k : keepB Bs B C) : keepB Bs A C := fun v hv => k v (h v hv)
theorem keepB_b {Bs : Nat} (W : World) (l : Nat) (o o' : Obj) (hl : W.heap[l]? = some o) (ho : o.isCells = false) : keepB Bs W (W.putObj l o') := by
  intro v hv
  have hne : Bs ≠ l := by
    rintro rfl
    simp only [World.cell?, hl] at hv
    cases o <;> simp [Obj.isCells] at ho hv
  rw [World.cell?_of_block (w := W) (World.putObj_heap_other hne)]
  exact hv

end Go.Proofs.Ytfnpjcfaabbejaa
