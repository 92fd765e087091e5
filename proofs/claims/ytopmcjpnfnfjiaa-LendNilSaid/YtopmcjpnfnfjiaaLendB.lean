/-
  The walk of layer lend's note: a number more in the teller's notes. Fewer than 2^40 notes.
-/
import Derived.Test.YtopmcjpnfnfjiaaLendA
import Derived.Maps.AppendAt
import Derived.Lib.Builder
namespace Go.Proofs.Ytopmcjpnfnfjiaa
open Go.RowKit Go.Colm
set_option linter.unusedVariables false

def intsV (l : List Int) : List Value := l.map (.int .i64)
theorem intsV_snoc (l : List Int) (n : Int) : intsV (l ++ [n]) = intsV l ++ [.int .i64 n] := by simp [intsV]
theorem intsV_length (l : List Int) : (intsV l).length = l.length := by simp [intsV]
theorem int_info : (Try.prog.info? 3).map (fun i => (i.zero, i.size, i.bytes)) = some (some (.int .i64 0), 1, 8) := by kernel_rfl

/-- The teller at block tb: its book, and its notes: a row of its own, from block B on. -/
def Teller (tb B : Nat) (bp : Option Nat) (v : Value) (ns : List Int) (w : World) : Prop :=
  Whole w tb 51 #[bptr bp, v] ∧ w.ownsRow B 3 1 v ns.length (intsV ns)
theorem Teller.far {tb B : Nat} {bp : Option Nat} {v : Value} {ns : List Int} {w : World} (h : Teller tb B bp v ns w) : v.ownBlock ≠ some tb :=
  Lib.ownBlock_ne h.2 h.1 (by decide)

set_option maxHeartbeats 800000 in
theorem note_any (tb B : Nat) (bp : Option Nat) (v : Value) (ns : List Int) (n : Int) (w : World) (h : Teller tb B bp v ns w) (hB : B ≤ w.heap.size) (hl : ns.length < 1099511627776) :
    Calls Try.prog 26 #[.pointer (some ⟨tb, 0, none⟩), .int .i64 n] w fun e w' => e = .returned (.tuple #[]) ∧
      ∃ v', Teller tb B bp v' (ns ++ [n]) w' ∧ Kept (fun k => k = tb ∨ v.ownBlock = some k) w w' ∧ (v'.ownBlock = v.ownBlock ∨ ∃ k, w.heap.size ≤ k ∧ v'.ownBlock = some k) := by
  obtain ⟨i0, hi, hz0, hz1, hz2⟩ := info_parts int_info
  have hfar := h.far
  have c0 : w.cell? ⟨tb, 1, none⟩ = some v := h.1.cell 1
  have hlt := h.1.lt
  have H := Lib.hid h
  clear h
  go_enter Try.func26, Try.ntmps26
  go_wp2_with (at_builtin; refine wpList_append_own_at _ rfl _ _ 28 rfl B 3 i0 (.int .i64 0) 1 8 Try.underlying28 hi hz0 hz1 hz2 rfl (by decide) v ns.length (intsV ns) rfl (H.out.2.alloc _) ⟨w.heap.size, 0, none⟩ 1 1 [.int .i64 n] rfl rfl (cell_one_new _ _ _) (fun x hx => by simp at hx; subst hx; rfl) (by unfold maxLen; omega) (by omega) (by simp; omega) ?_; intro v' w3 hown3 hg3 _ hat3; have ht3 : Whole w3 tb 51 #[bptr bp, v] := (Kept.grown hg3).whole ((Kept.refl (fun _ => False) w).alloc (.cells #[.int .i64 n] 3) |>.whole H.out.1 (fun h => h)) hfar; have hc3 : w3.cell? ⟨tb, 1, none⟩ = some v := ht3.cell 1; have hf3 := ht3.frozen 1; have hx3 := own_row hown3; obtain ⟨A3, cap3, hv3, _⟩ := hx3; have Hv3 := Lib.hid hv3; rw [hv3]; clear hv3)
  go_end0
  have hne : v'.ownBlock ≠ some tb := Lib.ownBlock_ne hown3 ht3 (by decide)
  have hk1 : Kept (fun k => k = tb ∨ v.ownBlock = some k) w w3 := ((Kept.refl (fun k => k = tb ∨ v.ownBlock = some k) w).alloc (.cells #[.int .i64 n] 3)).trans ((Kept.grown hg3).mono fun k _ hk => .inr hk)
  refine ⟨rfl, v', ⟨?_, ?_⟩, ?_, ?_⟩
  · rw [← Hv3.out]
    exact ht3.put 1 v'
  · rw [intsV_snoc, List.length_append, ← Hv3.out]
    exact hown3.kept (row := some tb) ⟨rfl, rfl, rfl, by simp [World.setCell], fun k _ hk => Below.heap_setCell _ _ _ _ (fun e => hk (by simp [e]))⟩ (Or.inr hne)
  · exact hk1.setCell (p := ⟨tb, 1, none⟩) (.inl (.inl rfl)) _
  · rcases hat3 with h | h
    · exact .inl h
    · exact .inr ⟨_, by simp, h⟩

end Go.Proofs.Ytopmcjpnfnfjiaa
