/-
  Steps in memory: how a slice of steps reads as a tree, and that it is kept where the blocks that it lies in are. Over any program. No condition.
-/
import Derived.Test.YtopmcjpnfnfjiaaKept
import Derived.Test.YtopmcjpnfnfjiaaLendP
namespace Go.Lendp
open Go.RowKit Go.Colm

mutual
/-- A step at a place: its kind, its code, the slice of the steps within; all in blocks of N. -/
def StpAt (N : Nat → Prop) (w : World) (b off : Nat) : Stp → Prop
  | .mk k c l => w.cell? ⟨b, off, none⟩ = some (.int .i64 k) ∧ w.cell? ⟨b, off + 1, none⟩ = some (.int .i64 c) ∧
      ∃ A cp, w.cell? ⟨b, off + 2, none⟩ = some (.slice A l.length cp) ∧ StpsAt N w A 0 l
/-- Steps from place i on of the slice at A. -/
def StpsAt (N : Nat → Prop) (w : World) (A : Option Addr) (i : Nat) : List Stp → Prop
  | [] => True
  | s :: r => (∃ b off, A = some ⟨b, off, none⟩ ∧ N b ∧ StpAt N w b (off + i * 3) s) ∧ StpsAt N w A (i + 1) r
end

theorem stpAt_mk {N : Nat → Prop} {w : World} {b off : Nat} {k c : Int} {l : List Stp} : StpAt N w b off (.mk k c l) ↔ w.cell? ⟨b, off, none⟩ = some (.int .i64 k) ∧ w.cell? ⟨b, off + 1, none⟩ = some (.int .i64 c) ∧
      ∃ A cp, w.cell? ⟨b, off + 2, none⟩ = some (.slice A l.length cp) ∧ StpsAt N w A 0 l := by rw [StpAt]
theorem stpsAt_nil {N : Nat → Prop} {w : World} {A : Option Addr} {i : Nat} : StpsAt N w A i [] := by rw [StpsAt]; trivial
theorem stpsAt_cons {N : Nat → Prop} {w : World} {A : Option Addr} {i : Nat} {s : Stp} {r : List Stp} : StpsAt N w A i (s :: r) ↔ (∃ b off, A = some ⟨b, off, none⟩ ∧ N b ∧ StpAt N w b (off + i * 3) s) ∧ StpsAt N w A (i + 1) r := by rw [StpsAt]

mutual
theorem StpAt.kept {N S : Nat → Prop} {w w' : World} (hk : Kept S w w') (hns : ∀ k, N k → ¬ S k) (b off : Nat) (hb : N b) : ∀ s : Stp, StpAt N w b off s → StpAt N w' b off s
  | .mk k c l => fun h => by
    obtain ⟨h1, h2, A, cp, h3, h4⟩ := stpAt_mk.1 h
    exact stpAt_mk.2 ⟨hk.cell h1 (hns _ hb), hk.cell h2 (hns _ hb), A, cp, hk.cell h3 (hns _ hb), StpsAt.kept hk hns A 0 l h4⟩
theorem StpsAt.kept {N S : Nat → Prop} {w w' : World} (hk : Kept S w w') (hns : ∀ k, N k → ¬ S k) (A : Option Addr) (i : Nat) : ∀ l : List Stp, StpsAt N w A i l → StpsAt N w' A i l
  | [] => fun _ => stpsAt_nil
  | s :: r => fun h => by
    obtain ⟨⟨b, off, e, hb, hs⟩, hr⟩ := stpsAt_cons.1 h
    exact stpsAt_cons.2 ⟨⟨b, off, e, hb, StpAt.kept hk hns b _ hb s hs⟩, StpsAt.kept hk hns A (i + 1) r hr⟩
end
end Go.Lendp
