/-
  Plain law of names packed one behind the other (layer wire): what bytes they are. No program in sight. No condition.
-/
import Derived.Test.YtimdedkejadnfaaGreatDoorWireP
import Derived.Lib.Join
namespace Go.Wirep
open Go.Foldp

/-- Under what a suffix is found again. -/
def keyL (l : List (List UInt8)) : List UInt8 := lowL (Lib.join l [46])
/-- Bytes, and where suffixes lie, the last one first. -/
abbrev Packed := List UInt8 × List (List UInt8 × Nat)
def lookL (k : List UInt8) : List (List UInt8 × Nat) → Option Nat
  | [] => none
  | (k', n) :: r => if k' = k then some n else lookL k r
/-- A label, laid behind bytes. -/
def putL (b s : List UInt8) : List UInt8 := (b ++ [UInt8.ofNat s.length]) ++ lowL s
/-- A name, laid behind others. -/
def putF : List (List UInt8) → Packed → Packed
  | [], p => (p.1 ++ [0], p.2)
  | s :: r, p => match lookL (keyL (s :: r)) p.2 with
    | some to => (p.1 ++ [UInt8.ofNat (192 + to / 256), UInt8.ofNat (to % 256)], p.2)
    | none => putF r (putL p.1 s, (keyL (s :: r), p.1.length) :: p.2)
theorem putF_nil (p : Packed) : putF [] p = (p.1 ++ [0], p.2) := by rw [putF]
theorem putF_some {s : List UInt8} {r : List (List UInt8)} {p : Packed} {to : Nat} (h : lookL (keyL (s :: r)) p.2 = some to) : putF (s :: r) p = (p.1 ++ [UInt8.ofNat (192 + to / 256), UInt8.ofNat (to % 256)], p.2) := by
  rw [putF, h]
theorem putF_none {s : List UInt8} {r : List (List UInt8)} {p : Packed} (h : lookL (keyL (s :: r)) p.2 = none) : putF (s :: r) p = putF r (putL p.1 s, (keyL (s :: r), p.1.length) :: p.2) := by
  rw [putF, h]
/-- A name takes no more bytes than it would alone. -/
theorem putF_len : ∀ (l : List (List UInt8)) (p : Packed), p.1.length < (putF l p).1.length ∧ (putF l p).1.length ≤ p.1.length + wireL l
  | [], p => by rw [putF_nil]; simp [wireL]
  | s :: r, p => by
    rcases h : lookL (keyL (s :: r)) p.2 with _ | to
    · rw [putF_none h]
      have hpl : (putL p.1 s).length = p.1.length + (s.length + 1) := by simp [putL, lowL_length]
      have := putF_len r (putL p.1 s, (keyL (s :: r), p.1.length) :: p.2)
      simp only [hpl] at this
      simp only [wireL]
      omega
    · rw [putF_some h]
      have := wireL_len r
      simp only [wireL, List.length_append, List.length_cons, List.length_nil]
      omega
end Go.Wirep
