/-
  Plain: the step of a line's words, the steps of lines, the script of a text; or which line is wrong. No program in sight. No condition.
-/
import Derived.Test.YtifmgmiaeoiidaaGreatDoorScrZ
namespace Go.Scrp
open Go.RowKit Go.Colm
set_option linter.unusedVariables false

def keyO (ws : List (List UInt8)) : Option (List UInt8 × Nat) := match unwordL (ws.getD 1 []), numL (ws.getD 2 []) 65535 with | some a, some t => some (a, t) | _, _ => none
/-- The step of a line's words, without its steps. -/
def opL (ws : List (List UInt8)) : Option Hd :=
  if kindL ws = 1 then (match keyO ws, numL (ws.getD 3 []) mostL, unsetL (ws.getD 4 []) with | some k, some l, some r => some ⟨1, k.1, k.2, r, l, 0, 0, 0⟩ | _, _, _ => none)
  else if kindL ws = 2 then (keyO ws).map fun k => ⟨2, k.1, k.2, [], 0, 0, 0, 0⟩
  else if kindL ws = 3 then (match keyO ws, codeL (ws.getD 4 []) with | some k, some c => if ws.getD 3 [] = endT (howL (ws.getD 3 [])) ∧ ws.getD 5 [] = [123] then some ⟨3, k.1, k.2, [], 0, 0, howL (ws.getD 3 []), c⟩ else none | _, _ => none)
  else if kindL ws = 4 then (keyO ws).map fun k => ⟨4, k.1, k.2, [], 0, 0, 0, 0⟩
  else if kindL ws = 5 then (numL (ws.getD 1 []) mostL).map fun n => ⟨5, [], 0, [], 0, n, 0, 0⟩
  else if kindL ws = 6 then (numL (ws.getD 1 []) mostL).map fun n => ⟨6, [], 0, [], 0, n, 0, 0⟩
  else if kindL ws = 7 then some ⟨7, [], 0, [], 0, 0, 0, 0⟩
  else if kindL ws = 8 then some ⟨8, [], 0, [], 0, 0, 0, 0⟩
  else none
/-- The step of a line, so many deep. -/
def lineP (deep : Nat) (s : List UInt8) : Option Hd :=
  if 20 < deep then none else if (List.replicate (deep - 1) (32 : UInt8)).isPrefixOf s = true then opL (sepL 32 (s.drop (deep - 1))) else none
/-- What comes of reading: the first wrong line, or steps and where it is then. -/
inductive Rd where
  | bad (b : Nat) : Rd
  | ok (out : List Opd) (at' : Nat) : Rd
def shut (deep : Nat) (s : List UInt8) : Prop := 1 < deep ∧ s = List.replicate (deep - 2) 32 ++ [125]
instance (deep : Nat) (s : List UInt8) : Decidable (shut deep s) := by unfold shut; infer_instance
def stp (L : List (List UInt8)) : Nat → Nat → Nat → List Opd → Rd
  | 0, _, k, _ => .bad (k + 1)
  | f + 1, deep, k, out =>
    if L.length ≤ k then (if 1 < deep then .bad (k + 1) else .ok out k)
    else if shut deep (L.getD k []) then .ok out k
    else match lineP deep (L.getD k []) with
      | none => .bad (k + 1)
      | some h => if h.kind = 3 then (match stp L f (deep + 1) (k + 1) [] with
          | .bad b => .bad b
          | .ok sub k' => stp L f deep (k' + 1) (out ++ [.mk h sub]))
        else stp L f deep (k + 1) (out ++ [.mk h []])
variable {L : List (List UInt8)}
theorem stp_end {f deep k : Nat} {out : List Opd} (h : L.length ≤ k) : stp L (f + 1) deep k out = if 1 < deep then .bad (k + 1) else .ok out k := by rw [stp, if_pos h]
theorem stp_shut {f deep k : Nat} {out : List Opd} (h : ¬ L.length ≤ k) (h2 : shut deep (L.getD k [])) : stp L (f + 1) deep k out = .ok out k := by rw [stp, if_neg h, if_pos h2]
theorem stp_wrong {f deep k : Nat} {out : List Opd} (h : ¬ L.length ≤ k) (h2 : ¬ shut deep (L.getD k [])) (h3 : lineP deep (L.getD k []) = none) : stp L (f + 1) deep k out = .bad (k + 1) := by rw [stp, if_neg h, if_neg h2, h3]
theorem stp_one {f deep k : Nat} {out : List Opd} {d : Hd} (h : ¬ L.length ≤ k) (h2 : ¬ shut deep (L.getD k [])) (h3 : lineP deep (L.getD k []) = some d) (h4 : d.kind ≠ 3) : stp L (f + 1) deep k out = stp L f deep (k + 1) (out ++ [.mk d []]) := by
  rw [stp, if_neg h, if_neg h2, h3]
  simp only [if_neg h4]
theorem stp_view {f deep k : Nat} {out : List Opd} {d : Hd} (h : ¬ L.length ≤ k) (h2 : ¬ shut deep (L.getD k [])) (h3 : lineP deep (L.getD k []) = some d) (h4 : d.kind = 3) :
    stp L (f + 1) deep k out = (match stp L f (deep + 1) (k + 1) [] with | .bad b => .bad b | .ok sub k' => stp L f deep (k' + 1) (out ++ [.mk d sub])) := by
  rw [stp, if_neg h, if_neg h2, h3]
  simp only [if_pos h4]
theorem stp_ok : ∀ {f deep k : Nat} {out out' : List Opd} {k' : Nat}, stp L f deep k out = .ok out' k' → k ≤ L.length → 1 ≤ deep → k ≤ k' ∧ k' ≤ L.length ∧ (1 < deep → k' < L.length)
  | 0, deep, k, out, out', k', h, hk, hd1 => by simp [stp] at h
  | f + 1, deep, k, out, out', k', h, hk, hd1 => by
    by_cases h1 : L.length ≤ k
    · rw [stp_end h1] at h
      by_cases hd : 1 < deep
      · rw [if_pos hd] at h; cases h
      · rw [if_neg hd] at h; cases h; exact ⟨Nat.le_refl _, hk, fun e => absurd e hd⟩
    · by_cases h2 : shut deep (L.getD k [])
      · rw [stp_shut h1 h2] at h
        cases h
        exact ⟨Nat.le_refl _, hk, fun _ => by omega⟩
      · cases h3 : lineP deep (L.getD k []) with
        | none => rw [stp_wrong h1 h2 h3] at h; cases h
        | some d =>
          by_cases h4 : d.kind = 3
          · rw [stp_view h1 h2 h3 h4] at h
            cases h5 : stp L f (deep + 1) (k + 1) [] with
            | bad b => rw [h5] at h; cases h
            | ok sub k2 =>
              rw [h5] at h
              have g := stp_ok h5 (by omega) (by omega)
              have g2 := g.2.2 (by omega)
              have g3 := stp_ok h (by omega) hd1
              exact ⟨by omega, g3.2⟩
          · rw [stp_one h1 h2 h3 h4] at h
            have g := stp_ok h (by omega) hd1
            exact ⟨by omega, g.2⟩
theorem stp_bad : ∀ {f deep k b : Nat} {out : List Opd}, stp L f deep k out = .bad b → k ≤ L.length → 1 ≤ deep → k + 1 ≤ b ∧ (L.length - k < f → b ≤ L.length + 1)
  | 0, deep, k, b, out, h, hk, hd1 => by
    rw [stp] at h
    cases h
    exact ⟨Nat.le_refl _, fun e => by omega⟩
  | f + 1, deep, k, b, out, h, hk, hd1 => by
    by_cases h1 : L.length ≤ k
    · rw [stp_end h1] at h
      by_cases hd : 1 < deep
      · rw [if_pos hd] at h; cases h; exact ⟨Nat.le_refl _, fun e => by omega⟩
      · rw [if_neg hd] at h; cases h
    · by_cases h2 : shut deep (L.getD k [])
      · rw [stp_shut h1 h2] at h
        cases h
      · cases h3 : lineP deep (L.getD k []) with
        | none => rw [stp_wrong h1 h2 h3] at h; cases h; exact ⟨Nat.le_refl _, fun e => by omega⟩
        | some d =>
          by_cases h4 : d.kind = 3
          · rw [stp_view h1 h2 h3 h4] at h
            cases h5 : stp L f (deep + 1) (k + 1) [] with
            | bad b2 =>
              rw [h5] at h
              cases h
              have g := stp_bad h5 (by omega) (by omega)
              exact ⟨by omega, fun e => g.2 (by omega)⟩
            | ok sub k2 =>
              rw [h5] at h
              have g := stp_ok h5 (by omega) (by omega)
              have g2 := g.2.2 (by omega)
              have g3 := stp_bad h (by omega) hd1
              exact ⟨by omega, fun e => g3.2 (by omega)⟩
          · rw [stp_one h1 h2 h3 h4] at h
            have g := stp_bad h (by omega) hd1
            exact ⟨by omega, fun e => g.2 (by omega)⟩
/-- What a text's script is, or which line is the first wrong one. -/
def parseL (s : List UInt8) : Rd :=
  let l := sepL 10 s
  let n := l.length - 1
  match stp (l.take n) (n + 1) 1 0 [] with
  | .bad b => if l.getD n [] ≠ [] ∧ n < b then .bad (n + 1) else .bad b
  | .ok out k => if l.getD n [] ≠ [] then .bad (n + 1) else .ok out k
end Go.Scrp
