/-
  A model of seven slabs of chapter 29's example, and that of one record's entry: what there is behind each call, in plain Lean. No condition.
-/
import Derived.Test.YtimdedkejadnfaaGreatDoorMoY
namespace Go.Proofs.YtimdedkejadnfaaGreatDoor
open Go.RowKit Go.Foldp Go.Colm Go.Wirep Go.Maps
set_option linter.unusedVariables false
set_option linter.unusedSimpArgs false
set_option linter.unusedSectionVars false

def inB (n : Nat) (o : Option Nat) : Bool := match o with | none => true | some i => decide (i < n)
theorem inB_ok {n : Nat} {o : Option Nat} (h : inB n o = true) : ∀ i, o = some i → i < n := by
  rintro i rfl
  simpa [inB] using h
def nodI : Hld → Option Nat
  | .nod i => some i
  | _ => none
def entI : Hld → Option Nat
  | .ent i => some i
  | _ => none
def validB (M : Mod) : Bool :=
  M.nodes.all (fun p => inB M.ntab.length (some p.2)) && M.ntab.all (fun d => inB M.ntab.length d.parent) && M.etab.all (fun d => inB M.ntab.length d.node) && M.parts.all (fun p => p.live.all fun q => inB M.ntab.length (nodI q.2)) && M.parts.all (fun p => p.live.all fun q => inB M.etab.length (entI q.2)) &&
    M.ring.all (fun i => inB M.etab.length (some i)) && inB M.etab.length M.broom && M.ents.all (fun p => inB M.etab.length (some p.2))
theorem valid_of {M : Mod} (h : validB M = true) : Valid M := by
  simp only [validB, Bool.and_eq_true, List.all_eq_true] at h
  obtain ⟨⟨⟨⟨⟨⟨⟨h1, h2⟩, h3⟩, h4⟩, h5⟩, h6⟩, h7⟩, h8⟩ := h
  exact ⟨fun p hp => inB_ok (h1 p hp) _ rfl, fun d hd => inB_ok (h2 d hd), fun d hd => inB_ok (h3 d hd), fun p hp q hq i e => inB_ok (h4 p hp q hq) i (by rw [e]; rfl), fun p hp q hq i e => inB_ok (h5 p hp q hq) i (by rw [e]; rfl), fun i hi => inB_ok (h6 i hi) _ rfl, inB_ok h7, fun p hp => inB_ok (h8 p hp) _ rfl⟩
def freesB (M : Mod) : Bool := M.parts.all fun p => decide (p.free.length < 1099511627776) && p.free.all fun b => decide (b < 4611686018427387904)
theorem frees_of {M : Mod} (h : freesB M = true) : ∀ p ∈ M.parts, p.free.length < 1099511627776 ∧ ∀ b ∈ p.free, b < 4611686018427387904 := by
  simp only [freesB, Bool.and_eq_true, List.all_eq_true, decide_eq_true_eq] at h
  exact h

/-- The model with one entry of one name's label, or two. -/
def partAt (M : Mod) (s : Nat) : Part := (M.parts[s]?).getD ⟨0, [], []⟩
def mA : Mod := (takeM (newM 7) 1).2
def mB : Mod := nodM mA 0 0 [97] none (partAt mA 0)
def mC : Mod := nodM mA 0 0 [98] none (partAt mA 0)
def mD : Mod := (takeM mC 1).2
def mE : Mod := nodM mD 0 1 [97, 46, 98] (some 0) (partAt mD 0)
theorem grow_one : GrowR (parseL [97]).1 (parseL [97]).1.length (newM 7) none mB (some 0) := by
  have e : parseL [97] = ([[97]], 0) := by rfl
  rw [e]
  exact GrowR.cons 0 (newM 7) none 1 0 0 mA (partAt mA 0) .blank mB (some 0) (by decide) (by rfl) (by decide) (by decide) (frees_of (by kernel_rfl)) (by rfl) (valid_of (by kernel_rfl)) (fun i h => by cases h) (by rfl) (by rfl) (by decide) (GrowR.nil _ _)
theorem grow_two : GrowR (parseL [65, 46, 98]).1 (parseL [65, 46, 98]).1.length (newM 7) none mE (some 1) := by
  have e : parseL [65, 46, 98] = ([[97], [98]], 0) := by rfl
  rw [e]
  exact GrowR.cons 1 (newM 7) none 1 0 0 mA (partAt mA 0) .blank mE (some 1) (by decide) (by rfl) (by decide) (by decide) (frees_of (by kernel_rfl)) (by rfl) (valid_of (by kernel_rfl)) (fun i h => by cases h) (by rfl) (by rfl) (by decide)
    (GrowR.cons 0 mC (some 0) 1 0 1 mD (partAt mD 0) .blank mE (some 1) (by decide) (by rfl) (by decide) (by decide) (frees_of (by kernel_rfl)) (by rfl) (valid_of (by kernel_rfl)) (inB_ok (by rfl)) (by rfl) (by rfl) (by decide) (GrowR.nil _ _))

/-- What holds of the model with one entry, of key 'a' of type 1. -/
structure One (M : Mod) (recs : List (List UInt8)) : Prop where
  ring : M.ring = [0]
  ents : M.ents = [(([97], 1), 0)]
  tab : ∃ d, M.etab = [d] ∧ d.recs = recs ∧ d.fin = 0
theorem One.used {M : Mod} {recs : List (List UInt8)} {d : Ent} (h : One M recs) (hd : M.etab[0]? = some d) : One { M with etab := M.etab.set 0 { d with used := true } } recs := by
  obtain ⟨h1, h2, d', h3, h4, h5⟩ := h
  rw [h3] at hd
  obtain rfl : d' = d := by simpa using hd
  exact ⟨h1, h2, { d' with used := true }, by simp [h3], h4, h5⟩
theorem One.find {M : Mod} {recs : List (List UInt8)} (h : One M recs) : findM M [97] 1 = (some 0, 0) ∧ (∀ i, getA (keyL [97], 1) M.ents = some i → ∃ d, M.etab[i]? = some d ∧ overB M d = false) ∧ ∃ d, M.etab[0]? = some d ∧ d.recs = recs := by
  obtain ⟨h1, h2, d, h3, h4, h5⟩ := h
  have e : keyL [97] = [97] := by rfl
  have p : (parseL [97]).2 = 0 := by rfl
  refine ⟨?_, fun i hi => ?_, d, by simp [h3], h4⟩
  · rw [findM, if_neg (by rw [p]; decide), e, h2]
    rfl
  · rw [e, h2] at hi
    obtain rfl : 0 = i := by simpa [getA] using hi
    exact ⟨d, by simp [h3], by simp [overB, h5]⟩
theorem classes_ok : ∀ n, n < 481 → 4 ≤ n → (entryC n).1 ∈ [2, 3, 4, 5, 6, 7, 8, 9] ∧ (entryC n).2 = 0 := by
  exact of_decide_eq_true (by kernel_rfl)
theorem size_ok {recs : List (List UInt8)} {n : Nat} (h : sizeR recs = (n, 0)) : 4 ≤ n ∧ n < 481 ∧ 1 ≤ recs.length ∧ recs.length ≤ 16 := by
  unfold sizeR at h
  split at h
  · simp at h
  · rename_i hl
    split at h
    · simp at h
    · obtain rfl : 2 + sumR recs = n := by simpa using h
      have : 2 ≤ sumR recs := by
        cases recs with
        | nil => simp at hl
        | cons x r => simp [sumR]; omega
      omega
theorem put_one {recs : List (List UInt8)} {n : Nat} (h : sizeR recs = (n, 0)) : ∃ M', PutR (newM 7) [97] 1 recs 0 M' ∧ One M' recs := by
  obtain ⟨h4, h481, hl⟩ := size_ok h
  obtain ⟨hc1, hc2⟩ := classes_ok n h481 h4
  obtain ⟨cc, hcc⟩ : ∃ cc, cc = (entryC n).1 := ⟨_, rfl⟩
  have he : entryC n = (cc, 0) := by rw [hcc, ← hc2]
  rw [← hcc] at hc1
  have key : 1 ≤ blocksC cc ∧ (takeM mB cc).1 = some (1, 0) ∧ validB (takeM mB cc).2 = true ∧ (takeM mB cc).2.now = 0 ∧ (takeM mB cc).2.parts[1]? = some (popP (newP cc)) ∧ (takeM mB cc).2.ring = [] ∧ (takeM mB cc).2.etab = [] ∧ (takeM mB cc).2.ents = [] ∧ (takeM mB cc).2.ntab.length = 1 ∧ getA 0 (popP (newP cc)).live = some .blank := by
    simp only [List.mem_cons, List.not_mem_nil, or_false] at hc1
    rcases hc1 with rfl | rfl | rfl | rfl | rfl | rfl | rfl | rfl <;> exact ⟨by decide, by rfl, by rfl, by rfl, by rfl, by rfl, by rfl, by rfl, by rfl, by rfl⟩
  obtain ⟨k1, k2, k3, k4, k5, k6, k7, k8, k9, k10⟩ := key
  refine ⟨_, ⟨by rfl, by rfl, by rfl, by rfl, by decide, n, mB, some 0, cc, 1, 0, (takeM mB cc).2, popP (newP cc), .blank, h, grow_one, he, by omega, k1, by decide, frees_of (by kernel_rfl), Prod.ext k2 rfl, valid_of k3, fun i hi => ?_, k4, k5, k10, by decide, by rw [k6]; decide, rfl⟩, ?_⟩
  · obtain rfl : 0 = i := by simpa using hi
    rw [k9]
    decide
  · refine ⟨?_, ?_, ⟨1, 0, keyL [97], 1, some 0, recs, endC (newM 7).now 0, false⟩, ?_, rfl, ?_⟩
    · simp only [enterM, k6, k7]
      rfl
    · simp only [enterM, k7, k8]
      rfl
    · simp only [enterM, k7]
      rfl
    · rfl

/-- The example's entry. -/
def dX : Ent := ⟨1, 0, [97, 46, 98], 1, some 1, [[120]], 5, false⟩
def mF : Mod := (takeM mE 2).2
def mX : Mod := enterM { mF with etab := mF.etab ++ [dX] } 0 dX (partAt mF 1)
theorem put_two : PutR (newM 7) [65, 46, 98] 1 [[120]] 5 mX :=
  ⟨by rfl, by rfl, by rfl, by rfl, by decide, 5, mE, some 1, 2, 1, 0, mF, partAt mF 1, .blank, by rfl, grow_two, by rfl, by decide, by decide, by decide, frees_of (by kernel_rfl), by rfl, valid_of (by kernel_rfl), inB_ok (by rfl), by rfl, by rfl, by rfl, by decide, by decide, by rfl⟩
theorem find_two : findM mX [97, 46, 66, 46] 1 = (some 0, 0) := by rfl
theorem find_two_over : ∀ i, getA (keyL [97, 46, 66, 46], 1) mX.ents = some i → ∃ d, mX.etab[i]? = some d ∧ overB mX d = false := fun i hi => by
  have : getA (keyL [97, 46, 66, 46], 1) mX.ents = some 0 := by rfl
  rw [this] at hi
  obtain rfl : 0 = i := by simpa using hi
  exact ⟨dX, by rfl, by rfl⟩
def dY : Ent := { dX with used := true }
def mY : Mod := { mX with etab := mX.etab.set 0 dY }
def remS (M : Mod) (i : Nat) (d : Ent) (p : Part) : Mod := { M with broom := remB M i, ring := M.ring.take (M.ring.idxOf i) ++ M.ring.drop (M.ring.idxOf i + 1), ents := delA (d.name, d.typ) M.ents, parts := M.parts.set d.slab (giveP d.block p) }
def letS (M : Mod) (i : Nat) (d : Nod) (p : Part) : Mod := { M with ntab := M.ntab.set i { d with refs := 0 }, nodes := delA d.name M.nodes, parts := M.parts.set d.slab (giveP d.block p) }
def mR : Mod := remS (expM (tickM mY 5) dY) 0 dY (partAt mX 1)
def mS : Mod := letS mR 1 ⟨0, 1, [97, 46, 98], some 0, 1⟩ (partAt mX 0)
def mT : Mod := letS mS 0 ⟨0, 0, [98], none, 1⟩ (giveP 1 (partAt mX 0))
theorem rem_two : RemR 3 (expM (tickM mY 5) dY) 0 dY mT := by
  refine ⟨by rfl, ?_, by decide, by decide, ⟨0, by rfl, by decide⟩, by decide, by decide, by decide, partAt mX 1, .ent 0, by rfl, by rfl, by decide, ?_⟩
  · exact of_decide_eq_true (by kernel_rfl)
  · refine LetR.go 2 _ 1 ⟨0, 1, [97, 46, 98], some 0, 1⟩ (partAt mX 0) (.nod 1) _ (by rfl) (by rfl) (by decide) (by rfl) (by rfl) (by decide) (by decide) ?_
    refine LetR.go 1 mS 0 ⟨0, 0, [98], none, 1⟩ (giveP 1 (partAt mX 0)) (.nod 0) mT (by rfl) (by rfl) (by decide) (by rfl) (by rfl) (by decide) (by decide) ?_
    exact LetR.nil _ _
theorem ents_two : mT.ents = [] := by rfl
theorem find_none {M : Mod} (h : M.ents = []) : findM M [65, 46, 98] 1 = (none, 7) ∧ (∀ i, getA (keyL [65, 46, 98], 1) M.ents = some i → ∃ d, M.etab[i]? = some d ∧ overB M d = false) := by
  have p : (parseL [65, 46, 98]).2 = 0 := by rfl
  refine ⟨?_, fun i hi => ?_⟩
  · rw [findM, if_neg (by rw [p]; decide), h]
    rfl
  · rw [h] at hi
    cases hi
theorem find_new : findM (newM 7) [97] 1 = (none, 7) ∧ (∀ i, getA (keyL [97], 1) (newM 7).ents = some i → ∃ d, (newM 7).etab[i]? = some d ∧ overB (newM 7) d = false) := by
  have p : (parseL [97]).2 = 0 := by rfl
  refine ⟨?_, fun i hi => ?_⟩
  · rw [findM, if_neg (by rw [p]; decide)]
    rfl
  · cases hi
end Go.Proofs.YtimdedkejadnfaaGreatDoor
