/-
  A model as a ghost: what it holds, where it lies in memory, who a block belongs to; and how this stays while memory turns. No condition.
-/
import Derived.Test.YtimdedkejadnfaaGreatDoorMoC
import Derived.Test.YtimdedkejadnfaaGreatDoorMoN
namespace Go.Proofs.YtimdedkejadnfaaGreatDoor
open Go.RowKit Go.Colm
set_option linter.unusedVariables false
set_option linter.unusedSimpArgs false
set_option linter.unusedSectionVars false

inductive Hld where
  | blank
  | ent (i : Nat)
  | nod (i : Nat)
structure Part where
  cls : Nat
  live : List (Nat × Hld)
  free : List Nat
structure Nod where
  slab : Nat
  block : Nat
  name : List UInt8
  parent : Option Nat
  refs : Nat
structure Ent where
  slab : Nat
  block : Nat
  name : List UInt8
  typ : Nat
  node : Option Nat
  recs : List (List UInt8)
  fin : Nat
  used : Bool
/-- What a model holds. Nodes and entries that have gone keep their numbers. -/
structure Mod where
  parts : List Part
  ntab : List Nod
  etab : List Ent
  nodes : List (List UInt8 × Nat)
  ents : List ((List UInt8 × Nat) × Nat)
  ring : List Nat
  broom : Option Nat
  now : Nat
  evicted : Nat
  expired : Nat
  moved : Nat
  lent : Nat
/-- Whose a block of memory is. -/
inductive Role where
  | glob
  | x
  | s
  | nm
  | em
  | ring
  | live (i : Nat)
  | free (i : Nat)
  | node (i : Nat)
  | ent (i : Nat)
  | recs
deriving DecidableEq
/-- Where a model lies. -/
structure Lay where
  xb : Nat
  sb : Nat
  nm : Nat
  em : Nat
  rv : Value
  lm : Nat → Option Nat
  fv : Nat → Value
  nb : Nat → Nat
  eb : Nat → Nat
  rcs : Nat → Value
  G : Nat → Option Role

def ptrN (L : Lay) (o : Option Nat) : Value := .pointer (o.map fun i => ⟨L.nb i, 0, none⟩)
def ptrE (L : Lay) (o : Option Nat) : Value := .pointer (o.map fun i => ⟨L.eb i, 0, none⟩)
def strV (s : List UInt8) : Value := .string ⟨s.toArray⟩
def keyV (n : List UInt8) (t : Nat) : Value := .agg #[strV n, .int .u16 (t : Int)]
def hldV (L : Lay) : Hld → Value
  | .blank => .agg #[.pointer none, .pointer none]
  | .ent i => .agg #[ptrE L (some i), .pointer none]
  | .nod i => .agg #[.pointer none, ptrN L (some i)]
def intsN (l : List Nat) : List Value := l.map fun (n : Nat) => Value.int .i64 (n : Int)
def liveV (L : Lay) (l : List (Nat × Hld)) : List (Value × Value) := l.map fun q => (.int .i64 (q.1 : Int), hldV L q.2)
def nodesV (L : Lay) (l : List (List UInt8 × Nat)) : List (Value × Value) := l.map fun p => (strV p.1, ptrN L (some p.2))
def entsV (L : Lay) (l : List ((List UInt8 × Nat) × Nat)) : List (Value × Value) := l.map fun p => (keyV p.1.1 p.1.2, ptrE L (some p.2))
def modC (L : Lay) (M : Mod) : Array Value := #[.slice (some ⟨L.sb, 0, none⟩) M.parts.length M.parts.length, .map (some L.nm), .map (some L.em), L.rv, ptrE L M.broom, .int .u64 (M.now : Int), .int .i64 (M.evicted : Int), .int .i64 (M.expired : Int), .int .i64 (M.moved : Int), .int .i64 (M.lent : Int)]
def nodC (L : Lay) (d : Nod) : Array Value := #[.int .i64 (d.slab : Int), .int .i64 (d.block : Int), strV d.name, ptrN L d.parent, .int .i64 (d.refs : Int)]
def entC (L : Lay) (i : Nat) (d : Ent) : Array Value := #[.int .i64 (d.slab : Int), .int .i64 (d.block : Int), strV d.name, .int .u16 (d.typ : Int), ptrN L d.node, L.rcs i, .int .u64 (d.fin : Int), .bool d.used]

/-- The parts' cells. -/
def PartsAt (L : Lay) (M : Mod) (w : World) : Prop :=
  ∃ cs, Whole w L.sb 197 cs ∧ cs.size = M.parts.length * 3 ∧ ∀ (i : Nat) (p : Part), M.parts[i]? = some p → cs[i * 3]? = some (.int .i64 (p.cls : Int)) ∧ cs[i * 3 + 1]? = some (.map (L.lm i)) ∧ cs[i * 3 + 2]? = some (L.fv i)
/-- A part's free blocks: none where it is none; else a row with room for all. -/
def FreeAt (L : Lay) (w : World) (i : Nat) (p : Part) : Prop :=
  (L.lm i = none → p.live = [] ∧ p.free = [] ∧ L.fv i = .slice none 0 0) ∧
  ∀ b, L.lm i = some b → ∃ g cap, L.fv i = .slice (some ⟨g, 0, none⟩) p.free.length cap ∧ p.free.length + p.live.length ≤ cap ∧ w.ownsRow 0 3 1 (L.fv i) p.free.length (intsN p.free)
def Comp (L : Lay) (M : Mod) (w : World) : Role → Prop
  | .glob => Sz w ∧ MaxL w
  | .x => Whole w L.xb 65 (modC L M)
  | .s => PartsAt L M w
  | .nm => OwnL w Tryz.prog 9 L.nm (nodesV L M.nodes)
  | .em => OwnL w Tryz.prog 34 L.em (entsV L M.ents)
  | .ring => w.ownsRow 0 63 1 L.rv M.ring.length (M.ring.map fun i => ptrE L (some i))
  | .live i => ∀ p b, M.parts[i]? = some p → L.lm i = some b → OwnL w Tryz.prog 3 b (liveV L p.live)
  | .free i => ∀ p, M.parts[i]? = some p → FreeAt L w i p
  | .node i => ∀ d, M.ntab[i]? = some d → Whole w (L.nb i) 78 (nodC L d)
  | .ent i => ∀ d, M.etab[i]? = some d → Whole w (L.eb i) 95 (entC L i d)
  | .recs => ∀ (i : Nat) (d : Ent), M.etab[i]? = some d → ∃ A c, L.rcs i = .slice A d.recs.length c ∧ RecAt (fun k => L.G k = some .recs) w A d.recs
/-- Each block is whose it should be. -/
structure Roles (L : Lay) (M : Mod) : Prop where
  x : L.G L.xb = some .x
  s : L.G L.sb = some .s
  nm : L.G L.nm = some .nm
  em : L.G L.em = some .em
  ring : ∀ k, L.rv.ownBlock = some k → L.G k = some .ring
  live : ∀ i b, i < M.parts.length → L.lm i = some b → L.G b = some (.live i)
  free : ∀ i k, i < M.parts.length → (L.fv i).ownBlock = some k → L.G k = some (.free i)
  node : ∀ i, i < M.ntab.length → L.G (L.nb i) = some (.node i)
  ent : ∀ i, i < M.etab.length → L.G (L.eb i) = some (.ent i)
  sizes : L.G 0 = some .glob
  maxl : L.G 1 = some .glob
structure Has (L : Lay) (M : Mod) (w : World) : Prop where
  roles : Roles L M
  dom : ∀ k, L.G k ≠ none → k < w.heap.size
  comp : ∀ r, Comp L M w r

theorem Comp.kept {L : Lay} {M : Mod} {w w' : World} {S : Nat → Prop} {r : Role} (hR : Roles L M) (h : Comp L M w r) (hk : Kept S w w') (hs : ∀ k, S k → L.G k ≠ some r) : Comp L M w' r := by
  have nS : ∀ {k : Nat}, L.G k = some r → ¬ S k := fun hg hS => hs _ hS hg
  cases r with
  | glob =>
    obtain ⟨h1, m, h2⟩ := h
    exact ⟨h1.keep (hk.block _ h1.lt (nS hR.sizes)), m, hk.cell h2 (nS hR.maxl)⟩
  | x => exact hk.whole h (nS hR.x)
  | s =>
    obtain ⟨cs, h1, h2⟩ := h
    exact ⟨cs, hk.whole h1 (nS hR.s), h2⟩
  | nm => exact OwnL.kept h hk (nS hR.nm)
  | em => exact OwnL.kept h hk (nS hR.em)
  | ring => exact own_stays h hk fun k e => nS (hR.ring k e)
  | live i =>
    intro p b hp hb
    exact (h p b hp hb).kept hk (nS (hR.live i b (List.getElem?_eq_some_iff.1 hp).1 hb))
  | free i =>
    intro p hp
    obtain ⟨h1, h2⟩ := h p hp
    refine ⟨h1, fun b hb => ?_⟩
    obtain ⟨g, cap, h3, h4, h5⟩ := h2 b hb
    exact ⟨g, cap, h3, h4, own_stays h5 hk fun k e => nS (hR.free i k (List.getElem?_eq_some_iff.1 hp).1 e)⟩
  | node i =>
    intro d hd
    exact hk.whole (h d hd) (nS (hR.node i (List.getElem?_eq_some_iff.1 hd).1))
  | ent i =>
    intro d hd
    exact hk.whole (h d hd) (nS (hR.ent i (List.getElem?_eq_some_iff.1 hd).1))
  | recs =>
    intro i d hd
    obtain ⟨A, c, e, h1⟩ := h i d hd
    exact ⟨A, c, e, h1.kept hk fun k hg => nS hg⟩

/-- What isn't the model's may turn. -/
theorem Has.kept {L : Lay} {M : Mod} {w w' : World} {S : Nat → Prop} (h : Has L M w) (hk : Kept S w w') (hs : ∀ k, S k → L.G k = none) : Has L M w' :=
  ⟨h.roles, fun k hg => Nat.lt_of_lt_of_le (h.dom k hg) hk.size, fun r => (h.comp r).kept h.roles hk fun k hS e => by rw [hs k hS] at e; cases e⟩
theorem Has.below {L : Lay} {M : Mod} {w w' : World} (h : Has L M w) (hb : Below w.heap.size w w') : Has L M w' := h.kept (Kept.below hb fun _ => False) fun _ h => h.elim
/-- The model turns: the parts whose role is in R. -/
theorem Has.turn {L L' : Lay} {M M' : Mod} {w w' : World} {S : Nat → Prop} (h : Has L M w) (hk : Kept S w w') (R : Role → Prop) (hs : ∀ k r, S k → L.G k = some r → R r) (hr : Roles L' M') (hd : ∀ k, L'.G k ≠ none → k < w'.heap.size)
    (heq : ∀ r, ¬ R r → Comp L M w' r → Comp L' M' w' r) (hnew : ∀ r, R r → Comp L' M' w' r) : Has L' M' w' :=
  ⟨hr, hd, fun r => by
    by_cases hR : R r
    · exact hnew r hR
    · exact heq r hR ((h.comp r).kept h.roles hk fun k hS e => hR (hs k r hS e))⟩

/-- A block of the model's own; the package's variables are not. -/
def Own (L : Lay) (k : Nat) : Prop := L.G k ≠ none ∧ k ≠ 0 ∧ k ≠ 1
theorem kept_own {L : Lay} {M : Mod} {w w' : World} {S : Nat → Prop} (hR : Roles L M) (hk : Kept S w w') (h : ∀ k, k < w.heap.size → S k → L.G k ≠ none ∧ L.G k ≠ some .glob) : Kept (Own L) w w' :=
  hk.mono fun k hl hS => ⟨(h k hl hS).1, fun e => (h k hl hS).2 (by rw [e]; exact hR.sizes), fun e => (h k hl hS).2 (by rw [e]; exact hR.maxl)⟩

/-- From one state to a later one: ids stay, blocks keep whose they are, only new ones come; and of memory only the model's own turns. -/
structure Goes (L : Lay) (M : Mod) (w : World) (L' : Lay) (M' : Mod) (w' : World) : Prop where
  has : Has L' M' w'
  xb : L'.xb = L.xb
  kept0 : Kept (Own L) w w'
  grow : ∀ k, L'.G k ≠ none → L.G k ≠ none ∨ w.heap.size ≤ k
  nb : ∀ i, i < M.ntab.length → L'.nb i = L.nb i
  eb : ∀ i, i < M.etab.length → L'.eb i = L.eb i
  nt : M.ntab.length ≤ M'.ntab.length
  et : M.etab.length ≤ M'.etab.length
theorem Goes.kept {L : Lay} {M : Mod} {w : World} {L' : Lay} {M' : Mod} {w' : World} (h : Goes L M w L' M' w') : Kept (fun k => L.G k ≠ none) w w' := h.kept0.mono fun _ _ h => h.1
theorem Goes.refl {L : Lay} {M : Mod} {w : World} (h : Has L M w) : Goes L M w L M w := ⟨h, rfl, Kept.refl _ _, fun k h => .inl h, fun _ _ => rfl, fun _ _ => rfl, Nat.le_refl _, Nat.le_refl _⟩
theorem Goes.trans {L L' L'' : Lay} {M M' M'' : Mod} {w w' w'' : World} (h : Goes L M w L' M' w') (k : Goes L' M' w' L'' M'' w'') : Goes L M w L'' M'' w'' where
  has := k.has
  xb := k.xb.trans h.xb
  kept0 := ⟨k.kept0.os.trans h.kept0.os, k.kept0.tape.trans h.kept0.tape, k.kept0.output.trans h.kept0.output, Nat.le_trans h.kept0.size k.kept0.size, fun i hi hn => by
    refine (k.kept0.block i (Nat.lt_of_lt_of_le hi h.kept0.size) fun e => ?_).trans (h.kept0.block i hi hn)
    rcases h.grow i e.1 with h1 | h1
    · exact hn ⟨h1, e.2⟩
    · omega⟩
  grow := fun i hi => by
    rcases k.grow i hi with h1 | h1
    · exact h.grow i h1
    · exact .inr (Nat.le_trans h.kept0.size h1)
  nb := fun i hi => (k.nb i (Nat.lt_of_lt_of_le hi h.nt)).trans (h.nb i hi)
  eb := fun i hi => (k.eb i (Nat.lt_of_lt_of_le hi h.et)).trans (h.eb i hi)
  nt := Nat.le_trans h.nt k.nt
  et := Nat.le_trans h.et k.et
theorem Goes.below {L L' : Lay} {M M' : Mod} {w w' w'' : World} (h : Goes L M w L' M' w') (hb : Below w'.heap.size w' w'') : Goes L M w L' M' w'' :=
  ⟨h.has.below hb, h.xb, h.kept0.trans (Kept.below hb _), h.grow, h.nb, h.eb, h.nt, h.et⟩
end Go.Proofs.YtimdedkejadnfaaGreatDoor
