/-
  A row's wrap that hands the contract the listed variables' condition and the world's shape too; what these say of the table of sizes and of MaxLen; how records that come in are read. No condition.
-/
import Derived.Test.YtimdedkejadnfaaGreatDoorMoA
import Derived.Test.YtimdedkejadnfaaGreatDoorMoB
import Derived.Test.YtimdedkejadnfaaGreatDoorMoN
import Derived.Test.YtimdedkejadnfaaGreatDoorInp
import Derived.LaidSub
import Derived.MakeChecks
import Derived.Lib.LaidTab
import Derived.Handed
import Derived.HandedShaped
import Derived.Shelf.Vars
import Derived.Deep.Slices
import Derived.ChangeSame
namespace Go.Proofs.YtimdedkejadnfaaGreatDoor
open Go.RowKit Go.Colm Go.ChangeShapes Go.WideShapes
set_option linter.unusedVariables false

theorem returns_and_shaped {H : Type} {enc : TypeId × Value → H} {a : Assume} {C : Checked} {os : Os} {f : FuncId} {fn : Func} {s : ChangeSpec} {conds : List PathCond} {apart fresh handsOn again : Bool} {X : World → Array Value → Prop}
    (hX : ∀ (w w' : World) (args : Array Value), w.heap = w'.heap → X w args → X w' args)
    (own : ownKnob C.prog.godebug = none) (started : os.Started) (noInit : C.prog.inits.idxOf? f = none) (hfn : C.prog.funcs[f]? = some fn)
    (witness : ∃ (w : World) (tape : Tape) (i : Input), w.os = os ∧ (w.forCall tape i).Shaped C.prog ∧ i.vars = [] ∧ Input.okWide C.prog (w.forCall tape i) .any w.heap.size f i ∧
      ((s.pre enc C.prog fn conds apart (w.forCall tape i).memory i.args ∧ X (w.forCall tape i).memory i.args) ∧ sizedMet enc C.prog fn (OpenSpec.ofChange s) apart (w.forCall tape i).memory i.args) ∧ a.holds C.prog (lone (Frame.enter C.prog f i.args .normal) [] (w.forCall tape i)))
    (contract : ∀ (W : World) (base : Nat) (args : Array Value) (ds gs : List (DataW H)) (before : List MemPlace),
      (∀ (j : Nat) t v, fn.params[j]? = some t → args[j]? = some v → Value.okWide C.prog W .any base t v) →
      DataW.Whole enc C.prog fn.params.toList s.vars apart W args.toList ds gs before → W.ShapedOpen C.prog → X W args →
      Calls C.prog f args W fun e W' => ∃ v, e = .returned v ∧ s.post enc C.prog fn apart fresh handsOn again W args v W') :
    ReturnsInHanded a C os f .any (fun w args => (s.pre enc C.prog fn conds apart w args ∧ X w args) ∧ sizedMet enc C.prog fn (OpenSpec.ofChange s) apart w args) (s.post enc C.prog fn apart fresh handsOn again) := by
  refine returnsInHanded_of_calls own started noInit witness ?_
  intro w tape i _ hsh _ hok hpre hholds
  obtain ⟨_, _, _, fn', hfn', _, _, _, _, hval⟩ := hok
  have e : fn' = fn := Option.some.inj (hfn'.symm.trans hfn)
  subst e
  obtain ⟨⟨⟨ds, gs, before, hw, hc⟩, hx⟩, hz⟩ := hpre
  have hw' := DataW.Whole.of_heap (w' := w.forCall tape i) (by rfl) hw
  refine (contract (w.forCall tape i) w.heap.size i.args ds gs before hval hw' hsh (hX (w.forCall tape i).memory (w.forCall tape i) i.args rfl hx)).mono fun e W' ⟨v, he, hp⟩ => ?_
  subst he
  exact ChangeSpec.post_blind hp

theorem maxL_of {W : World} (h : W.ShapedOpen Tryz.prog) : MaxL W :=
  cell_of_shapedOpen_int (g := 1) (t := 3) (zero := #[.int .i64 0]) h (of_decide_eq_true (by kernel_rfl)) (by kernel_rfl) rfl (by kernel_rfl) (by kernel_rfl) Tryz.underlying3
/-- What the walks ask of the world from the start. -/
def EnvM (W : World) : Prop := Sz W ∧ MaxL W
theorem envm_of {W : World} {laid : List (String × DataW Unit)} (h : W.ShapedOpen Tryz.prog) (hl : laidMet Tryz.prog laid W) (he : laid.filter (fun x => x.1 == "columbarium/class.sizes") = [("columbarium/class.sizes", Lib.tabData .i64 (szL.map fun (n : Nat) => (n : Int)))]) : EnvM W := by
  have h2 := hl.filter (fun x => x.1 == "columbarium/class.sizes")
  rw [he] at h2
  have ht := Lib.tabIs_of_head (g := 0) (t := 216) (e := 3) (n := 10) (by kernel_rfl) (by kernel_rfl) Tryz.underlying216 Tryz.underlying3 (by kernel_rfl) (by kernel_rfl) h2
  refine ⟨fun i hi => ?_, maxL_of h⟩
  have hc := ht.cell (g := 0) (by kernel_rfl) i (by simpa [szL] using hi)
  rw [hc, szAt, List.getD_eq_getElem?_getD, List.getD_eq_getElem?_getD, List.getElem?_map]
  cases szL[i]? <;> rfl

theorem list_choose6 {α : Type} {n : Nat} {p : Nat → α → Prop} (h : ∀ i, i < n → ∃ x, p i x) : ∃ l : List α, l.length = n ∧ ∀ i (hi : i < l.length), p i l[i] := by
  induction n with
  | zero => exact ⟨[], rfl, fun i hi => by simp at hi⟩
  | succ n ih =>
    obtain ⟨l, hl, hp⟩ := ih fun i hi => h i (by omega)
    obtain ⟨x, hx⟩ := h n (by omega)
    refine ⟨l ++ [x], by simp [hl], fun i hi => ?_⟩
    by_cases e : i < l.length
    · rw [List.getElem_append_left e]
      exact hp i e
    · have : i = n := by
        simp at hi
        omega
      subst this
      rw [List.getElem_append_right (by omega)]
      simpa [hl] using hx
section
variable {H : Type} {enc : TypeId × Value → H} {P : Program} {w : World} {base : Nat} {spare : Nat → Bool} {held : Bool}
theorem read_rec6 {T U : TypeId} (hT : P.underlying T = some (.slice U)) (hU : P.underlying U = some (.int .u8)) (cU : P.cellsOf U = 1) {fuel : Nat} {cs : List Value} {x : DataW H × List MemPlace} (h : DataW.trod enc P w base spare held fuel T cs = some x) :
    ∃ (A : Option Addr) (l : List UInt8) (cap : Nat), cs = [.slice A l.length cap] ∧ l.length ≤ cap ∧ cap ≤ maxLen ∧ RowV w A (bytesV l) := by
  rcases DataW.trod_slice hT h with ⟨e, _⟩ | ⟨a, len, cap, elems, rest, m, _, rfl, _⟩
  · exact ⟨none, [], 0, e, by simp, by unfold maxLen; omega, RowV.nil _ _⟩
  · obtain ⟨l, rfl, h1, h2, h3⟩ := Go.Colm.read_bytes hT hU cU h
    exact ⟨_, l, cap, rfl, h1, h2, h3⟩
theorem read_recs6 {TT T U : TypeId} (ht : P.underlying TT = some (.slice T)) (hT : P.underlying T = some (.slice U)) (hU : P.underlying U = some (.int .u8)) (cT : P.cellsOf T = 1) (cU : P.cellsOf U = 1) {fuel : Nat} {cs : List Value} {x : DataW H × List MemPlace}
    (h : DataW.trod enc P w base spare held fuel TT cs = some x) :
    ∃ (A : Option Addr) (l : List (List UInt8)) (cap : Nat), cs = [.slice A l.length cap] ∧ l.length ≤ cap ∧ cap ≤ maxLen ∧ (∀ x ∈ l, x.length ≤ maxLen) ∧ RecAt (fun _ => True) w A l := by
  rcases DataW.trod_slice ht h with ⟨e, _⟩ | ⟨a, len, cap, elems, rest, m, _, rfl, _, _, hl, hm, hlen, hel, _, _⟩
  · exact ⟨none, [], 0, e, by simp, by unfold maxLen; omega, (by intro x hx; cases hx), RecAt.nil _ _ _⟩
  · have key : ∀ i, i < len → ∃ l : List UInt8, ∃ b off Au cu, (some a : Option Addr) = some ⟨b, off, none⟩ ∧ w.cell? ⟨b, off + i, none⟩ = some (.slice Au l.length cu) ∧ (l.length ≤ cu ∧ cu ≤ maxLen) ∧ RowV w Au (bytesV l) := by
      intro i hi
      have hb := hel i hi
      rw [List.getElem?_eq_getElem (by omega)] at hb
      obtain ⟨cs', hc1, hc2⟩ := Option.bind_eq_some_iff.1 hb
      rw [cT] at hc1
      obtain ⟨_, hl1, hcell⟩ := World.cells?_some hc1
      obtain ⟨b, off, spot⟩ := a
      have hspot : spot = none := by
        have hb0 := hel 0 (by omega)
        rw [List.getElem?_eq_getElem (by omega)] at hb0
        obtain ⟨ds, hd1, _⟩ := Option.bind_eq_some_iff.1 hb0
        rw [cT] at hd1
        obtain ⟨_, hdl, hdc⟩ := World.cells?_some hd1
        have h00 := hdc 0 (by omega)
        rw [List.getElem?_eq_getElem (by omega)] at h00
        simpa [Addr.add] using World.cell?_spot h00
      subst hspot
      obtain ⟨Au, l, cu, rfl, h1, h2, h4⟩ := read_rec6 hT hU cU hc2
      have hcc := hcell 0 (by simp)
      refine ⟨l, b, off, Au, cu, rfl, ?_, ⟨h1, h2⟩, h4⟩
      by_cases hi0 : i = 0
      · subst hi0
        simpa [Addr.add] using hcc
      · simpa [Addr.add, hi0] using hcc
    obtain ⟨ll, rfl, hk⟩ := list_choose6 key
    refine ⟨some a, ll, cap, rfl, hl, hm, fun x hx => ?_, fun i x hx => ?_⟩
    · obtain ⟨i, hi, rfl⟩ := List.getElem_of_mem hx
      obtain ⟨b, off, Au, cu, e, h1, h2, h3⟩ := hk i hi
      omega
    · obtain ⟨hi, rfl⟩ := List.getElem?_eq_some_iff.1 hx
      obtain ⟨b, off, Au, cu, e, h1, h2, h3⟩ := hk i hi
      exact ⟨b, off, Au, cu, e, trivial, h1, h3, fun _ _ => trivial⟩
end
end Go.Proofs.YtimdedkejadnfaaGreatDoor
