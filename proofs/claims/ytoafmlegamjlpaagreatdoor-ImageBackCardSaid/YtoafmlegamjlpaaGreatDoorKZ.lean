/-
  The walks of the laws ImageSqueezes, ImageSpreads, ImageBack, in the rows' form. No condition but the package's tables and what lies there.
  A row's wrap that hands the contract the listed variables' condition and the world's shape too; and what these say of the package's tables that the walks of layer image read. No condition.
-/
import Derived.Test.YtoafmlegamjlpaaGreatDoorKY
import Derived.LaidSub
import Derived.MakeChecks
import Derived.Lib.LaidTab
import Derived.Handed
import Derived.HandedShaped
import Derived.Shelf.Vars
import Derived.OpenShut
import Derived.ChangeSame
set_option linter.unusedVariables false
set_option linter.unusedSimpArgs false
namespace Go.Proofs.YtoafmlegamjlpaaGreatDoor
open Go.RowKit Go.Colm Go.Cap
set_option linter.unusedVariables false
theorem imageSpreads_walk (A : Option Addr) (l : List UInt8) (c : Nat) (h1 : l.length ≤ c) (h2 : c ≤ maxLen) (W : World) (r : RowV W A (bytesV l)) (he : EnvC W) : Calls Tryz.prog 4 #[.slice A l.length c] W fun e W' => e = .returned (.bool true) ∧ Below W.heap.size W W' := spreads_ok A c l W he r h1
theorem imageSqueezes_walk (A : Option Addr) (l : List UInt8) (c : Nat) (h1 : l.length ≤ c) (h2 : c ≤ maxLen) (W : World) (r : RowV W A (bytesV l)) (he : EnvC W) : Calls Tryz.prog 3 #[.slice A l.length c] W fun e W' => e = .returned (.bool true) ∧ Below W.heap.size W W' := squeezes_ok A c l W he r h1
theorem imageBack_walk (A : Option Addr) (l : List UInt8) (c : Nat) (h1 : l.length ≤ c) (h2 : c ≤ maxLen) (B : Option Addr) (m : List UInt8) (d : Nat) (h3 : m.length ≤ d) (h4 : d ≤ maxLen) (W : World) (r : RowV W A (bytesV l)) (q : RowV W B (bytesV m)) (he : EnvC W) : Calls Tryz.prog 5 #[.slice A l.length c, .slice B m.length d] W fun e W' => e = .returned (.bool true) ∧ Below W.heap.size W W' := back_ok A B c d l m W he r h1 q h3
end Go.Proofs.YtoafmlegamjlpaaGreatDoor
namespace Go.Proofs.YtoafmlegamjlpaaGreatDoor
open Go.RowKit Go.Colm Go.Cap Go.ChangeShapes Go.WideShapes
set_option linter.unusedVariables false

theorem returns_and_shaped {H : Type} {enc : TypeId × Value → H} {a : Assume} {C : Checked} {os : Os} {f : FuncId} {fn : Func} {s : ChangeSpec} {conds : List PathCond} {apart fresh handsOn again : Bool} {X : World → Array Value → Prop}
    (hX : ∀ (w w' : World) (args : Array Value), w.heap = w'.heap → X w args → X w' args)
    (own : ownKnob C.prog.godebug = none) (started : os.Started) (noInit : C.prog.inits.idxOf? f = none) (hfn : C.prog.funcs[f]? = some fn)
    (witness : ∃ (w : World) (tape : Tape) (i : Input), w.os = os ∧ (w.forCall tape i).Shaped C.prog ∧ i.vars = [] ∧ Input.okWide C.prog (w.forCall tape i) .any w.heap.size f i ∧
      ((s.pre enc C.prog fn conds apart (w.forCall tape i).memory i.args ∧ X (w.forCall tape i).memory i.args) ∧ sizedMet enc C.prog fn (OpenSpec.ofChange s) apart (w.forCall tape i).memory i.args) ∧ a.holds C.prog (lone (Frame.enter C.prog f i.args .normal) [] (w.forCall tape i)))
    (contract : ∀ (W : World) (base : Nat) (args : Array Value) (ds gs : List (DataW H)) (before : List MemPlace),
      (∀ (j : Nat) t v, fn.params[j]? = some t → args[j]? = some v → Value.okWide C.prog W .any base t v) →
      DataW.Whole enc C.prog fn.params.toList s.vars apart W args.toList ds gs before → W.ShapedOpen C.prog → X W args →
      Calls C.prog f args W fun e W' => ∃ v, e = .returned v ∧ s.post enc C.prog fn apart fresh handsOn again W args v W') :
    ReturnsInHanded a C os f .any (fun w args => (s.pre enc C.prog fn conds apart w args ∧ X w args) ∧ sizedMet enc C.prog fn (OpenSpec.ofChange s) apart w args) (s.post enc C.prog fn apart fresh handsOn again) := by
  refine returnsInHanded_of_calls own started noInit witness ?_
  intro w tape i _ hsh _ hok hpre hholds
  obtain ⟨_, _, _, fn', hfn', _, _, _, _, hval⟩ := hok
  have e : fn' = fn := Option.some.inj (hfn'.symm.trans hfn)
  subst e
  obtain ⟨⟨⟨ds, gs, before, hw, hc⟩, hx⟩, hz⟩ := hpre
  have hw' := DataW.Whole.of_heap (w' := w.forCall tape i) (by rfl) hw
  refine (contract (w.forCall tape i) w.heap.size i.args ds gs before hval hw' hsh (hX (w.forCall tape i).memory (w.forCall tape i) i.args rfl hx)).mono fun e W' ⟨v, he, hp⟩ => ?_
  subst he
  exact ChangeSpec.post_blind hp

section
variable {H : Type} {enc : TypeId × Value → H} {W : World} {base : Nat} {spare : Nat → Bool} {held : Bool}
theorem pair_cells {fuel : Nat} {cs : List Value} {x y : Int} {p : List MemPlace} (h : DataW.trod enc Tryz.prog W base spare held fuel 284 cs = some (.agg [.lit (.int .i64 x), .lit (.int .i64 y)], p)) : cs = [.int .i64 x, .int .i64 y] := by
  exact Lib.cells_of_tab (zs := [x, y]) Tryz.underlying284 Tryz.underlying3 (by kernel_rfl) (by kernel_rfl) h
/-- Rows of two numbers, one behind the other. -/
def rowsD (l : List (Int × Int)) : DataW H := .agg (l.map fun r => .agg [.lit (.int .i64 r.1), .lit (.int .i64 r.2)])
theorem rows_cells {n : Nat} {t : TypeId} {fuel : Nat} {cs : List Value} {l : List (Int × Int)} {p : List MemPlace} (ht : Tryz.prog.underlying t = some (.array n 284)) (h : DataW.trod enc Tryz.prog W base spare held fuel t cs = some (rowsD l, p)) :
    ∀ i, i < n → ∃ x y, l[i]? = some (x, y) ∧ (cs.drop (i * 2)).take 2 = [.int .i64 x, .int .i64 y] := by
  obtain ⟨xs, m, _, e, _, hxn, hx⟩ := DataW.trod_array ht h
  have hc : Tryz.prog.cellsOf 284 = 2 := by kernel_rfl
  intro i hi
  have hxi := hx i hi
  rw [hc] at hxi
  have e1 : (l.map fun r => (DataW.agg [.lit (.int .i64 r.1), .lit (.int .i64 r.2)] : DataW H)) = xs.map (·.1) := by
    have := congrArg Prod.fst e
    simpa [rowsD] using this
  have hil : i < l.length := by
    have := congrArg List.length e1
    simp at this
    omega
  have hix : i < xs.length := by omega
  have e2 := congrArg (fun q => q[i]?) e1
  simp only [List.getElem?_map, List.getElem?_eq_getElem hil, List.getElem?_eq_getElem hix, Option.map_some, Option.some.injEq] at e2
  rw [List.getElem?_eq_getElem hix] at hxi
  refine ⟨(l[i]'hil).1, (l[i]'hil).2, List.getElem?_eq_getElem hil, pair_cells (fuel := m) (enc := enc) (W := W) (base := base) (spare := spare) (held := held) (p := (xs[i]'hix).2) ?_⟩
  rw [hxi]
  exact congrArg some (Prod.ext e2.symm rfl)
end
theorem laid_one {P : Program} {W : World} {name : String} {d : DataW Unit} {g : Nat} {t : TypeId} (hg : P.globalNamed name = some g) (hty : (P.globals[g]?).map (·.type) = some t) (h : laidMet P [(name, d)] W) :
    ∃ (cs : Array Value) (fuel : Nat) (p : List MemPlace) (base : Nat) (spare : Nat → Bool) (held : Bool) (enc : TypeId × Value → Unit), (∀ i, W.cell? ⟨g, i, none⟩ = cs[i]?) ∧ DataW.trod enc P W base spare held fuel t cs.toList = some (d, p) := by
  obtain ⟨ps, ⟨g', t', cs, fuel, p, q, hg', ht', hvar, hd, _, _⟩, _⟩ := h
  obtain rfl := Option.some.inj (hg.symm.trans hg')
  obtain rfl := Option.some.inj (hty.symm.trans ht')
  exact ⟨cs, fuel, p, _, _, _, _, fun i => World.var?_cell hg hvar i, hd⟩
theorem rows_env {W : World} {name : String} {g n : Nat} {t : TypeId} {l : List (Int × Int)} (hg : Tryz.prog.globalNamed name = some g) (hty : (Tryz.prog.globals[g]?).map (·.type) = some t) (ht : Tryz.prog.underlying t = some (.array n 284)) (h : laidMet Tryz.prog [(name, rowsD l)] W) :
    ∀ i, i < n → ∃ x y, l[i]? = some (x, y) ∧ W.cell? ⟨g, i * 2, none⟩ = some (.int .i64 x) ∧ W.cell? ⟨g, i * 2 + 1, none⟩ = some (.int .i64 y) := by
  obtain ⟨cs, fuel, p, base, spare, held, enc, hc, hd⟩ := laid_one hg hty h
  intro i hi
  obtain ⟨x, y, h1, h2⟩ := rows_cells ht hd i hi
  have g0 := congrArg (fun q => q[0]?) h2
  have g1 := congrArg (fun q => q[1]?) h2
  simp only [List.getElem?_take, List.getElem?_drop] at g0 g1
  refine ⟨x, y, h1, ?_, ?_⟩
  · rw [hc]
    simpa using g0
  · rw [hc]
    simpa using g1
def cmnP : List (Int × Int) := [(0, 1), (1, 1), (2, 1), (3, 1), (4, 4)]
def ownP : List (Int × Int) := [(8, 4), (12, 4), (16, 8), (24, 2), (26, 2), (28, 4)]
theorem flat_env {W : World} {g n : Nat} {l : List (Int × Int)} {f : List Nat} (h : ∀ i, i < n → ∃ x y, l[i]? = some (x, y) ∧ W.cell? ⟨g, i * 2, none⟩ = some (.int .i64 x) ∧ W.cell? ⟨g, i * 2 + 1, none⟩ = some (.int .i64 y))
    (hf : ∀ i, i < n → l[i]? = some (((f.getD (i * 2) 0 : Nat) : Int), ((f.getD (i * 2 + 1) 0 : Nat) : Int))) : ∀ i, i < n * 2 → W.cell? ⟨g, i, none⟩ = some (.int .i64 (f.getD i 0 : Nat)) := by
  intro i hi
  obtain ⟨x, y, h1, h2, h3⟩ := h (i / 2) (by omega)
  have h4 := h1.symm.trans (hf (i / 2) (by omega))
  simp only [Option.some.injEq, Prod.mk.injEq] at h4
  obtain ⟨rfl, rfl⟩ := h4
  rcases Nat.mod_two_eq_zero_or_one i with e | e
  · rw [show i / 2 * 2 = i by omega] at h2
    exact h2
  · rw [show i / 2 * 2 + 1 = i by omega] at h3
    exact h3
theorem tab_env {W : World} {name : String} {g n : Nat} {t : TypeId} {f : List Nat} (hg : Tryz.prog.globalNamed name = some g) (hty : (Tryz.prog.globals[g]?).map (·.type) = some t) (ht : Tryz.prog.underlying t = some (.array n 3)) (hct : Tryz.prog.cellsOf t = n) (hn : f.length = n)
    (h : laidMet Tryz.prog [(name, Lib.tabData .i64 (f.map fun (x : Nat) => (x : Int)))] W) : ∀ i, i < n → W.cell? ⟨g, i, none⟩ = some (.int .i64 (f.getD i 0 : Nat)) := by
  intro i hi
  have hq := (Lib.tabIs_of_head hg hty ht Tryz.underlying3 (by kernel_rfl) hct h).cell hg i (by simp; omega)
  rw [hq, List.getD_eq_getElem?_getD, List.getD_eq_getElem?_getD, List.getElem?_map, List.getElem?_eq_getElem (by omega)]
  rfl
theorem envc_of {W : World} {laid : List (String × DataW Unit)} (h : W.ShapedOpen Tryz.prog) (hl : laidMet Tryz.prog laid W)
    (e1 : laid.filter (fun x => x.1 == "columbarium/class.sizes") = [("columbarium/class.sizes", Lib.tabData .i64 (szL.map fun (n : Nat) => (n : Int)))])
    (e2 : laid.filter (fun x => x.1 == "columbarium/memory.fields") = [("columbarium/memory.fields", Lib.tabData .i64 (fldL.map fun (n : Nat) => (n : Int)))])
    (e3 : laid.filter (fun x => x.1 == "columbarium/head.nowhere") = [("columbarium/head.nowhere", Lib.tabData .i64 ([0, 0].map fun (n : Nat) => (n : Int)))])
    (e4 : laid.filter (fun x => x.1 == "columbarium/head.common") = [("columbarium/head.common", rowsD cmnP)])
    (e5 : laid.filter (fun x => x.1 == "columbarium/head.own") = [("columbarium/head.own", rowsD ownP)]) : EnvC W where
  sz := by
    have q := hl.filter (fun x => x.1 == "columbarium/class.sizes")
    rw [e1] at q
    exact tab_env (n := 10) (t := 138) (by kernel_rfl) (by kernel_rfl) Tryz.underlying138 (by kernel_rfl) rfl q
  fl := by
    have q := hl.filter (fun x => x.1 == "columbarium/memory.fields")
    rw [e2] at q
    exact tab_env (n := 21) (t := 124) (by kernel_rfl) (by kernel_rfl) Tryz.underlying124 (by kernel_rfl) rfl q
  hn := by
    have q := hl.filter (fun x => x.1 == "columbarium/head.nowhere")
    rw [e3] at q
    intro i hi
    have := tab_env (g := 3) (n := 2) (t := 284) (by kernel_rfl) (by kernel_rfl) Tryz.underlying284 (by kernel_rfl) rfl q i hi
    rcases i with _ | _ | i
    · exact this
    · exact this
    · omega
  hc := by
    have q := hl.filter (fun x => x.1 == "columbarium/head.common")
    rw [e4] at q
    exact flat_env (n := 5) (rows_env (n := 5) (t := 309) (by kernel_rfl) (by kernel_rfl) Tryz.underlying309 q) (by decide)
  ho := by
    have q := hl.filter (fun x => x.1 == "columbarium/head.own")
    rw [e5] at q
    exact flat_env (n := 6) (rows_env (n := 6) (t := 310) (by kernel_rfl) (by kernel_rfl) Tryz.underlying310 q) (by decide)
  mx := cell_of_shapedOpen_int (g := 6) (t := 3) (zero := #[.int .i64 0]) h (of_decide_eq_true (by kernel_rfl)) (by kernel_rfl) rfl (by kernel_rfl) (by kernel_rfl) Tryz.underlying3
end Go.Proofs.YtoafmlegamjlpaaGreatDoor
