/-
  name.Suffixes (of Joi, Inr, WireS, WireT).
-/
import Derived.Shelf.Strings.OnBuilder
import Derived.Shelf.Slices.Clone
import Derived.Test.YtimdedkejadnfaaGreatDoorProg
import Derived.OrdersIn
import Derived.RowKit
import Derived.OwnWalkIn
import Derived.Maps.AppendAt
import Derived.Test.YtimdedkejadnfaaGreatDoorKept
import Derived.RangeFuncNested
import Derived.RangeFuncBound
import Derived.RangeFuncCalls
import Derived.RangeFuncLeaves
import Derived.RangeFuncBox
import Derived.Shelf.Abstract
import Derived.Shelf.RegionOpen
import Derived.WalkKit
import Derived.TacticsInMore
import Derived.LoopNIn
import Derived.LoopIn
import Derived.Test.YtimdedkejadnfaaGreatDoorWireA
import Derived.RangeFuncFrom
namespace Go.Proofs.YtimdedkejadnfaaGreatDoor
theorem own_kept {S : Nat → Prop} {w w' : World} {base : Nat} {e : TypeId} {size : Nat} {v : Value} {n : Nat} {xs : List Value} (hk : Go.Colm.Kept S w w') (h : w.ownsRow base e size v n xs) (hs : ∀ k, v.ownBlock = some k → ¬ S k) : w'.ownsRow base e size v n xs := by
  refine ⟨h.1, ?_⟩
  rcases h.2 with h0 | ⟨g, cap, cur, rfl, hb, hg, rest⟩
  · exact .inl h0
  · exact .inr ⟨g, cap, cur, rfl, hb, (hk.block g (Array.getElem?_eq_some_iff.1 hg).1 (hs g rfl)).trans hg, rest⟩
end Go.Proofs.YtimdedkejadnfaaGreatDoor
namespace Go.Proofs.YtimdedkejadnfaaGreatDoor
open Go.Shelf
def sjoiRen : Go.Shelf.Ren := ⟨fun | 156 => 115 | 165 => 105 | 166 => 174 | 169 => 108 | 240 => 168 | 241 => 169 | 276 => 219 | 277 => 220 | n => n, fun | 0 => 0 | 3 => 3 | 4 => 4 | 5 => 5 | 9 => 9 | 20 => 20 | 31 => 67 | 37 => 31 | 70 => 218 | 72 => 220 | 75 => 222 | 76 => 276 | 80 => 225 | 127 => 271 | 164 => 313 | n => n, fun | n => n⟩
def cloRen : Go.Shelf.Ren := ⟨fun | 16 => 114 | n => n, fun | 4 => 4 | 9 => 9 | 24 => 67 | n => n, fun | n => n⟩
theorem sjoiLays : Go.Proofs.Lays.n156 Tryz.prog sjoiRen := {
  mixed := by kernel_rfl
  f156 := Tryz.func115.trans (congrArg some (by kernel_rfl))
  f165 := Tryz.func105.trans (congrArg some (by kernel_rfl))
  f166 := Tryz.func174.trans (congrArg some (by kernel_rfl))
  f169 := Tryz.func108.trans (congrArg some (by kernel_rfl))
  f240 := Tryz.func168.trans (congrArg some (by kernel_rfl))
  f241 := Tryz.func169.trans (congrArg some (by kernel_rfl))
  f276 := Tryz.func219.trans (congrArg some (by kernel_rfl))
  f277 := Tryz.func220.trans (congrArg some (by kernel_rfl))
  t0 := Tryz.underlying0
  a0 := Tryz.isAgg0
  z0 := Tryz.sizeOf0
  v0 := Tryz.zeroValue0
  t3 := Tryz.underlying3
  a3 := Tryz.isAgg3
  z3 := Tryz.sizeOf3
  v3 := Tryz.zeroValue3
  t4 := Tryz.underlying4
  a4 := Tryz.isAgg4
  z4 := Tryz.sizeOf4
  v4 := Tryz.zeroValue4
  t9 := Tryz.underlying9
  a9 := Tryz.isAgg9
  z9 := Tryz.sizeOf9
  v9 := Tryz.zeroValue9
  t20 := Tryz.underlying20
  a20 := Tryz.isAgg20
  z20 := Tryz.sizeOf20
  v20 := Tryz.zeroValue20
  t31 := Tryz.underlying67
  a31 := Tryz.isAgg67
  z31 := Tryz.sizeOf67
  v31 := Tryz.zeroValue67
  t37 := Tryz.underlying31
  a37 := Tryz.isAgg31
  z37 := Tryz.sizeOf31
  v37 := Tryz.zeroValue31
  t70 := Tryz.underlying218
  a70 := Tryz.isAgg218
  z70 := Tryz.sizeOf218
  v70 := Tryz.zeroValue218
  t72 := Tryz.underlying220
  a72 := Tryz.isAgg220
  z72 := Tryz.sizeOf220
  v72 := Tryz.zeroValue220
  t75 := Tryz.underlying222
  a75 := Tryz.isAgg222
  z75 := Tryz.sizeOf222
  v75 := Tryz.zeroValue222
  t76 := Tryz.underlying276
  a76 := Tryz.isAgg276
  z76 := Tryz.sizeOf276
  v76 := Tryz.zeroValue276
  t127 := Tryz.underlying271
  a127 := Tryz.isAgg271
  z127 := Tryz.sizeOf271
  v127 := Tryz.zeroValue271
  t164 := Tryz.underlying313
  a164 := Tryz.isAgg313
  z164 := Tryz.sizeOf313
  v164 := Tryz.zeroValue313 }
theorem cloLays : Go.Proofs.Lays2.n16 Tryz.prog cloRen := {
  mixed := by kernel_rfl
  f16 := Tryz.func114.trans (congrArg some (by kernel_rfl))
  t4 := Tryz.underlying4
  a4 := Tryz.isAgg4
  z4 := Tryz.sizeOf4
  v4 := Tryz.zeroValue4
  t9 := Tryz.underlying9
  a9 := Tryz.isAgg9
  z9 := Tryz.sizeOf9
  v9 := Tryz.zeroValue9
  t24 := Tryz.underlying67
  a24 := Tryz.isAgg67
  z24 := Tryz.sizeOf67
  v24 := Tryz.zeroValue67
  i9 := by kernel_rfl }
theorem sjoiExtra : Builder.Extra Tryz.prog sjoiRen := {
  sizeBuilder := by kernel_rfl
  liesBuilder := by kernel_rfl
  t5 := Tryz.underlying5
  a5 := Tryz.isAgg5
  z5 := Tryz.sizeOf5
  v5 := Tryz.zeroValue5
  infoByte := by kernel_rfl
  cellsByte := by kernel_rfl
  sizeByte := by kernel_rfl
  neB5 := by decide }
open Go.RowKit in
theorem sjoin_any (bk o c : Nat) (xs : List ByteArray) (sep : ByteArray) (w : World) (hcells : ∀ (j : Nat) x, xs[j]? = some x → w.cell? ⟨bk, o + j, none⟩ = some (.string x)) (hbk : bk < w.heap.size) (hN : xs.length ≤ 140737488355328) (hcap : xs.length ≤ c)
    (hlen : (Lib.join (xs.map (·.data.toList)) sep.data.toList).length ≤ 140737488355328) :
    Calls Tryz.prog 115 #[.slice (some ⟨bk, o, none⟩) xs.length c, .string sep] w fun e w' => e = .returned (.string ⟨(Lib.join (xs.map (·.data.toList)) sep.data.toList).toArray⟩) ∧ Below w.heap.size w w' :=
  Any.strings_Join sjoiLays sjoiExtra bk o c xs sep w hcells hbk hN hcap hlen
open Go.RowKit in
theorem sclone_any (b off n c : Nat) (zs : List ByteArray) (w : World) (hz : n ≤ zs.length) (hbig : n * 16 ≤ 140737488355328) (hc : ∀ j, j < zs.length → w.cell? ⟨b, off + j, none⟩ = some (.string (zs.getD j ByteArray.empty))) :
    Calls Tryz.prog 114 #[.slice (some ⟨b, off, none⟩) n c] w fun e w' => ∃ v', e = .returned v' ∧ w'.ownsRow w.heap.size 9 1 v' n ((zs.take n).map (Value.string)) ∧ v' ≠ .slice none 0 0 ∧ Below w.heap.size w w' :=
  Any.slices_Clone_string cloLays b off n c zs w hz hbig hc
end Go.Proofs.YtimdedkejadnfaaGreatDoor
namespace Go.Colm
open Go.RowKit
section
variable {F : Fence} {n : Nat} {P : Program} {ops : Array Oper} {Q : Exit → Act → World → Prop} {md : Region.Mode}
theorem rdy1 {i : Nat} {fuel : Nat} {listed : Array Bool} {a : Act} {w : World} (hr : Region.ready md ops listed = [i])
    (h : wpOpIn F n P ops Q i (wpAnyIn F n P md ops Q fuel (listed.setIfInBounds i true)) a w) : wpAnyIn F n P md ops Q (fuel + 1) listed a w :=
  wpAnyIn_all hr (by simp) fun j hj => by
    rcases List.mem_singleton.1 hj with rfl
    exact h
theorem rdy2 {i k : Nat} {fuel : Nat} {listed : Array Bool} {a : Act} {w : World} (hr : Region.ready md ops listed = [i, k])
    (h : wpOpIn F n P ops Q i (wpAnyIn F n P md ops Q fuel (listed.setIfInBounds i true)) a w) (h' : wpOpIn F n P ops Q k (wpAnyIn F n P md ops Q fuel (listed.setIfInBounds k true)) a w) : wpAnyIn F n P md ops Q (fuel + 1) listed a w :=
  wpAnyIn_all hr (by simp) fun j hj => by
    rcases List.mem_cons.1 hj with rfl | hj
    · exact h
    · rcases List.mem_singleton.1 hj with rfl
      exact h'
theorem op_val {i : Nat} {o : Oper} {K : Act → World → Prop} {a : Act} {w w' : World} {v : Value} (ho : ops[i]? = some o) (hg : o.guard = none) (hF : ∀ f, F.fn f) (hs : o.semAt F.round a.eval = execOp a.eval o)
    (hrun : (execOp a.eval o).run P w = .ok (.value v) w') (h : K (a.put o.dst v) w') : wpOpIn F n P ops Q i K a w :=
  wpOpIn_step ho fun K' hK => by
    have hw : Region.wanted o (yielded ops a.tmps) = true := by simp [Region.wanted, hg]
    rw [if_pos hw]
    refine ⟨fun f _ => hF f, ?_⟩
    rw [hs, hrun]
    exact hK _ _ h
theorem op_skip {i : Nat} {o : Oper} {K : Act → World → Prop} {a : Act} {w w' : World} (ho : ops[i]? = some o) (hg : o.guard = none) (hF : ∀ f, F.fn f) (hs : o.semAt F.round a.eval = execOp a.eval o)
    (hrun : (execOp a.eval o).run P w = .ok .skip w') (h : K (a.put o.dst undef) w') : wpOpIn F n P ops Q i K a w :=
  wpOpIn_step ho fun K' hK => by
    have hw : Region.wanted o (yielded ops a.tmps) = true := by simp [Region.wanted, hg]
    rw [if_pos hw]
    refine ⟨fun f _ => hF f, ?_⟩
    rw [hs, hrun]
    exact hK _ _ h
theorem op_call {i : Nat} {o : Oper} {K : Act → World → Prop} {a : Act} {w w' : World} {f : FuncId} {args : Array Value} {R : Value → World → Prop} (ho : ops[i]? = some o) (hg : o.guard = none) (hF : ∀ f, F.fn f) (hs : o.semAt F.round a.eval = execOp a.eval o)
    (hrun : (execOp a.eval o).run P w = .ok (.enter f args) w') (hd : F.depth.isSome = true → 1 ≤ n) (hc : CallsIn F (n - 1) P f args w' fun e w2 => ∃ v, e = .returned v ∧ R v w2) (h : ∀ v w2, R v w2 → K (a.put o.dst v) w2) : wpOpIn F n P ops Q i K a w :=
  wpOpIn_step ho fun K' hK => by
    have hw : Region.wanted o (yielded ops a.tmps) = true := by simp [Region.wanted, hg]
    rw [if_pos hw]
    refine ⟨fun f _ => hF f, ?_⟩
    rw [hs, hrun]
    refine ⟨hd, hc.mono fun e w2 hh => ?_⟩
    obtain ⟨v, rfl, hR⟩ := hh
    exact hK _ _ (h v w2 hR)
theorem op_append {i : Nat} {o : Oper} {K : Act → World → Prop} {a : Act} {w : World} (ho : ops[i]? = some o) (hg : o.guard = none) (hF : ∀ f, F.fn f) (hs : o.semAt F.round a.eval = execOp a.eval o)
    (s x : Operand) (t : TypeId) (hop : o.op = Op.call { callee := Callee.builtin Builtin.append, args := #[s, x], argTypes := #[t, t] })
    (base : Nat) (e : TypeId) (ti : TypeInfo) (z : Value) (size bytes : Nat) (h1 : P.underlying t = some (.slice e)) (h2 : P.info? e = some ti) (h3 : ti.zero = some z) (h4 : ti.size = size) (h5 : ti.bytes = bytes) (h6 : z.cells.size = size) (h7 : 0 < size)
    (v : Value) (k : Nat) (xs : List Value) (hsv : a.eval s = v) (hown : w.ownsRow base e size v k xs) (ad : Addr) (m c : Nat) (news : List Value) (hx : a.eval x = .slice (some ad) m c) (hn : news.length = m * size)
    (hc : ∀ j u, news[j]? = some u → w.cell? (ad.add j) = some u) (h1c : ∀ u ∈ news, u.oneCell' = true) (b1 : k + m ≤ maxLen) (b2 : (k + m) * bytes ≤ 140737488355328) (b3 : base ≤ w.heap.size)
    (hK : ∀ v' w', w'.ownsRow base e size v' (k + m) (xs ++ news) → w.grownBy w' v.ownBlock → (v' = .slice none 0 0 ↔ v = .slice none 0 0 ∧ m = 0) → K (a.put o.dst v') w') : wpOpIn F n P ops Q i K a w := by
  obtain ⟨v', w', hrun, r1, r2, r3⟩ := run_append_own (P := P) w base t o.type e ti z size bytes h1 h2 h3 h4 h5 h6 h7 v k xs hown ad m c news hn hc h1c b1 b2 b3
  refine op_val (v := v') (w' := w') ho hg hF hs ?_ (hK v' w' r1 r2 r3)
  simp [execOp, hop, resolve, invoke, builtin, hsv, hx, hrun, Result.andThen]
end
end Go.Colm
namespace Go.Colm
open Go.RowKit
theorem run_cut3 {P : Program} {t e : TypeId} {s : Nat} (ht : P.underlying t = some (.slice e)) (hs : ∀ w, (sizeOf e).run P w = .ok s w) (A : Option Addr) (n c k : Nat) (h1 : k ≤ n) (h2 : n ≤ c) (w : World) :
    (Instr.slice t (.slice A n c) (some (.int .i64 (k : Int))) (some (.int .i64 (n : Int))) (some (.int .i64 (n : Int)))).run P w = .ok (.slice (cutA A n k s) (n - k) (n - k)) w := by
  have e1 : ∀ (y : Nat) (code : BoundsCode), n ≤ y → (Instr.sliceBound (.int .i64 (n : Int)) y code).run P w = .ok n w := fun y code h => by
    rw [run_sliceBound w .i64 (n : Int) y code (by omega) (by omega)]
    simp
  have e2 : ∀ (code : BoundsCode), (Instr.sliceBound (.int .i64 (k : Int)) n code).run P w = .ok k w := fun code => by
    rw [run_sliceBound w .i64 (k : Int) n code (by omega) (by omega)]
    simp
  simp [Instr.slice, run_underlying ht, Instr.sliceBounds, e1, e2, h2, hs, cutA]
end Go.Colm
namespace Go.Proofs.YtimdedkejadnfaaGreatDoor
open Go.RowKit Go.Foldp Go.Colm Go.Wirep Go.Shelf
set_option linter.unusedVariables false
set_option linter.unusedSimpArgs false
set_option linter.unusedSectionVars false
attribute [local go_sem] Oper.semAt_some

/-- The suffix from label i on, as the iterator hands it out. -/
def sufV (A : Option Addr) (n i : Nat) : Value := .slice (cutA A n i 1) (n - i) (n - i)

/-- The box at block B is kept. -/
def keepB (B : Nat) (W W' : World) : Prop := ∀ v, W.cell? ⟨B, 0, none⟩ = some v → W'.cell? ⟨B, 0, none⟩ = some v
/-- A place in a name of so many labels. -/
abbrev Place (len : Nat) := { i : Nat // i < len }

set_option maxRecDepth 100000 in
set_option maxHeartbeats 2000000 in
theorem suf1_in (F : Fence) (n : Nat) (h46 : F.fn 173) (hro : F.round = none) (hn : 1 ≤ n) (l Bs : Nat) (A : Option Addr) (len cap : Nat) (hcap : len ≤ cap) (hlen : len < 1099511627776) (J Jx : List (Place len) → World → Prop)
    (hY : ∀ pre x W, J pre W → pre.length < len → YieldAt F (n - 1) Tryz.prog l #[sufV A len x.1] W fun e W' =>
      (e = .returned (.bool true) ∧ J (pre ++ [x]) W' ∧ keepB Bs W W') ∨ (e = .returned (.bool false) ∧ Jx (pre ++ [x]) W'))
    (W : World) (hBs : W.cell? ⟨Bs, 0, none⟩ = some (.slice A len cap)) (h0 : J [] W) :
    CallsIn F n Tryz.prog 173 #[.func (.yield l) #[] #[], .pointer (some ⟨Bs, 0, none⟩)] W fun e W' => (∃ v, e = .returned v) ∧
      ((∃ xs, xs.map (·.1) = List.range len ∧ J xs W') ∨ (∃ pre, (∃ k, k ≤ len ∧ pre.map (·.1) = List.range k) ∧ Jx pre W')) := by
  refine callsIn_of_wp Tryz.func173 rfl h46 ?_ hro
  simp only [Tryz.ntmps173, List.size_toArray, List.length_cons, List.length_nil, Nat.reduceAdd, Nat.reduceSub, Array.replicate_succ, Array.replicate_zero, List.push_toArray, List.append_toArray, List.nil_append, List.cons_append]
  gi_wp2
  gi_loopw [6] (fun i wr => ∃ (k : Nat) (pre : List (Place len)), k ≤ len ∧ i = .int .i64 k ∧ pre.map (·.1) = List.range k ∧ J pre wr ∧ wr.cell? ⟨Bs, 0, none⟩ = some (.slice A len cap)) (fun i _ => len - (intOf i).toNat)
  case atStart => exact ⟨0, [], Nat.zero_le _, rfl, rfl, h0, hBs⟩
  case round =>
    obtain ⟨k, pre, hk, rfl, hpre, hJs, hbx⟩ := hrel
    have hpl : pre.length = k := by
      have := congrArg List.length hpre
      simpa using this
    by_cases hlt : k < len
    · obtain ⟨fn, tmps, assign, body, hy, hR⟩ := hY pre ⟨k, hlt⟩ wr hJs (by omega)
      have hcut := fun W => run_cut3 (P := Tryz.prog) Tryz.underlying67 Tryz.sizeOf9 A len cap k (by omega) hcap W
      have hnext : (pre ++ [(⟨k, hlt⟩ : Place len)]).map (·.1) = List.range (k + 1) := by rw [List.map_append, hpre, List.range_succ]; rfl
      have HP := Lib.hid hpre
      have HN := Lib.hid hnext
      have HPL := Lib.hid hpl
      clear hpre hnext hpl
      unfold sufV at hy
      gi_wp2
      refine hR.mono ?_
      rintro e W3 (⟨rfl, hJ3, hk3⟩ | ⟨rfl, hJx3⟩)
      · gi_wp2
        go_roundw
        case rel => exact ⟨k + 1, _, by omega, by simp, HN.out, hJ3, hk3 _ hbx⟩
        case measure => simp [intOf]; omega
      · gi_wp2
        refine bodyPost_ret (results_none rfl _ _ _) rfl ?_
        exact ⟨⟨_, rfl⟩, .inr ⟨_, ⟨k + 1, by omega, HN.out⟩, hJx3⟩⟩
    · obtain rfl : k = len := by omega
      gi_wp2
      go_end0
      exact ⟨⟨_, rfl⟩, .inl ⟨pre, hpre, hJs⟩⟩

theorem suf_stops (F : Fence) (n : Nat) (h46 : F.fn 173) (hro : F.round = none) (hn : 1 ≤ n) (Bs : Nat) (A : Option Addr) (len cap : Nat) (hcap : len ≤ cap) (hlen : len < 1099511627776) (w : World) (hBs : w.cell? ⟨Bs, 0, none⟩ = some (.slice A len cap)) :
    SeqStopsK F n Tryz.prog 173 #[.pointer (some ⟨Bs, 0, none⟩)] (fun x : Place len => #[sufV A len x.1]) (keepB Bs) (fun xs => xs.map (·.1) = List.range len) (fun pre => ∃ k, k ≤ len ∧ pre.map (·.1) = List.range k) len w :=
  fun l J Jx W hW _ _ hY h0 => suf1_in F n h46 hro hn l Bs A len cap hcap hlen J Jx hY W ((hW.cell (p := ⟨Bs, 0, none⟩) (lt_of_cell hBs)).trans hBs) h0
theorem keepB_t {Bs : Nat} {A B C : World} (h : keepB Bs A B) (k : keepB Bs B C) : keepB Bs A C := fun v hv => k v (h v hv)
theorem keepB_b {Bs : Nat} (W : World) (l : Nat) (o o' : Obj) (hl : W.heap[l]? = some o) (ho : o.isCells = false) : keepB Bs W (W.putObj l o') := by
  intro v hv
  have hne : Bs ≠ l := by
    rintro rfl
    simp only [World.cell?, hl] at hv
    cases o <;> simp [Obj.isCells] at ho hv
  rw [World.cell?_of_block (w := W) (World.putObj_heap_other hne)]
  exact hv

end Go.Proofs.YtimdedkejadnfaaGreatDoor
namespace Go.Proofs.YtimdedkejadnfaaGreatDoor
open Go.RowKit Go.Foldp Go.Colm Go.Wirep Go.Shelf
set_option linter.unusedVariables false
attribute [local go_sem] Oper.semAt_some

set_option maxHeartbeats 800000 in
theorem suffixes_in (F : Fence) (n : Nat) (h41 : F.fn 113) (hro : F.round = none) (A : Option Addr) (len cap : Nat) (w : World) :
    CallsIn F n Tryz.prog 113 #[.slice A len cap] w fun e w' => e = .returned (.func (.func 173) #[] #[.pointer (some ⟨w.heap.size, 0, none⟩)]) ∧ w' = w.alloc (.cells #[.slice A len cap] 67) := by
  have hmf : ∀ (fn : Fn) (first cap : Array Value) (w : World), (Instr.makeFunc fn first cap).run Tryz.prog w = .ok (.func fn first cap) w := fun _ _ _ _ => rfl
  refine callsIn_of_wp Tryz.func113 rfl h41 ?_ hro
  simp only [Tryz.ntmps113, List.size_toArray, List.length_cons, List.length_nil, Nat.reduceAdd, Nat.reduceSub, Array.replicate_succ, Array.replicate_zero, List.push_toArray, List.append_toArray, List.nil_append, List.cons_append]
  gi_wp2
  refine bodyPost_ret (results_tmp rfl _ _ _) rfl ?_
  exact ⟨rfl, rfl⟩

/-- The values that have come: each a row of its own, of a suffix's labels. -/
def SufVals (l : List (List UInt8)) (B : Nat) (W : World) (pre : List (Place l.length)) (vs : List Value) : Prop :=
  ∀ i (hi : i < pre.length), ∃ u, vs[i]? = some u ∧ u ≠ .slice none 0 0 ∧ W.ownsRow B 9 1 u (l.length - pre[i].1) (labV (l.drop pre[i].1))
/-- Between two rounds: what the box 'out' holds. -/
def SufAt (l : List (List UInt8)) (w0 : World) (pre : List (Place l.length)) (W : World) : Prop :=
  (∃ v vs, Boxed W w0.heap.size 148 v ∧ W.ownsRow (w0.heap.size + 2) 67 1 v pre.length vs ∧ SufVals l w0.heap.size W pre vs) ∧ Below w0.heap.size w0 W ∧ w0.heap.size + 2 ≤ W.heap.size
theorem own_grown {W W' : World} {row : Option Nat} {base : Nat} {e : TypeId} {size : Nat} {v : Value} {k : Nat} {xs : List Value} (h : W.ownsRow base e size v k xs) (hg : W.grownBy W' row)
    (hr : ∀ r, row = some r → ∃ o : Obj, W.heap[r]? = some o ∧ o.isCells = false) : W'.ownsRow base e size v k xs := by
  refine h.kept hg ?_
  rcases h.2 with ⟨rfl, _⟩ | ⟨g, cap, cur, rfl, _, hh, _⟩
  · exact .inl rfl
  · refine .inr fun e' => ?_
    obtain ⟨o, ho, hc⟩ := hr g (by simpa [Value.ownBlock] using e'.symm)
    rw [hh] at ho
    cases ho
    cases hc
theorem sufAt_own (l : List (List UInt8)) (w0 : World) (B : Nat) (hB : w0.heap.size ≤ B) : OwnFrom B (SufAt l w0) := by
  rintro s W W' row ⟨⟨v, vs, hb, hown, hv⟩, hbel, hsz⟩ hg hr
  have hr2 : ∀ r, row = some r → ∃ o : Obj, W.heap[r]? = some o ∧ o.isCells = false := fun r e => (hr r e).2
  refine ⟨⟨v, vs, hb.kept hg (fun e => ?_), own_grown hown hg hr2, fun i hi => ?_⟩, hbel.grown hg hbel.size fun k e => Nat.le_trans hB (hr k e).1, Nat.le_trans hsz hg.size⟩
  · obtain ⟨o, ho, hc⟩ := hr2 _ e.symm
    unfold Boxed at hb
    rw [hb] at ho
    cases ho
    cases hc
  · obtain ⟨u, e1, e2, e3⟩ := hv i hi
    exact ⟨u, e1, e2, own_grown e3 hg hr2⟩
theorem own_mono {W : World} {base b2 : Nat} {e : TypeId} {size : Nat} {v : Value} {k : Nat} {xs : List Value} (h : W.ownsRow base e size v k xs) (hb : b2 ≤ base) : W.ownsRow b2 e size v k xs :=
  ⟨h.1, h.2.imp id fun ⟨g, cap, cur, h1, h2, h3⟩ => ⟨g, cap, cur, h1, Nat.le_trans hb h2, h3⟩⟩
/-- One suffix more. -/
theorem sufAt_more {l : List (List UInt8)} {w0 : World} {pre : List (Place l.length)} {x : Place l.length} {W w2 W3 W4 : World} {v v' u : Value} {vs : List Value} (hbel : Below w0.heap.size w0 W) (hsz : w0.heap.size + 2 ≤ W.heap.size)
    (hb : Boxed W w0.heap.size 148 v) (hown : W.ownsRow (w0.heap.size + 2) 67 1 v pre.length vs) (hv : SufVals l w0.heap.size W pre vs)
    (hb2 : Below W.heap.size W w2) (hu : w2.ownsRow W.heap.size 9 1 u (l.length - x.1) (labV (l.drop x.1))) (hun : u ≠ .slice none 0 0) (h3 : W3 = w2.alloc (.cells #[u] 67))
    (hg : W3.grownBy W4 v.ownBlock) (hown4 : W4.ownsRow (w0.heap.size + 2) 67 1 v' (pre.length + 1) (vs ++ [u])) :
    KeepsOthers W (W4.setCell ⟨w0.heap.size, 0, none⟩ v') ∧ keepB (w0.heap.size + 1) W (W4.setCell ⟨w0.heap.size, 0, none⟩ v') ∧ SufAt l w0 (pre ++ [x]) (W4.setCell ⟨w0.heap.size, 0, none⟩ v') := by
  have k3 : Kept (fun _ => False) W W3 := by rw [h3]; exact (Kept.below hb2 _).alloc _
  have hown3 := own_kept k3 hown fun _ _ => id
  have hbx : Whole W w0.heap.size 148 #[v] := hb
  have hbx3 := k3.whole hbx id
  have hvne : v.ownBlock ≠ some w0.heap.size := Lib.ownBlock_ne hown hbx (by decide)
  have k4 : Kept (fun k => v.ownBlock = some k) W W4 := (k3.mono fun _ _ h => h.elim).trans (Kept.grown hg)
  have hbx4 : Whole W4 w0.heap.size 148 #[v] := k4.whole hbx hvne
  have k5 : Kept (fun k => v.ownBlock = some k ∨ k = w0.heap.size) W (W4.setCell ⟨w0.heap.size, 0, none⟩ v') := (k4.mono fun _ _ h => .inl h).setCell (.inl (.inr rfl)) _
  have hvb : ∀ j, v.ownBlock = some j → w0.heap.size + 2 ≤ j ∧ ∃ cs fz, W.heap[j]? = some (.cells cs 67 fz) := fun j hj => by
    rcases hown.2 with ⟨rfl, _⟩ | ⟨g, cap, cur, rfl, hb, hh, _⟩
    · simp [Value.ownBlock] at hj
    · have e : g = j := by simpa [Value.ownBlock] using hj
      subst e
      exact ⟨hb, _, _, hh⟩
  have strow : ∀ {W' : World} {B : Nat} {u' : Value} {m : Nat} {xs : List Value}, W'.ownsRow B 9 1 u' m xs → Kept (fun _ => False) W W' → ∀ j, u'.ownBlock = some j → ¬ (v.ownBlock = some j ∨ j = w0.heap.size) := fun {W'} {B} {u'} {m} {xs} ho hk j hj => by
    rintro (e | e)
    · obtain ⟨_, cs, fz, hh⟩ := hvb j e
      have hlt : j < W.heap.size := (Array.getElem?_eq_some_iff.1 hh).1
      exact Lib.ownBlock_ne ho ((hk.block j hlt id).trans hh) (by decide) hj
    · subst e
      exact Lib.ownBlock_ne ho (hk.whole hbx id) (by decide) hj
  refine ⟨?_, ?_, ⟨v', vs ++ [u], ?_, ?_, ?_⟩, ?_, ?_⟩
  · refine ⟨k5.size, fun j o ho hc => ?_⟩
    have hlt : j < W.heap.size := (Array.getElem?_eq_some_iff.1 ho).1
    refine (k5.block j hlt ?_).trans ho
    rintro (e | e)
    · obtain ⟨_, cs, fz, hh⟩ := hvb j e
      rw [hh] at ho
      cases ho
      cases hc
    · subst e
      rw [hbx] at ho
      cases ho
      cases hc
  · intro z hz
    refine k5.cell hz ?_
    rintro (e | e)
    · have := (hvb _ e).1
      simp at this
    · simp at e
  · exact hbx4.put 0 v'
  · rw [List.length_append]
    have kk : Kept (fun k => k = w0.heap.size) W4 (W4.setCell ⟨w0.heap.size, 0, none⟩ v') := (Kept.refl (fun k => k = w0.heap.size) W4).setCell (.inl rfl) _
    refine own_kept kk hown4 fun j hj e => ?_
    subst e
    exact Lib.ownBlock_ne hown4 hbx4 (by decide) hj
  · intro i hi
    have hvl : vs.length = pre.length := by have := hown.1; omega
    by_cases hlt : i < pre.length
    · obtain ⟨u', e1, e2, e3⟩ := hv i hlt
      refine ⟨u', by rw [List.getElem?_append_left (by omega)]; exact e1, e2, ?_⟩
      rw [List.getElem_append_left hlt]
      exact own_kept k5 e3 (strow e3 (Kept.refl _ _))
    · have hie : i = pre.length := by simp at hi; omega
      subst hie
      refine ⟨u, by rw [← hvl]; simp, hun, ?_⟩
      rw [List.getElem_append_right (Nat.le_refl _)]
      simp only [Nat.sub_self, List.getElem_cons_zero]
      have ku : Kept (fun k => v.ownBlock = some k ∨ k = w0.heap.size) w2 (W4.setCell ⟨w0.heap.size, 0, none⟩ v') := by
        have ka : Kept (fun _ => False) w2 W3 := by rw [h3]; exact (Kept.refl _ _).alloc _
        exact (((ka.mono fun _ _ h => h.elim).trans (Kept.grown hg)).mono fun _ _ h => .inl h).setCell (.inl (.inr rfl)) _
      have hu5 := own_kept ku hu (strow hu (Kept.below hb2 _))
      exact own_mono hu5 (by omega)
  · exact hbel.trans (k5.to_below hbel.size fun j hj => by
      rintro (e | e)
      · have := (hvb _ e).1
        omega
      · omega)
  · exact Nat.le_trans hsz k5.size

theorem sl_one (A : Option Addr) (n c : Nat) : ∀ u ∈ [Value.slice A n c], u.oneCell' = true := by
  intro u hu
  rcases List.mem_singleton.1 hu with rfl
  rfl
/-- The box 'out' behind an append to what it holds. -/
theorem box_after {w0 W w2 W3 W4 : World} {v u : Value} {vs : List Value} {n : Nat} (hb : Boxed W w0.heap.size 148 v) (hown : W.ownsRow (w0.heap.size + 2) 67 1 v n vs)
    (hb2 : Below W.heap.size W w2) (h3 : W3 = w2.alloc (.cells #[u] 67)) (hg : W3.grownBy W4 v.ownBlock) : W4.cell? ⟨w0.heap.size, 0, none⟩ = some v ∧ W4.frozen? ⟨w0.heap.size, 0, none⟩ = false := by
  have k3 : Kept (fun _ => False) W W3 := by rw [h3]; exact (Kept.below hb2 _).alloc _
  have hbx : Whole W w0.heap.size 148 #[v] := hb
  have k4 : Kept (fun k => v.ownBlock = some k) W W4 := (k3.mono fun _ _ h => h.elim).trans (Kept.grown hg)
  have hbx4 : Whole W4 w0.heap.size 148 #[v] := k4.whole hbx (Lib.ownBlock_ne hown hbx (by decide))
  exact ⟨hbx4.cell 0, hbx4.frozen 0⟩

theorem sl_info : (Tryz.prog.info? 67).map (fun i => (i.zero, i.size, i.bytes)) = some (some (.slice none 0 0), 1, 24) := by kernel_rfl
theorem suf_clone (A : Option Addr) (l : List (List UInt8)) (x : Place l.length) (W : World) (hr : RowV W A (labV l)) (hlen : l.length < 1099511627776) :
    Calls Tryz.prog 114 #[.slice (cutA A l.length x.1 1) (l.length - x.1) (l.length - x.1)] W fun e w' => ∃ u, e = .returned u ∧ w'.ownsRow W.heap.size 9 1 u (l.length - x.1) (labV (l.drop x.1)) ∧ u ≠ .slice none 0 0 ∧ Below W.heap.size W w' := by
  obtain ⟨b, off, rfl, _⟩ := labV_at hr x.2
  have e1 : cutA (some ⟨b, off, none⟩) l.length x.1 1 = some ⟨b, off + x.1, none⟩ := by
    unfold cutA
    rw [if_neg (by have := x.2; omega)]
    simp [Addr.add]
  rw [e1]
  have h := sclone_any b (off + x.1) (l.length - x.1) (l.length - x.1) ((l.drop x.1).map fun s => ByteArray.mk s.toArray) W (by simp) (by omega) (fun j hj => by
    simp only [List.length_map, List.length_drop] at hj
    obtain ⟨b', off', e, h⟩ := hr (x.1 + j) (.string ⟨(l[x.1 + j]'(by omega)).toArray⟩) (by simp [labV, List.getElem?_eq_getElem (show x.1 + j < l.length by omega)])
    cases e
    rw [show off + x.1 + j = off + (x.1 + j) by omega, h, List.getD_eq_getElem?_getD, List.getElem?_map, List.getElem?_drop, List.getElem?_eq_getElem (by omega)]
    rfl)
  refine h.mono ?_
  rintro e w' ⟨u, rfl, h1, h2, h3⟩
  refine ⟨u, rfl, ?_, h2, h3⟩
  have e2 : (((l.drop x.1).map fun s => ByteArray.mk s.toArray).take (l.length - x.1)).map Value.string = labV (l.drop x.1) := by
    rw [List.take_of_length_le (by simp), labV, List.map_map]
    rfl
  rw [e2] at h1
  exact h1

theorem row_putObj {W : World} {t : TypeId} {A : Option Addr} {vs : List Value} {D : Nat} {o o' : Obj} (h : RowT W t A vs) (hD : W.heap[D]? = some o) (ho : o.isCells = false) : RowT (W.putObj D o') t A vs := fun i v hv => by
  obtain ⟨b, off, cs, fz, e, hh, hc⟩ := h i v hv
  refine ⟨b, off, cs, fz, e, ?_, hc⟩
  have hne : b ≠ D := by
    rintro rfl
    rw [hD] at hh
    cases hh
    cases ho
  rw [World.putObj_heap_other hne]
  exact hh
/-- The suffixes of a name, as they are handed out: slice i reads as the labels from i on. -/
def Sufs (l : List (List UInt8)) (w : World) (v : Value) : Prop :=
  ∃ A c vs, v = .slice A l.length c ∧ RowT w 67 A vs ∧ ∀ i, i < l.length → ∃ Au cu, vs[i]? = some (.slice Au (l.length - i) cu) ∧ l.length - i ≤ cu ∧ RowT w 9 Au (labV (l.drop i))
theorem sufs_of {l : List (List UInt8)} {W : World} {B B2 D : Nat} {v : Value} {vs : List Value} {ys : List (Place l.length)} (hS : ys.map (·.1) = List.range l.length) (hown : W.ownsRow B2 67 1 v ys.length vs)
    (hv : SufVals l B W ys vs) (hD : W.heap[D]? = some (.deferred (some []))) : Sufs l (W.putObj D (.deferred none)) v := by
  have hl : ys.length = l.length := by
    have := congrArg List.length hS
    simpa using this
  obtain ⟨A, c, rfl, _, hr⟩ := own_cap hown
  rw [hl]
  refine ⟨A, c, vs, rfl, row_putObj hr hD rfl, fun i hi => ?_⟩
  have hiy : i < ys.length := by omega
  have hy : ys[i].1 = i := by
    have := congrArg (·[i]?) hS
    simp only [List.getElem?_map, List.getElem?_eq_getElem hiy, Option.map_some, List.getElem?_range hi, Option.some.injEq] at this
    exact this
  obtain ⟨u, e1, _, e3⟩ := hv i hiy
  rw [hy] at e3
  obtain ⟨Au, cu, rfl, hc, hr3⟩ := own_cap e3
  exact ⟨Au, cu, e1, hc, row_putObj hr3 hD rfl⟩

set_option maxRecDepth 100000 in
set_option maxHeartbeats 2000000 in
theorem Suffixes_in (F : Fence) (hro : F.round = none) (hF : ∀ f, F.fn f) (hlift : ∀ (m : Nat) (f : FuncId) (args : Array Value) (W : World) (R : Ending → World → Prop), Calls Tryz.prog f args W R → CallsIn F m Tryz.prog f args W R) (n : Nat) (hn : 5 ≤ n) (A : Option Addr) (c : Nat) (l : List (List UInt8)) (w : World) (hr : RowV w A (labV l)) (hcap : l.length ≤ c) (hlen : l.length < 1099511627776) :
    CallsIn F n Tryz.prog 61 #[.slice A l.length c] w fun e w' => ∃ v, e = .returned v ∧ Sufs l w' v ∧ Below w.heap.size w w' := by
  have HLIFT := Lib.hid hlift
  clear hlift
  have h1 : 1 ≤ n := by omega
  have h41 : F.fn 113 := hF _
  have h42 : F.fn 114 := hF _
  refine callsIn_of_wp_marks Tryz.func61 rfl (hF _) ?_ hro
  simp only [Tryz.ntmps61, List.size_toArray, List.length_cons, List.length_nil, Nat.reduceAdd, Nat.reduceSub, Array.replicate_succ, Array.replicate_zero, List.push_toArray, List.append_toArray, List.nil_append, List.cons_append]
  gi_wp2_with (gi_at_call 113; refine (suffixes_in F (n - 1) (hF _) hro _ _ _ _).mono ?_; rintro e w' ⟨rfl, rfl⟩)
  have hbox : ((w.alloc (.cells #[.slice none 0 0] 148)).alloc (.cells #[.slice A l.length c] 67)).cell? ⟨w.heap.size + 1, 0, none⟩ = some (.slice A l.length c) := by
    have h := (Whole.new (w.alloc (.cells #[.slice none 0 0] 148)) 67 #[.slice A l.length c]).cell 0
    rw [World.size_alloc] at h
    exact h
  have h0 : SufAt l w [] ((w.alloc (.cells #[.slice none 0 0] 148)).alloc (.cells #[.slice A l.length c] 67)) :=
    ⟨⟨.slice none 0 0, [], (Boxed.new w _ _).alloc _, own_nil _ _ _ _, fun i hi => by simp at hi⟩, ((Below.refl _ w).alloc (Nat.le_refl _) _).alloc (by simp) _, by simp⟩
  refine wpIn_rangeFunc_ownF hro (by omega) (gf := 173) (lb := #[.pointer (some ⟨w.heap.size + 1, 0, none⟩)]) rfl (hF _) (enters_of Tryz.func173 (by kernel_rfl) rfl)
    (suf_stops F (n - 1) (hF _) hro (by omega) (w.heap.size + 1) A l.length c hcap hlen _ hbox) keepB_t (fun W k o o' _ e1 e2 _ => keepB_b W k o o' e1 e2) (Below.refl _ _) (fun _ => rfl)
    (SufAt l w) (fun _ _ _ => False) (sufAt_own l w _ (by simp; omega)) (fun _ _ _ _ _ hs _ _ => hs) h0
    (fun x => { tmps := #[.slice A l.length c, undef, .slice none 0 0, .pointer (some ⟨w.heap.size, 0, none⟩), sufV A l.length x.1, .slice A l.length c, .func (.func 173) #[] #[.pointer (some ⟨w.heap.size + 1, 0, none⟩)], sufV A l.length x.1, undef, undef, undef, undef, undef, undef], defers := [] }) ?assign ?body ?done ?stop
  case assign =>
    intro k x W K hK
    unfold sufV at hK ⊢
    gi_wp2
    exact hK
  case body =>
    rintro k pre x W ⟨⟨v, vs, hb, hown, hv⟩, hbel, hsz⟩ hpl
    have hbc := hb.cell
    have hbf := hb.frozen
    obtain ⟨i0, hi, hz0, hz1, hz2⟩ := info_parts sl_info
    have hrW := hr.below hbel
    have HC := Lib.hid (fun j => HLIFT.out (n - 1 - 1 - 1) _ _ _ _ (suf_clone A l x (W.drewN j) (hrW.drewN j) hlen))
    have hF2 : ∀ f, (F.inRound k).fn f := fun f => hF f
    have hd2 : (F.inRound k).depth.isSome = true → 1 ≤ n - 1 - 1 := fun _ => by omega
    gi_wp2
    refine wpIn_region_any (by kernel_rfl) ?_
    refine rdy2 (i := 0) (k := 1) (by kernel_rfl) ?_ ?_
    · refine op_val (v := v) (w' := W.drew) rfl rfl hF2 rfl (by go_simp) ?_
      refine rdy1 (i := 1) (by kernel_rfl) (op_val (v := .slice (cutA A l.length x.1 1) (l.length - x.1) (l.length - x.1)) (w' := W.drew) rfl rfl hF2 rfl (by rfl) ?_)
      refine rdy1 (i := 2) (by kernel_rfl) (op_call (f := 114) (args := #[.slice (cutA A l.length x.1 1) (l.length - x.1) (l.length - x.1)]) (w' := W.drew) rfl rfl hF2 rfl (by kernel_rfl) hd2 (HC.out 1) ?_)
      rintro u w2 ⟨hu, hun, hb2⟩
      have hbW : Below W.heap.size W w2 := below_chain (below_of_drewN W 1) hb2
      have hsW := hbW.size
      obtain ⟨Au, cu, rfl, _⟩ := own_row hu
      have hl2 : w2.cell? ⟨w.heap.size, 0, none⟩ = some v := (Kept.below hb2 (fun _ => False)).cell hbc id
      have hl3 : (w2.alloc (.cells #[.slice Au (l.length - x.1) cu] 67)).cell? ⟨w.heap.size, 0, none⟩ = some v := (World.cell?_alloc_lt w2 _ _ (lt_of_cell hl2)).trans hl2
      refine rdy1 (i := 3) (by kernel_rfl) (op_val (v := .slice (some ⟨w2.heap.size, 0, none⟩) 1 1) (w' := w2.alloc (.cells #[.slice Au (l.length - x.1) cu] 67)) rfl rfl hF2 rfl (by go_simp) ?_)
      have h3a : (w2.alloc (.cells #[.slice Au (l.length - x.1) cu] 67)).ownsRow (w.heap.size + 2) 67 1 v pre.length vs := (own_kept (Kept.below hbW (fun _ => False)) hown fun _ _ => id).alloc _
      refine rdy1 (i := 4) (by kernel_rfl) (op_append (o := _) rfl rfl hF2 rfl (.tmp 8) (.tmp 11) 148 rfl (w.heap.size + 2) 67 i0 (.slice none 0 0) 1 24 Tryz.underlying148 hi hz0 hz1 hz2 rfl (by decide) v pre.length vs rfl h3a ⟨w2.heap.size, 0, none⟩ 1 1 [.slice Au (l.length - x.1) cu] rfl rfl (cell_one_new _ _ _) (sl_one _ _ _) (by unfold maxLen; omega) (by omega) (by simp; omega) ?_)
      intro v4 w4 hown4 hg4 _
      obtain ⟨A4, c4, rfl, _⟩ := own_row hown4
      have hfin := sufAt_more (x := x) hbel hsz hb hown hv hbW hu hun rfl hg4 hown4
      obtain ⟨hc4, hf4⟩ := box_after hb hown hbW rfl hg4
      refine rdy1 (i := 5) (by kernel_rfl) (op_skip (w' := w4.setCell ⟨w.heap.size, 0, none⟩ (.slice A4 (pre.length + 1) c4)) rfl rfl hF2 rfl (by go_simp) ?_)
      exact wpAnyIn_done (by kernel_rfl) hfin _
    · refine op_val (v := .slice (cutA A l.length x.1 1) (l.length - x.1) (l.length - x.1)) (w' := W.drew) rfl rfl hF2 rfl (by rfl) ?_
      refine rdy2 (i := 0) (k := 2) (by kernel_rfl) ?_ ?_
      · refine op_val (v := v) (w' := W.drew) rfl rfl hF2 rfl (by go_simp) ?_
        refine rdy1 (i := 2) (by kernel_rfl) (op_call (f := 114) (args := #[.slice (cutA A l.length x.1 1) (l.length - x.1) (l.length - x.1)]) (w' := W.drew) rfl rfl hF2 rfl (by kernel_rfl) hd2 (HC.out 1) ?_)
        rintro u w2 ⟨hu, hun, hb2⟩
        have hbW : Below W.heap.size W w2 := below_chain (below_of_drewN W 1) hb2
        have hsW := hbW.size
        obtain ⟨Au, cu, rfl, _⟩ := own_row hu
        have hl2 : w2.cell? ⟨w.heap.size, 0, none⟩ = some v := (Kept.below hb2 (fun _ => False)).cell hbc id
        have hl3 : (w2.alloc (.cells #[.slice Au (l.length - x.1) cu] 67)).cell? ⟨w.heap.size, 0, none⟩ = some v := (World.cell?_alloc_lt w2 _ _ (lt_of_cell hl2)).trans hl2
        refine rdy1 (i := 3) (by kernel_rfl) (op_val (v := .slice (some ⟨w2.heap.size, 0, none⟩) 1 1) (w' := w2.alloc (.cells #[.slice Au (l.length - x.1) cu] 67)) rfl rfl hF2 rfl (by go_simp) ?_)
        have h3a : (w2.alloc (.cells #[.slice Au (l.length - x.1) cu] 67)).ownsRow (w.heap.size + 2) 67 1 v pre.length vs := (own_kept (Kept.below hbW (fun _ => False)) hown fun _ _ => id).alloc _
        refine rdy1 (i := 4) (by kernel_rfl) (op_append (o := _) rfl rfl hF2 rfl (.tmp 8) (.tmp 11) 148 rfl (w.heap.size + 2) 67 i0 (.slice none 0 0) 1 24 Tryz.underlying148 hi hz0 hz1 hz2 rfl (by decide) v pre.length vs rfl h3a ⟨w2.heap.size, 0, none⟩ 1 1 [.slice Au (l.length - x.1) cu] rfl rfl (cell_one_new _ _ _) (sl_one _ _ _) (by unfold maxLen; omega) (by omega) (by simp; omega) ?_)
        intro v4 w4 hown4 hg4 _
        obtain ⟨A4, c4, rfl, _⟩ := own_row hown4
        have hfin := sufAt_more (x := x) hbel hsz hb hown hv hbW hu hun rfl hg4 hown4
        obtain ⟨hc4, hf4⟩ := box_after hb hown hbW rfl hg4
        refine rdy1 (i := 5) (by kernel_rfl) (op_skip (w' := w4.setCell ⟨w.heap.size, 0, none⟩ (.slice A4 (pre.length + 1) c4)) rfl rfl hF2 rfl (by go_simp) ?_)
        exact wpAnyIn_done (by kernel_rfl) hfin _
      · refine op_call (f := 114) (args := #[.slice (cutA A l.length x.1 1) (l.length - x.1) (l.length - x.1)]) (w' := W.drew) rfl rfl hF2 rfl (by kernel_rfl) hd2 (HC.out 1) ?_
        rintro u w2 ⟨hu, hun, hb2⟩
        have hbW : Below W.heap.size W w2 := below_chain (below_of_drewN W 1) hb2
        have hsW := hbW.size
        obtain ⟨Au, cu, rfl, _⟩ := own_row hu
        have hl2 : w2.cell? ⟨w.heap.size, 0, none⟩ = some v := (Kept.below hb2 (fun _ => False)).cell hbc id
        have hl3 : (w2.alloc (.cells #[.slice Au (l.length - x.1) cu] 67)).cell? ⟨w.heap.size, 0, none⟩ = some v := (World.cell?_alloc_lt w2 _ _ (lt_of_cell hl2)).trans hl2
        refine rdy2 (i := 0) (k := 3) (by kernel_rfl) ?_ ?_
        · refine op_val (v := v) (w' := w2) rfl rfl hF2 rfl (by go_simp) ?_
          refine rdy1 (i := 3) (by kernel_rfl) (op_val (v := .slice (some ⟨w2.heap.size, 0, none⟩) 1 1) (w' := w2.alloc (.cells #[.slice Au (l.length - x.1) cu] 67)) rfl rfl hF2 rfl (by go_simp) ?_)
          have h3a : (w2.alloc (.cells #[.slice Au (l.length - x.1) cu] 67)).ownsRow (w.heap.size + 2) 67 1 v pre.length vs := (own_kept (Kept.below hbW (fun _ => False)) hown fun _ _ => id).alloc _
          refine rdy1 (i := 4) (by kernel_rfl) (op_append (o := _) rfl rfl hF2 rfl (.tmp 8) (.tmp 11) 148 rfl (w.heap.size + 2) 67 i0 (.slice none 0 0) 1 24 Tryz.underlying148 hi hz0 hz1 hz2 rfl (by decide) v pre.length vs rfl h3a ⟨w2.heap.size, 0, none⟩ 1 1 [.slice Au (l.length - x.1) cu] rfl rfl (cell_one_new _ _ _) (sl_one _ _ _) (by unfold maxLen; omega) (by omega) (by simp; omega) ?_)
          intro v4 w4 hown4 hg4 _
          obtain ⟨A4, c4, rfl, _⟩ := own_row hown4
          have hfin := sufAt_more (x := x) hbel hsz hb hown hv hbW hu hun rfl hg4 hown4
          obtain ⟨hc4, hf4⟩ := box_after hb hown hbW rfl hg4
          refine rdy1 (i := 5) (by kernel_rfl) (op_skip (w' := w4.setCell ⟨w.heap.size, 0, none⟩ (.slice A4 (pre.length + 1) c4)) rfl rfl hF2 rfl (by go_simp) ?_)
          exact wpAnyIn_done (by kernel_rfl) hfin _
        · refine op_val (v := .slice (some ⟨w2.heap.size, 0, none⟩) 1 1) (w' := w2.alloc (.cells #[.slice Au (l.length - x.1) cu] 67)) rfl rfl hF2 rfl (by go_simp) ?_
          refine rdy1 (i := 0) (by kernel_rfl) (op_val (v := v) (w' := w2.alloc (.cells #[.slice Au (l.length - x.1) cu] 67)) rfl rfl hF2 rfl (by go_simp) ?_)
          have h3a : (w2.alloc (.cells #[.slice Au (l.length - x.1) cu] 67)).ownsRow (w.heap.size + 2) 67 1 v pre.length vs := (own_kept (Kept.below hbW (fun _ => False)) hown fun _ _ => id).alloc _
          refine rdy1 (i := 4) (by kernel_rfl) (op_append (o := _) rfl rfl hF2 rfl (.tmp 8) (.tmp 11) 148 rfl (w.heap.size + 2) 67 i0 (.slice none 0 0) 1 24 Tryz.underlying148 hi hz0 hz1 hz2 rfl (by decide) v pre.length vs rfl h3a ⟨w2.heap.size, 0, none⟩ 1 1 [.slice Au (l.length - x.1) cu] rfl rfl (cell_one_new _ _ _) (sl_one _ _ _) (by unfold maxLen; omega) (by omega) (by simp; omega) ?_)
          intro v4 w4 hown4 hg4 _
          obtain ⟨A4, c4, rfl, _⟩ := own_row hown4
          have hfin := sufAt_more (x := x) hbel hsz hb hown hv hbW hu hun rfl hg4 hown4
          obtain ⟨hc4, hf4⟩ := box_after hb hown hbW rfl hg4
          refine rdy1 (i := 5) (by kernel_rfl) (op_skip (w' := w4.setCell ⟨w.heap.size, 0, none⟩ (.slice A4 (pre.length + 1) c4)) rfl rfl hF2 rfl (by go_simp) ?_)
          exact wpAnyIn_done (by kernel_rfl) hfin _
  case done =>
    rintro D ys W hD hS ⟨⟨v, vs, hb, hown, hv⟩, hbel, hsz⟩ hK
    have hbc := hb.cell
    have hsz' : w.heap.size ≤ D := by
      simp at hD
      omega
    have hbD : Below w.heap.size w (W.putObj D (.deferred none)) := hbel.trans (belowK_b (w := w) (Nat.le_refl _) W D _ _ hsz' hK rfl rfl)
    have hSU := sufs_of hS hown hv hK
    gi_wp2
    refine ⟨by simp, .inl ⟨_, _, rfl, run_takeDeferred hK, ?_⟩⟩
    exact ⟨v, (results_tmp (t := 2) rfl _ _ _).trans rfl, v, rfl, hSU, hbD⟩
  case stop =>
    rintro D c pre W _ _ h _
    exact h.elim

/-- Suffixes' contract. -/
theorem suffixes_any (A : Option Addr) (c : Nat) (l : List (List UInt8)) (w : World) (hr : RowV w A (labV l)) (hcap : l.length ≤ c) (hlen : l.length < 1099511627776) :
    Calls Tryz.prog 61 #[.slice A l.length c] w fun e w' => ∃ v, e = .returned v ∧ Sufs l w' v ∧ Below w.heap.size w w' :=
  (callsIn_wide (n := 5)).1 (Suffixes_in _ rfl (fun _ => trivial) (fun m f args W R h => callsIn_wide.2 h) 5 (Nat.le_refl _) A c l w hr hcap hlen)

end Go.Proofs.YtimdedkejadnfaaGreatDoor
