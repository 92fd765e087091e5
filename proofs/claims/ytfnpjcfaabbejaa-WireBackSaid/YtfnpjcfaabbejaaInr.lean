/-
  Steps of a region that draws its order of evaluation, inside a fence, in a round or not: one operation's run, or a Go function's contract. No condition.
-/
import Derived.OrdersIn
import Derived.RowKit
import Derived.OwnWalkIn
import Derived.Maps.AppendAt
import Derived.Test.YtfnpjcfaabbejaaKept
namespace Go.Colm
open Go.RowKit
section
variable {F : Fence} {n : Nat} {P : Program} {ops : Array Oper} {Q : Exit → Act → World → Prop} {md : Region.Mode}
theorem rdy1 {i : Nat} {fuel : Nat} {listed : Array Bool} {a : Act} {w : World} (hr : Region.ready md ops listed = [i])
    (h : wpOpIn F n P ops Q i (wpAnyIn F n P md ops Q fuel (listed.setIfInBounds i true)) a w) : wpAnyIn F n P md ops Q (fuel + 1) listed a w :=
  wpAnyIn_all hr (by simp) fun j hj => by
    rcases List.mem_singleton.1 hj with rfl
    exact h
theorem rdy2 {i k : Nat} {fuel : Nat} {listed : Array Bool} {a : Act} {w : World} (hr : Region.ready md ops listed = [i, k])
    (h : wpOpIn F n P ops Q i (wpAnyIn F n P md ops Q fuel (listed.setIfInBounds i true)) a w) (h' : wpOpIn F n P ops Q k (wpAnyIn F n P md ops Q fuel (listed.setIfInBounds k true)) a w) : wpAnyIn F n P md ops Q (fuel + 1) listed a w :=
  wpAnyIn_all hr (by simp) fun j hj => by
    rcases List.mem_cons.1 hj with rfl | hj
    · exact h
    · rcases List.mem_singleton.1 hj with rfl
      exact h'
theorem op_val {i : Nat} {o : Oper} {K : Act → World → Prop} {a : Act} {w w' : World} {v : Value} (ho : ops[i]? = some o) (hg : o.guard = none) (hF : ∀ f, F.fn f) (hs : o.semAt F.round a.eval = execOp a.eval o)
    (hrun : (execOp a.eval o).run P w = .ok (.value v) w') (h : K (a.put o.dst v) w') : wpOpIn F n P ops Q i K a w :=
  wpOpIn_step ho fun K' hK => by
    have hw : Region.wanted o (yielded ops a.tmps) = true := by simp [Region.wanted, hg]
    rw [if_pos hw]
    refine ⟨fun f _ => hF f, ?_⟩
    rw [hs, hrun]
    exact hK _ _ h
theorem op_skip {i : Nat} {o : Oper} {K : Act → World → Prop} {a : Act} {w w' : World} (ho : ops[i]? = some o) (hg : o.guard = none) (hF : ∀ f, F.fn f) (hs : o.semAt F.round a.eval = execOp a.eval o)
    (hrun : (execOp a.eval o).run P w = .ok .skip w') (h : K (a.put o.dst undef) w') : wpOpIn F n P ops Q i K a w :=
  wpOpIn_step ho fun K' hK => by
    have hw : Region.wanted o (yielded ops a.tmps) = true := by simp [Region.wanted, hg]
    rw [if_pos hw]
    refine ⟨fun f _ => hF f, ?_⟩
    rw [hs, hrun]
    exact hK _ _ h
theorem op_call {i : Nat} {o : Oper} {K : Act → World → Prop} {a : Act} {w w' : World} {f : FuncId} {args : Array Value} {R : Value → World → Prop} (ho : ops[i]? = some o) (hg : o.guard = none) (hF : ∀ f, F.fn f) (hs : o.semAt F.round a.eval = execOp a.eval o)
    (hrun : (execOp a.eval o).run P w = .ok (.enter f args) w') (hd : F.depth.isSome = true → 1 ≤ n) (hc : CallsIn F (n - 1) P f args w' fun e w2 => ∃ v, e = .returned v ∧ R v w2) (h : ∀ v w2, R v w2 → K (a.put o.dst v) w2) : wpOpIn F n P ops Q i K a w :=
  wpOpIn_step ho fun K' hK => by
    have hw : Region.wanted o (yielded ops a.tmps) = true := by simp [Region.wanted, hg]
    rw [if_pos hw]
    refine ⟨fun f _ => hF f, ?_⟩
    rw [hs, hrun]
    refine ⟨hd, hc.mono fun e w2 hh => ?_⟩
    obtain ⟨v, rfl, hR⟩ := hh
    exact hK _ _ (h v w2 hR)
theorem op_append {i : Nat} {o : Oper} {K : Act → World → Prop} {a : Act} {w : World} (ho : ops[i]? = some o) (hg : o.guard = none) (hF : ∀ f, F.fn f) (hs : o.semAt F.round a.eval = execOp a.eval o)
    (s x : Operand) (t : TypeId) (hop : o.op = Op.call { callee := Callee.builtin Builtin.append, args := #[s, x], argTypes := #[t, t] })
    (base : Nat) (e : TypeId) (ti : TypeInfo) (z : Value) (size bytes : Nat) (h1 : P.underlying t = some (.slice e)) (h2 : P.info? e = some ti) (h3 : ti.zero = some z) (h4 : ti.size = size) (h5 : ti.bytes = bytes) (h6 : z.cells.size = size) (h7 : 0 < size)
    (v : Value) (k : Nat) (xs : List Value) (hsv : a.eval s = v) (hown : w.ownsRow base e size v k xs) (ad : Addr) (m c : Nat) (news : List Value) (hx : a.eval x = .slice (some ad) m c) (hn : news.length = m * size)
    (hc : ∀ j u, news[j]? = some u → w.cell? (ad.add j) = some u) (h1c : ∀ u ∈ news, u.oneCell' = true) (b1 : k + m ≤ maxLen) (b2 : (k + m) * bytes ≤ 140737488355328) (b3 : base ≤ w.heap.size)
    (hK : ∀ v' w', w'.ownsRow base e size v' (k + m) (xs ++ news) → w.grownBy w' v.ownBlock → (v' = .slice none 0 0 ↔ v = .slice none 0 0 ∧ m = 0) → K (a.put o.dst v') w') : wpOpIn F n P ops Q i K a w := by
  obtain ⟨v', w', hrun, r1, r2, r3⟩ := run_append_own (P := P) w base t o.type e ti z size bytes h1 h2 h3 h4 h5 h6 h7 v k xs hown ad m c news hn hc h1c b1 b2 b3
  refine op_val (v := v') (w' := w') ho hg hF hs ?_ (hK v' w' r1 r2 r3)
  simp [execOp, hop, resolve, invoke, builtin, hsv, hx, hrun, Result.andThen]
end
end Go.Colm
