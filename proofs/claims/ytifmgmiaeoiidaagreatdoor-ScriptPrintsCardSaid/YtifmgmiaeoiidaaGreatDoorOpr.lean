/-
  How a script that comes in is read: a slice of steps as a tree. Over any program with such types. No condition.
-/
import Derived.Test.YtifmgmiaeoiidaaGreatDoorScrM
import Derived.Test.YtifmgmiaeoiidaaGreatDoorInp
import Derived.Deep.Slices
import Derived.ChangeSame
namespace Go.Scrp
open Go.RowKit Go.Colm Go.ChangeShapes Go.WideShapes
set_option linter.unusedVariables false

theorem list_choose {α : Type} {n : Nat} {p : Nat → α → Prop} (h : ∀ i, i < n → ∃ x, p i x) : ∃ l : List α, l.length = n ∧ ∀ i (hi : i < l.length), p i l[i] := by
  induction n with
  | zero => exact ⟨[], rfl, fun i hi => by simp at hi⟩
  | succ n ih =>
    obtain ⟨l, hl, hp⟩ := ih fun i hi => h i (by omega)
    obtain ⟨x, hx⟩ := h n (by omega)
    refine ⟨l ++ [x], by simp [hl], fun i hi => ?_⟩
    by_cases e : i < l.length
    · rw [List.getElem_append_left e]
      exact hp i e
    · have : i = n := by
        simp at hi
        omega
      subst this
      rw [List.getElem_append_right (by omega)]
      simpa [hl] using hx
theorem wf_i64 {n : Int} (h : (Lit.int .i64 n).wf = true) : -9223372036854775808 ≤ n ∧ n ≤ 9223372036854775807 := by
  have e1 : IntKind.i64.min = -9223372036854775808 := by decide
  have e2 : IntKind.i64.max = 9223372036854775807 := by decide
  rw [Lit.wf, Bool.and_eq_true, decide_eq_true_eq, decide_eq_true_eq, e1, e2] at h
  exact h
theorem wf_u64 {n : Int} (h : (Lit.int .u64 n).wf = true) : ∃ u : Nat, n = (u : Int) ∧ u < 18446744073709551616 := by
  have e1 : IntKind.u64.min = 0 := by decide
  have e2 : IntKind.u64.max = 18446744073709551615 := by decide
  rw [Lit.wf, Bool.and_eq_true, decide_eq_true_eq, decide_eq_true_eq, e1, e2] at h
  exact ⟨n.toNat, by omega, by omega⟩
theorem wf_u16 {n : Int} (h : (Lit.int .u16 n).wf = true) : ∃ u : Nat, n = (u : Int) ∧ u < 65536 := by
  have e1 : IntKind.u16.min = 0 := by decide
  have e2 : IntKind.u16.max = 65535 := by decide
  rw [Lit.wf, Bool.and_eq_true, decide_eq_true_eq, decide_eq_true_eq, e1, e2] at h
  exact ⟨n.toNat, by omega, by omega⟩

mutual
/-- No name is longer than a text may be. -/
def namS : Opd → Prop
  | .mk h l => h.name.length ≤ maxLen ∧ namL l
def namL : List Opd → Prop
  | [] => True
  | o :: r => namS o ∧ namL r
end
theorem namL_nil : namL [] := by rw [namL]; trivial
theorem namL_cons {o : Opd} {r : List Opd} : namL (o :: r) ↔ namS o ∧ namL r := by rw [namL]
theorem namS_mk {h : Hd} {l : List Opd} : namS (.mk h l) ↔ h.name.length ≤ maxLen ∧ namL l := by rw [namS]
theorem namL_get : ∀ (l : List Opd) (k : Nat) (hk : k < l.length), namL l → namS l[k]
  | o :: r, 0, _, h => (namL_cons.1 h).1
  | o :: r, k + 1, hk, h => namL_get r k (by simpa using hk) (namL_cons.1 h).2
theorem namL_of : ∀ (l : List Opd), (∀ k (hk : k < l.length), namS l[k]) → namL l
  | [], _ => namL_nil
  | o :: r, h => namL_cons.2 ⟨h 0 (by simp), namL_of r fun k hk => h (k + 1) (by simpa using hk)⟩

section
variable {H : Type} {enc : TypeId × Value → H} {P : Program} {w : World} {base : Nat} {spare : Nat → Bool} {held : Bool}
theorem read_rec {T U : TypeId} (hT : P.underlying T = some (.slice U)) (hU : P.underlying U = some (.int .u8)) (cU : P.cellsOf U = 1) {fuel : Nat} {cs : List Value} {x : DataW H × List MemPlace} (h : DataW.trod enc P w base spare held fuel T cs = some x) :
    ∃ (A : Option Addr) (l : List UInt8) (cap : Nat), cs = [.slice A l.length cap] ∧ l.length ≤ cap ∧ cap ≤ maxLen ∧ RowV w A (bytesV l) := by
  rcases DataW.trod_slice hT h with ⟨e, _⟩ | ⟨a, len, cap, elems, rest, m, _, rfl, _⟩
  · exact ⟨none, [], 0, e, by simp, by unfold maxLen; omega, RowV.nil _ _⟩
  · obtain ⟨l, rfl, h1, h2, h3⟩ := Go.Colm.read_bytes hT hU cU h
    exact ⟨_, l, cap, rfl, h1, h2, h3⟩
theorem read_recs {TT T U : TypeId} (ht : P.underlying TT = some (.slice T)) (hT : P.underlying T = some (.slice U)) (hU : P.underlying U = some (.int .u8)) (cT : P.cellsOf T = 1) (cU : P.cellsOf U = 1) {fuel : Nat} {cs : List Value} {x : DataW H × List MemPlace}
    (h : DataW.trod enc P w base spare held fuel TT cs = some x) :
    ∃ (A : Option Addr) (l : List (List UInt8)) (cap : Nat), cs = [.slice A l.length cap] ∧ l.length ≤ cap ∧ cap ≤ maxLen ∧ RecsAt (fun _ => True) w A l := by
  rcases DataW.trod_slice ht h with ⟨e, _⟩ | ⟨a, len, cap, elems, rest, m, _, rfl, _, _, hl, hm, hlen, hel, _, _⟩
  · exact ⟨none, [], 0, e, by simp, by unfold maxLen; omega, RecsAt.nil _ _ _⟩
  · have key : ∀ i, i < len → ∃ l : List UInt8, ∃ b off Au cu, (some a : Option Addr) = some ⟨b, off, none⟩ ∧ w.cell? ⟨b, off + i, none⟩ = some (.slice Au l.length cu) ∧ (l.length ≤ cu ∧ cu ≤ maxLen) ∧ RowV w Au (bytesV l) := by
      intro i hi
      have hb := hel i hi
      rw [List.getElem?_eq_getElem (by omega)] at hb
      obtain ⟨cs', hc1, hc2⟩ := Option.bind_eq_some_iff.1 hb
      rw [cT] at hc1
      obtain ⟨_, hl1, hcell⟩ := World.cells?_some hc1
      obtain ⟨b, off, spot⟩ := a
      have hspot : spot = none := by
        have hb0 := hel 0 (by omega)
        rw [List.getElem?_eq_getElem (by omega)] at hb0
        obtain ⟨ds, hd1, _⟩ := Option.bind_eq_some_iff.1 hb0
        rw [cT] at hd1
        obtain ⟨_, hdl, hdc⟩ := World.cells?_some hd1
        have h00 := hdc 0 (by omega)
        rw [List.getElem?_eq_getElem (by omega)] at h00
        simpa [Addr.add] using World.cell?_spot h00
      subst hspot
      obtain ⟨Au, l, cu, rfl, h1, h2, h4⟩ := read_rec hT hU cU hc2
      have hcc := hcell 0 (by simp)
      refine ⟨l, b, off, Au, cu, rfl, ?_, ⟨h1, h2⟩, h4⟩
      by_cases hi0 : i = 0
      · subst hi0
        simpa [Addr.add] using hcc
      · simpa [Addr.add, hi0] using hcc
    obtain ⟨ll, rfl, hk⟩ := list_choose key
    refine ⟨some a, ll, cap, rfl, hl, hm, fun i hi => ?_⟩
    obtain ⟨b, off, Au, cu, e, h1, h2, h3⟩ := hk i hi
    exact ⟨b, off, Au, cu, e, trivial, h1, h2, RowN.of h3⟩
theorem read_ops {TS T I K SS U16 RR R U8 U64 : TypeId} {f0 f1 f2 f3 f4 f5 f6 f7 g0 g1 : Field} (ht : P.underlying TS = some (.slice T)) (hT : P.underlying T = some (.struct #[f0, f1, f2, f3, f4, f5, f6, f7])) (hK : P.underlying K = some (.struct #[g0, g1]))
    (hI : P.underlying I = some (.int .i64)) (hSS : P.underlying SS = some .string) (hU16 : P.underlying U16 = some (.int .u16)) (hRR : P.underlying RR = some (.slice R)) (hR : P.underlying R = some (.slice U8)) (hU8 : P.underlying U8 = some (.int .u8)) (hU64 : P.underlying U64 = some (.int .u64))
    (h0 : f0.type = I ∧ f0.offset = 0) (h1 : f1.type = K ∧ f1.offset = 1) (h2 : f2.type = RR ∧ f2.offset = 3) (h3 : f3.type = U64 ∧ f3.offset = 4) (h4 : f4.type = U64 ∧ f4.offset = 5) (h5 : f5.type = TS ∧ f5.offset = 6) (h6 : f6.type = I ∧ f6.offset = 7) (h7 : f7.type = I ∧ f7.offset = 8)
    (k0 : g0.type = SS ∧ g0.offset = 0) (k1 : g1.type = U16 ∧ g1.offset = 1)
    (cT : P.cellsOf T = 9) (cK : P.cellsOf K = 2) (cI : P.cellsOf I = 1) (cS : P.cellsOf TS = 1) (cSS : P.cellsOf SS = 1) (cU16 : P.cellsOf U16 = 1) (cRR : P.cellsOf RR = 1) (cR : P.cellsOf R = 1) (cU8 : P.cellsOf U8 = 1) (cU64 : P.cellsOf U64 = 1) :
    ∀ (n fuel : Nat) (cs : List Value) (x : DataW H × List MemPlace), fuel < n → DataW.trod enc P w base spare held fuel TS cs = some x →
      ∃ (A : Option Addr) (l : List Opd) (cap : Nat), cs = [.slice A l.length cap] ∧ l.length ≤ cap ∧ cap ≤ maxLen ∧ OpdsAt (fun _ => True) w A 0 l ∧ namL l
  | 0, _, _, _, h, _ => absurd h (by omega)
  | n + 1, fuel, cs, x, hf, h => by
    rcases DataW.trod_slice ht h with ⟨e, _⟩ | ⟨a, len, cap, elems, rest, m, e, rfl, _, _, hl, hm, hlen, hel, _, _⟩
    · exact ⟨none, [], 0, e, by simp, by unfold maxLen; omega, opdsAt_nil, namL_nil⟩
    · have key : ∀ i, i < len → ∃ s : Opd, namS s ∧ ∃ b off, (some a : Option Addr) = some ⟨b, off, none⟩ ∧ OpdAt (fun _ => True) w b (off + i * 9) s := by
        intro i hi
        have hb := hel i hi
        rw [List.getElem?_eq_getElem (by omega)] at hb
        obtain ⟨cs', hc1, hc2⟩ := Option.bind_eq_some_iff.1 hb
        rw [cT] at hc1
        obtain ⟨_, hl3, hcell⟩ := World.cells?_some hc1
        match cs', hl3 with
        | [c0, c1, c2, c3, c4, c5, c6, c7, c8], _ =>
          obtain ⟨b, off, spot⟩ := a
          have hspot : spot = none := by
            have hb0 := hel 0 (by omega)
            rw [List.getElem?_eq_getElem (by omega)] at hb0
            obtain ⟨ds, hd1, _⟩ := Option.bind_eq_some_iff.1 hb0
            rw [cT] at hd1
            obtain ⟨_, hdl, hdc⟩ := World.cells?_some hd1
            have h00 := hdc 0 (by omega)
            rw [List.getElem?_eq_getElem (by omega)] at h00
            simpa [Addr.add] using World.cell?_spot h00
          subst hspot
          obtain ⟨xs, k, ek, _, _, hxl, hfd⟩ := DataW.trod_struct hT hc2
          match xs, hxl with
          | [y0, y1, y2, y3, y4, y5, y6, y7], _ =>
            have p0 := hfd 0 f0 rfl
            have p1 := hfd 1 f1 rfl
            have p2 := hfd 2 f2 rfl
            have p3 := hfd 3 f3 rfl
            have p4 := hfd 4 f4 rfl
            have p5 := hfd 5 f5 rfl
            have p6 := hfd 6 f6 rfl
            have p7 := hfd 7 f7 rfl
            rw [h0.1, h0.2, cI] at p0
            rw [h1.1, h1.2, cK] at p1
            rw [h2.1, h2.2, cRR] at p2
            rw [h3.1, h3.2, cU64] at p3
            rw [h4.1, h4.2, cU64] at p4
            rw [h5.1, h5.2, cS] at p5
            rw [h6.1, h6.2, cI] at p6
            rw [h7.1, h7.2, cI] at p7
            simp at p0 p1 p2 p3 p4 p5 p6 p7
            obtain ⟨n0, e0, _, w0⟩ := DataW.trod_int hI p0
            obtain ⟨zs, k', ek', _, _, hzl, hfz⟩ := DataW.trod_struct hK p1
            match zs, hzl with
            | [z0, z1], _ =>
              have r0 := hfz 0 g0 rfl
              have r1 := hfz 1 g1 rfl
              rw [k0.1, k0.2, cSS] at r0
              rw [k1.1, k1.2, cU16] at r1
              simp at r0 r1
              obtain ⟨nm, e1, _, hnz⟩ := DataW.trod_string hSS r0
              obtain ⟨ty, e2, _, w2⟩ := DataW.trod_int hU16 r1
              obtain ⟨RA, rl, rc, e3, hr1, hr2, hr3⟩ := read_recs hRR hR hU8 cR cU8 p2
              obtain ⟨lf, e4, _, w4⟩ := DataW.trod_int hU64 p3
              obtain ⟨nn, e5, _, w5⟩ := DataW.trod_int hU64 p4
              obtain ⟨A2, l2, cap2, e6, hs1, hs2, hs3, hs4⟩ := read_ops ht hT hK hI hSS hU16 hRR hR hU8 hU64 h0 h1 h2 h3 h4 h5 h6 h7 k0 k1 cT cK cI cS cSS cU16 cRR cR cU8 cU64 n k _ _ (by omega) p5
              obtain ⟨hw, e7, _, w7⟩ := DataW.trod_int hI p6
              obtain ⟨cd, e8, _, w8⟩ := DataW.trod_int hI p7
              obtain ⟨ty, rfl, v2⟩ := wf_u16 w2
              obtain ⟨lf, rfl, v4⟩ := wf_u64 w4
              obtain ⟨nn, rfl, v5⟩ := wf_u64 w5
              simp at e0 e1 e2 e3 e4 e5 e6 e7 e8
              subst e0 e1 e2 e3 e4 e5 e6 e7 e8
              have q0 := hcell 0 (by omega)
              have q1 := hcell 1 (by omega)
              have q2 := hcell 2 (by omega)
              have q3 := hcell 3 (by omega)
              have q4 := hcell 4 (by omega)
              have q5 := hcell 5 (by omega)
              have q6 := hcell 6 (by omega)
              have q7 := hcell 7 (by omega)
              have q8 := hcell 8 (by omega)
              simp [Addr.add_lit] at q0 q1 q2 q3 q4 q5 q6 q7 q8
              refine ⟨.mk ⟨n0, nm.data.toList, ty, rl, lf, nn, hw, cd⟩ l2, namS_mk.2 ⟨by simpa using hnz, hs4⟩, b, off, rfl, opdAt_mk.2 ⟨⟨wf_i64 w0, v2, v4, v5, wf_i64 w7, wf_i64 w8⟩, trivial, ?_, by simpa using q1, q2, ⟨RA, rc, q3, ⟨hr1, hr2⟩, hr3⟩, q4, q5, ⟨A2, cap2, q6, ⟨hs1, hs2⟩, hs3⟩, q7, q8⟩⟩
              by_cases hz : i = 0
              · subst hz
                simpa [Addr.add] using q0
              · simpa [Addr.add, hz] using q0
      obtain ⟨l, rfl, hp⟩ := list_choose key
      refine ⟨some a, l, cap, rfl, hl, hm, OpdsAt.of_get l 0 fun k hk => ?_, namL_of l fun k hk => (hp k hk).1⟩
      obtain ⟨_, b, off, e1, e2⟩ := hp k hk
      refine ⟨b, off, e1, ?_⟩
      rw [Nat.zero_add]
      exact e2
end
end Go.Scrp
