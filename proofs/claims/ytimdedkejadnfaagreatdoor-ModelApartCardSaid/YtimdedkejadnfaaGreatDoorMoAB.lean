/-
  The walks of the reference's looks at records: Few, Same; and rows of bytes of one's own that may turn. No condition but sizes.
-/
import Derived.Test.YtimdedkejadnfaaGreatDoorMoB
import Derived.Deep.QuietTactic
namespace Go.Proofs.YtimdedkejadnfaaGreatDoor
open Go.RowKit Go.Colm
set_option linter.unusedVariables false
set_option linter.unusedSimpArgs false
set_option linter.unusedSectionVars false

theorem RecAt.get {N : Nat → Prop} {w : World} {A : Option Addr} {l : List (List UInt8)} (h : RecAt N w A l) {k : Nat} (hk : k < l.length) : ∃ b off Au cu, A = some ⟨b, off, none⟩ ∧ w.cell? ⟨b, off + k, none⟩ = some (.slice Au l[k].length cu) ∧ RowV w Au (bytesV l[k]) := by
  obtain ⟨b, off, Au, cu, e, _, h1, h2, _⟩ := h k l[k] (by simp [hk])
  exact ⟨b, off, Au, cu, e, h1, h2⟩
theorem run_text2 {P : Program} {src e : TypeId} (hs : P.underlying src = some (.slice e)) (he : P.underlying e = some (.int .u8)) (w : World) (A : Option Addr) (l : List UInt8) (c : Nat) (hr : RowV w A (bytesV l))
    (dst : TypeId) (hd : P.underlying dst = some .string) : (convert src dst (.slice A l.length c)).run P w = .ok (.string ⟨l.toArray⟩) w := by
  rcases l with _ | ⟨x, l⟩
  · rcases A with _ | a
    · exact run_text hs he w none [] c (RowV.nil _ _) (fun a e => by cases e) dst hd
    · exact run_convert_bytes_back w src dst e a c [] hs he hd fun j hj => absurd hj (by simp)
  · refine run_text hs he w A (x :: l) c hr (fun a e => ?_) dst hd
    obtain ⟨b, off, h, _⟩ := hr 0 _ rfl
    subst h
    cases e
    rfl

/-- What Few ends with. -/
def FewEnd (l : List (List UInt8)) (e : Ending) : Prop := e = .returned (.bool false) ∨ e = .returned (.bool true) ∧ l.length ≤ 60 ∧ ∀ x ∈ l, x.length ≤ 3000

set_option maxHeartbeats 1600000 in
theorem few6_any (N : Nat → Prop) (A : Option Addr) (c : Nat) (l : List (List UInt8)) (w : World) (hl : l.length ≤ maxLen) (hx : ∀ x ∈ l, x.length ≤ maxLen) (hr : RecAt N w A l) :
    Calls Tryz.prog 5 #[.slice A l.length c] w fun e w' => w' = w ∧ FewEnd l e := by
  have HR := Lib.hid hr
  have HX := Lib.hid hx
  unfold maxLen at hl
  clear hr hx
  go_enter Tryz.func5, Tryz.ntmps5
  go_wp2_with fail
  go_loop [3, 4] (fun s3 s4 => ∃ k n : Nat, k ≤ l.length ∧ s4 = .int .i64 k ∧ s3 = .int .i64 n ∧ n ≤ 12999 ∧ Hid (n ≤ 3000 → ∀ j, (h : j < k) → (h' : j < l.length) → l[j].length ≤ 3000)) (fun _ s4 => match s4 with | .int _ m => l.length - m.toNat | _ => 0)
  case atStart => exact ⟨0, 0, Nat.zero_le _, rfl, rfl, by omega, Lib.hid (fun _ j h => absurd h (by omega))⟩
  case round =>
    obtain ⟨k, n, hk, rfl, rfl, hn, H⟩ := hrel
    by_cases hlt : k < l.length
    · by_cases hn3 : n ≤ 3000
      · obtain ⟨b, off, Au, cu, rfl, hc, _⟩ := HR.out.get hlt
        have hm := HX.out l[k] (List.getElem_mem _)
        unfold maxLen at hm
        obtain ⟨m, hm0⟩ : ∃ m, m = l[k].length := ⟨_, rfl⟩
        rw [← hm0] at hc hm
        have HM := Lib.hid hm0
        clear hm0
        go_wp2_with fail
        go_round
        case rel =>
          refine ⟨k + 1, n + min m 9999, by omega, by go_num, ?_, by omega, Lib.hid fun h3 j hj hj' => ?_⟩
          · first | rfl | (congr 1; omega)
          · rcases Nat.lt_or_ge j k with h | h
            · exact H.out hn3 j h hj'
            · have : j = k := by omega
              subst this
              rw [← HM.out]
              omega
        case measure => simp; omega
      · by_cases h6 : l.length ≤ 60
        · go_wp2
          go_ret
          exact ⟨rfl, .inl (ret_bool (by simp; omega))⟩
        · go_wp2
          go_ret
          exact ⟨rfl, .inl rfl⟩
    · by_cases h6 : l.length ≤ 60
      · go_wp2
        go_ret
        refine ⟨rfl, ?_⟩
        by_cases h3 : n ≤ 3000
        · refine .inr ⟨ret_bool (by simp; omega), h6, fun x hx => ?_⟩
          obtain ⟨j, hj, rfl⟩ := List.getElem_of_mem hx
          exact H.out h3 j (by omega) hj
        · exact .inl (ret_bool (by simp; omega))
      · go_wp2
        go_ret
        exact ⟨rfl, .inl rfl⟩

set_option maxHeartbeats 1600000 in
theorem same6_any (N N' : Nat → Prop) (A A' : Option Addr) (c c' : Nat) (l : List (List UInt8)) (w : World) (hl : l.length ≤ maxLen) (hr : RecAt N w A l) (hr' : RecAt N' w A' l) :
    Calls Tryz.prog 10 #[.slice A l.length c, .slice A' l.length c'] w fun e w' => e = .returned (.bool true) ∧ Below w.heap.size w w' := by
  have HR := Lib.hid hr
  have HR' := Lib.hid hr'
  unfold maxLen at hl
  clear hr hr'
  go_enter Tryz.func10, Tryz.ntmps10
  go_wp2_with fail
  go_loopw [5] (fun s5 wr => ∃ k : Nat, k ≤ l.length ∧ s5 = .int .i64 k ∧ Hid (Below w.heap.size w wr)) (fun s5 _ => match s5 with | .int _ m => l.length - m.toNat | _ => 0)
  case atStart => exact ⟨0, Nat.zero_le _, rfl, Lib.hid (Below.refl _ _)⟩
  case round =>
    obtain ⟨k, hk, rfl, HB⟩ := hrel
    by_cases hlt : k < l.length
    · obtain ⟨b1, o1, A1, p1, rfl, hc1, hr1⟩ := (HR.out.below HB.out).get hlt
      obtain ⟨b2, o2, A2, p2, rfl, hc2, hr2⟩ := (HR'.out.below HB.out).get hlt
      have ht1 : ∀ q, (convert 31 9 (.slice A1 l[k].length p1)).run Tryz.prog (wr.drewN q) = .ok (.string ⟨l[k].toArray⟩) (wr.drewN q) := fun q => run_text2 (P := Tryz.prog) Tryz.underlying31 Tryz.underlying5 _ A1 l[k] p1 (hr1.drewN q) 9 Tryz.underlying9
      have ht2 : ∀ q, (convert 31 9 (.slice A2 l[k].length p2)).run Tryz.prog (wr.drewN q) = .ok (.string ⟨l[k].toArray⟩) (wr.drewN q) := fun q => run_text2 (P := Tryz.prog) Tryz.underlying31 Tryz.underlying5 _ A2 l[k] p2 (hr2.drewN q) 9 Tryz.underlying9
      obtain ⟨X, hX⟩ : ∃ X : ByteArray, X = ⟨l[k].toArray⟩ := ⟨_, rfl⟩
      obtain ⟨xl, hxl⟩ : ∃ q, q = l[k].length := ⟨_, rfl⟩
      simp only [← hX, ← hxl] at ht1 ht2 hc1 hc2
      clear hX hxl hr1 hr2
      go_wp2_with fail
      go_quiet (fail)
      go_wp2_with fail
      go_roundw
      case rel => exact ⟨k + 1, by omega, by go_num, Lib.hid (below_drewN HB.out _)⟩
      case measure => simp; omega
    · go_wp2_with fail
      go_ret
      exact ⟨rfl, HB.out⟩

/-- append of nothing. -/
theorem run_append_none {P : Program} {w : World} (base : Nat) (t ty e : TypeId) (i : TypeInfo) (size c : Nat) (ht : P.underlying t = some (.slice e)) (hi : P.info? e = some i)
    (v : Value) (n : Nat) (xs : List Value) (hown : w.ownsRow base e size v n xs) : (Builtin.append_ #[t, t] ty #[v, .slice none 0 c]).run P w = .ok v w := by
  rcases hown.2 with ⟨rfl, rfl⟩ | ⟨g, cap, cur, rfl, _, _, hnc, _⟩
  · simp [Builtin.append_, run_underlying ht, sizeOf, typeInfo, hi, Builtin.lenOf, Builtin.firstCells]
  · simp [Builtin.append_, run_underlying ht, sizeOf, typeInfo, hi, Builtin.lenOf, Builtin.firstCells, hnc, storeCells]
theorem wpList_append_none {P : Program} {w : World} {ops : Array Oper} {rest : List Oper} {o : Oper} {a : Act} {Q : Exit → Act → World → Prop} (hgd : o.guard = none) (s x : Operand) (t : TypeId)
    (ho : o.op = .call { callee := .builtin .append, args := #[s, x], argTypes := #[t, t] })
    (base : Nat) (e : TypeId) (i : TypeInfo) (size c : Nat) (ht : P.underlying t = some (.slice e)) (hi : P.info? e = some i)
    (v : Value) (n : Nat) (xs : List Value) (hs : a.eval s = v) (hown : w.ownsRow base e size v n xs) (hx : a.eval x = .slice none 0 c)
    (h : wpList P ops Q rest (a.put o.dst v) w) : wpList P ops Q (o :: rest) a w := by
  refine wpList_plain hgd fun K hK => ?_
  have hrun := run_append_none (P := P) (w := w) base t o.type e i size c ht hi v n xs hown
  unfold Oper.wp
  simp [execOp, ho, resolve, invoke, builtin, hs, hx, hrun, Result.andThen]
  exact hK _ _ h
/-- 'append([]byte{}, x...)': bytes of one's own. -/
theorem wpList_copy {w : World} {ops : Array Oper} {rest : List Oper} {o : Oper} {a : Act} {Q : Exit → Act → World → Prop} (hgd : o.guard = none) (s x : Operand)
    (ho : o.op = .call { callee := .builtin .append, args := #[s, x], argTypes := #[31, 31] })
    (base : Nat) (v : Value) (hs : a.eval s = v) (hown : w.ownsRow base 5 1 v 0 []) (A : Option Addr) (l : List UInt8) (c : Nat) (hx : a.eval x = .slice A l.length c) (hr : RowV w A (bytesV l)) (hl : l.length < 1099511627776) (hb : base ≤ w.heap.size)
    (h : ∀ v' w', w'.ownsRow base 5 1 v' l.length (bytesV l) → w.grownBy w' v.ownBlock → wpList Tryz.prog ops Q rest (a.put o.dst v') w') : wpList Tryz.prog ops Q (o :: rest) a w := by
  obtain ⟨i0, hi, hz0, hz1, hz2⟩ := info_parts u8_info
  rcases A with _ | a0
  · have h0 : l = [] := by
      rcases l with _ | ⟨y, r⟩
      · rfl
      · obtain ⟨b, off, e, _⟩ := hr 0 _ rfl
        cases e
    subst h0
    exact wpList_append_none hgd s x 31 ho base 5 i0 1 c Tryz.underlying31 hi v 0 [] hs hown hx (h v w hown ⟨rfl, rfl, rfl, Nat.le_refl _, fun _ _ _ => rfl⟩)
  · refine wpList_append_own _ hgd s x 31 ho base 5 i0 (.int .u8 0) 1 1 Tryz.underlying31 hi hz0 hz1 hz2 rfl (by decide) v 0 [] hs hown a0 l.length c (bytesV l) hx (by rw [bytesV_length, Nat.mul_one]) (fun j u hu => ?_) (fun u hu => ?_) (by unfold maxLen; omega) (by omega) hb ?_
    · obtain ⟨b, off, e, hc⟩ := hr j u hu
      cases e
      rw [Addr.add_lit]
      exact hc
    · obtain ⟨y, _, rfl⟩ := List.mem_map.1 hu
      rfl
    · intro v' w' ho' hg _
      exact h v' w' (by simpa using ho') hg

/-- Rows of bytes that may turn: nothing is said of which bytes they are. -/
def RecZ (N : Nat → Prop) (w : World) (A : Option Addr) (l : List (List UInt8)) : Prop :=
  ∀ (i : Nat) (h : i < l.length), ∃ b off Au cu, A = some ⟨b, off, none⟩ ∧ N b ∧ w.cell? ⟨b, off + i, none⟩ = some (.slice Au l[i].length cu) ∧ ∀ j, j < l[i].length → ∃ b' off', Au = some ⟨b', off', none⟩ ∧ N b' ∧ (∃ u, w.cell? ⟨b', off' + j, none⟩ = some (.int .u8 u)) ∧ w.frozen? ⟨b', off' + j, none⟩ = false
theorem RecZ.put {N : Nat → Prop} {w : World} {A : Option Addr} {l : List (List UInt8)} (h : RecZ N w A l) {p : Addr} {x : Int} (hp : w.cell? p = some (.int .u8 x)) (y : Int) : RecZ N (w.setCell p (.int .u8 y)) A l := fun i hi => by
  obtain ⟨b, off, Au, cu, e, hnb, hc, hj⟩ := h i hi
  have hne : p ≠ ⟨b, off + i, none⟩ := fun e => by
    rw [e, hc] at hp
    cases hp
  refine ⟨b, off, Au, cu, e, hnb, by rw [World.cell?_setCell_other _ _ _ _ hne]; exact hc, fun j hjl => ?_⟩
  obtain ⟨b', off', e', hn, ⟨u, hu⟩, hf⟩ := hj j hjl
  refine ⟨b', off', e', hn, ?_, by rw [World.frozen?_setCell]; exact hf⟩
  by_cases hq : p = ⟨b', off' + j, none⟩
  · subst hq
    exact ⟨y, World.cell?_setCell_same _ _ _ hu⟩
  · exact ⟨u, by rw [World.cell?_setCell_other _ _ _ _ hq]; exact hu⟩
theorem RecZ.drewN {N : Nat → Prop} {w : World} {A : Option Addr} {l : List (List UInt8)} (h : RecZ N w A l) (n : Nat) : RecZ N (w.drewN n) A l := h
theorem RecZ.kept {S N : Nat → Prop} {w w' : World} {A : Option Addr} {l : List (List UInt8)} (h : RecZ N w A l) (hk : Kept S w w') (hs : ∀ k, N k → ¬ S k) : RecZ N w' A l := fun i hi => by
  obtain ⟨b, off, Au, cu, e, hnb, hc, hj⟩ := h i hi
  refine ⟨b, off, Au, cu, e, hnb, hk.cell hc (hs _ hnb), fun j hjl => ?_⟩
  obtain ⟨b', off', e', hn, ⟨u, hu⟩, hf⟩ := hj j hjl
  have hb := hk.block b' (lt_of_cell hu) (hs _ hn)
  exact ⟨b', off', e', hn, ⟨u, hk.cell hu (hs _ hn)⟩, by
    unfold World.frozen? at hf ⊢
    rw [hb]
    exact hf⟩
theorem RecOwn.z {B : Nat} {w : World} {v : Value} {us : List Value} {l : List (List UInt8)} (h : RecOwn B w v us l) : ∃ A, v = .slice A l.length l.length ∧ RecZ (fun k => B ≤ k ∧ k < w.heap.size) w A l := by
  obtain ⟨hl, ⟨b, rfl, hb, hw⟩, hr⟩ := h
  refine ⟨_, rfl, fun i hi => ?_⟩
  have ho := hr i us[i] l[i] (by simp [hl, hi]) (by simp [hi])
  rcases ho with ⟨h1, ⟨e, e2⟩ | ⟨g, cap, cur, e, h2, h3, h4, h5, h6, h7⟩⟩
  · refine ⟨b, 0, none, 0, rfl, ⟨hb, hw.lt⟩, ?_, fun j hj => by omega⟩
    rw [hw.cell, e2, ← e]
    simp [hl, hi]
  · refine ⟨b, 0, some ⟨g, 0, none⟩, cap, rfl, ⟨hb, hw.lt⟩, ?_, fun j hj => ⟨g, 0, rfl, ⟨h2, (Array.getElem?_eq_some_iff.1 h3).1⟩, ?_, by simp [World.frozen?, h3]⟩⟩
    · rw [hw.cell, ← e]
      simp [hl, hi]
    · have hx : (bytesV l[i])[j]? = some (.int .u8 (l[i][j].toNat : Int)) := by simp [bytesV, hj]
      rw [← h7, List.getElem?_take_of_lt (by omega)] at hx
      refine ⟨(l[i][j].toNat : Int), ?_⟩
      simp only [World.cell?, h3, Nat.zero_add]
      simpa using hx
end Go.Proofs.YtimdedkejadnfaaGreatDoor
