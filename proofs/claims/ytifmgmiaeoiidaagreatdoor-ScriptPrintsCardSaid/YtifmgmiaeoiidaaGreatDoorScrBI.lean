/-
  The walks of Few (layers 33's reference and law): a script for which there is room has few steps, and short ones. No condition.
-/
import Derived.Test.YtifmgmiaeoiidaaGreatDoorScrBE
import Derived.Test.YtifmgmiaeoiidaaGreatDoorOpr
namespace Go.Scrp
set_option linter.unusedVariables false
def sumL : List (List UInt8) → Nat
  | [] => 0
  | x :: r => x.length + sumL r
mutual
/-- How much room steps take. -/
def costS : Opd → Nat
  | .mk h l => 100 + h.name.length + sumL h.recs + costL l
def costL : List Opd → Nat
  | [] => 0
  | o :: r => costS o + costL r
end
mutual
/-- Have all steps short names, and few records? -/
def litS : Opd → Prop
  | .mk h l => (h.name.length ≤ 600 ∧ h.recs.length ≤ 60) ∧ litL l
def litL : List Opd → Prop
  | [] => True
  | o :: r => litS o ∧ litL r
end
theorem costL_nil : costL [] = 0 := by rw [costL]
theorem costL_cons (o : Opd) (r : List Opd) : costL (o :: r) = costS o + costL r := by rw [costL]
theorem costS_mk (h : Hd) (l : List Opd) : costS (.mk h l) = 100 + h.name.length + sumL h.recs + costL l := by rw [costS]
theorem litL_nil : litL [] := by rw [litL]; trivial
theorem litL_cons {o : Opd} {r : List Opd} : litL (o :: r) ↔ litS o ∧ litL r := by rw [litL]
theorem litS_mk {h : Hd} {l : List Opd} : litS (.mk h l) ↔ (h.name.length ≤ 600 ∧ h.recs.length ≤ 60) ∧ litL l := by rw [litS]
theorem costL_append : ∀ a b : List Opd, costL (a ++ b) = costL a + costL b
  | [], b => by rw [costL_nil, List.nil_append, Nat.zero_add]
  | o :: a, b => by rw [List.cons_append, costL_cons, costL_cons, costL_append a b, Nat.add_assoc]
theorem litL_append : ∀ a b : List Opd, litL (a ++ b) ↔ litL a ∧ litL b
  | [], b => by simp [litL_nil]
  | o :: a, b => by rw [List.cons_append, litL_cons, litL_cons, litL_append a b, and_assoc]
theorem sumL_append : ∀ a b : List (List UInt8), sumL (a ++ b) = sumL a + sumL b
  | [], b => by simp [sumL]
  | o :: a, b => by rw [List.cons_append, sumL, sumL, sumL_append a b, Nat.add_assoc]
theorem costL_take {l : List Opd} {k : Nat} (h : k < l.length) : costL (l.take (k + 1)) = costL (l.take k) + costS l[k] := by
  rw [List.take_succ_eq_append_getElem h, costL_append, costL_cons, costL_nil, Nat.add_zero]
theorem litL_take {l : List Opd} {k : Nat} (h : k < l.length) : litL (l.take (k + 1)) ↔ litL (l.take k) ∧ litS l[k] := by
  rw [List.take_succ_eq_append_getElem h, litL_append, litL_cons]
  simp [litL_nil]
theorem sumL_take {l : List (List UInt8)} {k : Nat} (h : k < l.length) : sumL (l.take (k + 1)) = sumL (l.take k) + l[k].length := by
  rw [List.take_succ_eq_append_getElem h, sumL_append, sumL, sumL, Nat.add_zero]
/-- So much room is left behind the first k steps. -/
def Room (l : List Opd) (left : Int) (k : Nat) (v : Int) : Prop := 0 ≤ v → ((costL (l.take k) : Nat) : Int) + v ≤ left ∧ litL (l.take k)
theorem Room.start (l : List Opd) (left : Int) : Room l left 0 left := fun _ => ⟨by simp [costL_nil], by simp [litL_nil]⟩
theorem Room.on {l sub : List Opd} {left v u v' : Int} {k : Nat} {h : Hd} (H : Room l left k v) (hk : k < l.length) (hl : l[k] = .mk h sub) (hv : 0 ≤ v) (hn : h.name.length ≤ 600) (hr : h.recs.length ≤ 60) (hu : u = v - 100 - (h.name.length : Int) - (sumL h.recs : Int))
    (hs : 0 ≤ v' → ((costL sub : Nat) : Int) + v' ≤ u ∧ litL sub) : Room l left (k + 1) v' := fun h0 => by
  obtain ⟨h1, h2⟩ := H hv
  obtain ⟨h3, h4⟩ := hs h0
  rw [costL_take hk, litL_take hk, hl, costS_mk, litS_mk]
  exact ⟨by push_cast; omega, h2, ⟨hn, hr⟩, h4⟩
theorem dec_len {u : Nat} (h : u < 18446744073709551616) : (Lib.decDigits u).length ≤ 20 := by
  have h1 := rnum_eq (s := Lib.decDigits u) (most := 18446744073709551615) (Nat.le_refl _)
  rw [num_dec (Nat.le_refl _) (by omega), rnumL] at h1
  rcases Nat.lt_or_ge 20 (Lib.decDigits u).length with h2 | h2
  · rw [if_pos (.inr (.inl h2))] at h1
    cases h1
  · exact h2
theorem itoa_len {v : Int} (h : -9223372036854775808 ≤ v ∧ v ≤ 9223372036854775807) : (Lib.itoa v).length ≤ 21 := by
  unfold Lib.itoa
  split
  · have := dec_len (u := v.natAbs) (by omega)
    simp
    omega
  · have := dec_len (u := v.toNat) (by omega)
    omega
theorem bulk_sum : ∀ l : List (List UInt8), bulk l = sumL l + l.length
  | [] => rfl
  | x :: r => by
    have := bulk_sum r
    simp [bulk, sumL]
    omega
theorem spell_len {k : Int} (h : (spellT k).1 ≠ []) : (spellT k).1.length ≤ 7 := by
  rcases spell_kinds h with rfl | rfl | rfl | rfl | rfl | rfl | rfl | rfl <;> decide
theorem end_len {k : Int} (h : endT k ≠ []) : (endT k).length ≤ 6 := by
  rcases end_how h with rfl | rfl <;> decide
theorem words_len {h : Hd} (hok : h.Ok) (h1 : (spellT h.kind).1 ≠ []) (h2 : endT h.how ≠ []) (hr : h.recs.length ≤ 60) : bulk (wordsT h) ≤ 300 + 2 * h.name.length + 2 * sumL h.recs := by
  have a1 := spell_len h1
  have a2 := end_len h2
  have a3 := word_len h.name
  have a4 := dec_len (u := h.typ) (by have := hok.2.1; omega)
  have a5 := dec_len (u := h.life) hok.2.2.1
  have a6 := dec_len (u := h.n) hok.2.2.2.1
  have a7 := itoa_len hok.2.2.2.2.2
  have a8 := set_len h.recs
  rw [bulk_sum] at a8
  unfold wordsT
  rw [bulk_append, bulk_append]
  split <;> split <;> (try split) <;> (try split) <;> simp [bulk] <;> omega
theorem okL_of {N : Nat → Prop} {w : World} : ∀ (n : Nat) (l : List Opd), cntL l < n → ∀ (A : Option Addr) (i : Nat), OpdsAt N w A i l → okL l
  | 0, _, h => absurd h (by omega)
  | n + 1, [], _ => fun _ _ _ => okL_nil
  | n + 1, .mk h sub :: r, hn => fun A i H => by
    have hcn := cntL_cons (.mk h sub) r
    have hcs := cntS_sub (h := h) (l := sub)
    obtain ⟨⟨b, off, _, ho⟩, hr⟩ := opdsAt_cons.1 H
    obtain ⟨hok, _, _, _, _, _, _, _, ⟨A', cp', _, _, hsub⟩, _⟩ := opdAt_mk.1 ho
    exact okL_cons.2 ⟨⟨hok, okL_of n sub (by omega) A' 0 hsub⟩, okL_of (n + 1) r (by omega) A (i + 1) hr⟩
/-- What is written of steps that take so much room. -/
theorem out_len : ∀ (n : Nat) (l : List Opd), cntL l < n → ∀ deep, okL l → litL l → (outL deep l).1.length ≤ 5 * costL l
  | 0, _, h => absurd h (by omega)
  | n + 1, [], _ => fun deep _ _ => by rw [outL_nil]; simp
  | n + 1, .mk h sub :: r, hn => fun deep ho hl => by
    have hcn := cntL_cons (.mk h sub) r
    have hcs := cntS_sub (h := h) (l := sub)
    obtain ⟨⟨o1, o2⟩, o3⟩ := okL_cons.1 ho
    obtain ⟨l1, l2⟩ := litL_cons.1 hl
    obtain ⟨⟨l3, l4⟩, l5⟩ := litS_mk.1 l1
    have h1 := out_len n sub (by omega) (deep + 1) o2 l5
    have h2 := out_len (n + 1) r (by omega) deep o3 l2
    rw [costL_cons, costS_mk]
    cases hb : badT deep h sub.length with
    | true =>
      rw [outL_bad hb]
      simp
    | false =>
      rw [outL_good hb]
      obtain ⟨h20, b1, b2, _⟩ := bad_parts hb
      have hw := words_len o1 b1 b2 l4
      have hll := line_len deep (wordsT h) (words_ne h)
      have hlc := line_len deep [[125]] (by simp)
      have hb1 : bulk [[125]] = 2 := rfl
      by_cases hk : h.kind = 3
      · rw [outS_view hk]
        simp only [List.length_append]
        omega
      · rw [outS_plain hk]
        simp only [List.length_append]
        omega
end Go.Scrp
namespace Go.Proofs.YtifmgmiaeoiidaaGreatDoor
open Go.RowKit Go.Colm Go.Scrp
set_option linter.unusedVariables false

/-- What Few answers: whatever room is left. -/
def FewOK (l : List Opd) : Prop :=
  ∀ (A : Option Addr) (c : Nat) (left : Int) (deep : Nat) (w : World), OpdsAt (fun _ => True) w A 0 l → namL l → l.length ≤ maxLen → -200000 ≤ left → left ≤ 30000 → deep ≤ 61 →
    Calls Tryz.prog 25 #[.slice A l.length c, .int .i64 left, .int .i64 (deep : Int)] w fun e w' => ∃ v : Int, e = .returned (.int .i64 v) ∧ (-200000 ≤ v ∧ v ≤ 30000) ∧ (0 ≤ v → ((costL l : Nat) : Int) + v ≤ left ∧ litL l) ∧ Below w.heap.size w w'

set_option maxRecDepth 100000 in
set_option maxHeartbeats 4000000 in
theorem few_step {l : List Opd} (H : ∀ k (hk : k < l.length) h sub, l[k] = .mk h sub → FewOK sub) : FewOK l := by
  intro A c left deep w hA hnm hlm hl1 hl2 hd
  have hlm' : l.length ≤ 9223372036854775807 := by unfold maxLen at hlm; omega
  by_cases hd60 : 60 < deep
  · clear H hA hnm
    go_enter Tryz.func25, Tryz.ntmps25
    go_wp2_with fail
    go_ret
    exact ⟨_, rfl, by omega, fun h => absurd h (by omega), Below.refl _ _⟩
  have HH := Lib.hid H
  have HA := Lib.hid hA
  have HNM := Lib.hid hnm
  have HL0 : Hid (Below w.heap.size w w) := Lib.hid (Below.refl _ _)
  have HR0 := Lib.hid (Room.start l left)
  clear H hA hnm hlm
  go_enter Tryz.func25, Tryz.ntmps25
  go_wp2_with fail
  go_loopw [1, 7] (fun lv i wr => ∃ (k : Nat) (v : Int), k ≤ l.length ∧ -200000 ≤ v ∧ v ≤ 30000 ∧ lv = .int .i64 v ∧ i = .int .i64 k ∧ Hid (Room l left k v) ∧ Hid (Below w.heap.size w wr)) (fun _ i _ => l.length - (intOf i).toNat)
  case atStart => exact ⟨0, left, Nat.zero_le _, hl1, hl2, rfl, rfl, HR0, HL0⟩
  case round =>
    obtain ⟨k, v, hk, hv1, hv2, rfl, rfl, HR, HC⟩ := hrel
    clear HR0 HL0 hl1 hl2
    by_cases hlt : k < l.length
    · by_cases hv0 : 0 ≤ v
      · obtain ⟨bA, oA, rfl, hsA⟩ := (OpdsAt.turn (Turn.below HC.out) A 0 l HA.out).get l 0 k hlt
        rw [Nat.zero_add] at hsA
        have hnk := namL_get l k hlt HNM.out
        rcases hek : l[k] with ⟨h, sub⟩
        rw [hek] at hsA hnk
        obtain ⟨hok, _, a0, a1, a2, ⟨RA, rc, a3, ⟨hrc, hrc2⟩, hrecs⟩, a4, a5, ⟨SA, sc, a6, ⟨hsc, hsc2⟩, hsub⟩, a7, a8⟩ := opdAt_mk.1 hsA
        obtain ⟨hn1, hn2⟩ := namS_mk.1 hnk
        have HS := Lib.hid (HH.out k hlt h sub hek)
        have HEK := Lib.hid hek
        have HN2 := Lib.hid hn2
        have HSM := Lib.hid (Nat.le_trans hsc hsc2)
        obtain ⟨kd, nam, ty, rs, lf, n, hw, cd⟩ := h
        dsimp only at a0 a1 a2 a3 hrc hrecs a4 a5 a7 a8 hn1
        have hnz := str_size nam
        have hrl : rs.length ≤ 9223372036854775807 := by unfold maxLen at hrc2; omega
        have hnl : nam.length ≤ 9223372036854775807 := by unfold maxLen at hn1; omega
        obtain ⟨S, hS⟩ : ∃ S : ByteArray, S = ⟨nam.toArray⟩ := ⟨_, rfl⟩
        rw [← hS] at a1 hnz
        have HRA := Lib.hid hrecs
        have HSA := Lib.hid hsub
        have HB1 : Hid (Below wr.heap.size wr (wr.alloc (.cells #[.int .i64 kd, .string S, .int .u16 (ty : Int), .slice RA rs.length rc, .int .u64 (lf : Int), .int .u64 (n : Int), .slice SA sub.length sc, .int .i64 hw, .int .i64 cd] 48))) := Lib.hid ((Below.refl _ _).alloc (Nat.le_refl _) _)
        have hO := Whole.new wr 48 #[.int .i64 kd, .string S, .int .u16 (ty : Int), .slice RA rs.length rc, .int .u64 (lf : Int), .int .u64 (n : Int), .slice SA sub.length sc, .int .i64 hw, .int .i64 cd]
        obtain ⟨W, hW⟩ : ∃ W, W = wr.alloc (.cells #[.int .i64 kd, .string S, .int .u16 (ty : Int), .slice RA rs.length rc, .int .u64 (lf : Int), .int .u64 (n : Int), .slice SA sub.length sc, .int .i64 hw, .int .i64 cd] 48) := ⟨_, rfl⟩
        rw [← hW] at HB1 hO
        have x1 : W.cell? ⟨wr.heap.size, 1, none⟩ = some (.string S) := hO.cell 1
        have x3 : W.cell? ⟨wr.heap.size, 3, none⟩ = some (.slice RA rs.length rc) := hO.cell 3
        have x6 : W.cell? ⟨wr.heap.size, 6, none⟩ = some (.slice SA sub.length sc) := hO.cell 6
        have HRW := Lib.hid (RecsAt.turn (Turn.below HB1.out) HRA.out)
        have HSW := Lib.hid (OpdsAt.turn (Turn.below HB1.out) SA 0 sub HSA.out)
        have HW := Lib.hid hW
        clear hek hsA hnk hok hrecs hsub hrc hrc2 hsc hsc2 hn1 hn2 hS hO hW
        by_cases hn6 : 600 < nam.length
        · go_wp2_with fail
          go_ret
          rw [← HW.out]
          exact ⟨-1, rfl, by omega, fun h => absurd h (by omega), below_chain HC.out HB1.out⟩
        by_cases hr6 : 60 < rs.length
        · go_wp2_with fail
          go_ret
          rw [← HW.out]
          exact ⟨-1, rfl, by omega, fun h => absurd h (by omega), below_chain HC.out HB1.out⟩
        go_wp2_with fail
        rw [← HW.out]
        go_loop [1, 9] (fun lu q => ∃ (j : Nat) (u : Int), j ≤ rs.length ∧ lu = .int .i64 u ∧ q = .int .i64 j ∧ -700 - 3000 * (j : Int) ≤ u ∧ u ≤ 30000 ∧ Hid (u = v - 100 - (nam.length : Int) - (sumL (rs.take j) : Int))) (fun _ q => rs.length - (intOf q).toNat)
        case atStart => exact ⟨0, v - 100 - (nam.length : Int), Nat.zero_le _, rfl, rfl, by omega, by omega, Lib.hid (by rw [List.take_zero, sumL]; omega)⟩
        case round =>
          obtain ⟨j, u, hj, rfl, rfl, hu1, hu2, HU⟩ := hrel
          by_cases hjl : j < rs.length
          · obtain ⟨b1, o1, A1, p1, rfl, _, hc1, hl1, _⟩ := HRW.out j hjl
            have hst := sumL_take hjl
            obtain ⟨xl, hxl⟩ : ∃ q, q = rs[j].length := ⟨_, rfl⟩
            rw [← hxl] at hc1 hst
            have HST := Lib.hid hst
            have hxm : xl ≤ 9223372036854775807 := by rw [hxl]; unfold maxLen at hl1; omega
            clear hxl hl1 hst
            by_cases hx3 : 3000 < xl
            · go_wp2_with fail
              go_ret
              exact ⟨-1, rfl, by omega, fun h => absurd h (by omega), below_chain HC.out HB1.out⟩
            · have HU2 : Hid (u - (xl : Int) = v - 100 - (nam.length : Int) - (sumL (rs.take (j + 1)) : Int)) := Lib.hid (by
                rw [HU.out, HST.out]
                push_cast
                omega)
              go_wp2_with fail
              go_round
              case rel => exact ⟨j + 1, u - (xl : Int), by omega, by go_num, by go_num, by omega, by omega, HU2⟩
              case measure => simp [intOf]; omega
          · have hjr : j = rs.length := by omega
            have HU3 : Hid (u = v - 100 - (nam.length : Int) - (sumL rs : Int)) := Lib.hid (by
              have := HU.out
              rw [hjr, List.take_length] at this
              exact this)
            have HSC := Lib.hid (HS.out SA sc u (deep + 1) W HSW.out HN2.out HSM.out (by omega) (by omega) (by omega))
            rw [show ((deep + 1 : Nat) : Int) = (deep : Int) + 1 by omega] at HSC
            clear HU
            go_wp2_with fail
            refine HSC.out.mono ?_
            rintro e w2 ⟨v2, rfl, ⟨hv3, hv4⟩, hcst, hb2⟩
            have HR2 := Lib.hid (Room.on HR.out hlt HEK.out hv0 (show nam.length ≤ 600 by omega) (show rs.length ≤ 60 by omega) HU3.out hcst)
            have HB2 := Lib.hid (below_chain HC.out (below_chain HB1.out hb2))
            clear hcst hb2
            go_wp2_with fail
            go_roundw
            case rel => exact ⟨k + 1, v2, by omega, hv3, hv4, rfl, by go_num, HR2, HB2⟩
            case measure => simp [intOf]; omega
      · go_wp2_with fail
        go_ret
        exact ⟨v, rfl, ⟨hv1, hv2⟩, fun h => absurd h (by omega), HC.out⟩
    · have hk2 : k = l.length := by omega
      have HF : Hid (0 ≤ v → ((costL l : Nat) : Int) + v ≤ left ∧ litL l) := Lib.hid (by
        have := HR.out
        unfold Room at this
        rw [hk2, List.take_length] at this
        exact this)
      go_wp2_with fail
      go_ret
      exact ⟨v, rfl, ⟨hv1, hv2⟩, HF.out, HC.out⟩
theorem few_all : ∀ (n : Nat) (l : List Opd), cntL l < n → FewOK l
  | 0, _, h => absurd h (by omega)
  | n + 1, l, h => few_step fun k hk hd sub e => few_all n sub (by
      have := cntL_get l k hk
      rw [e, cntS_sub] at this
      omega)
/-- Few of the laws: what follows of its yes. -/
theorem lfew_any (q : Int) (l : List Opd) (A : Option Addr) (c : Nat) (w : World) (hA : OpdsAt (fun _ => True) w A 0 l) (hn : namL l) (hl : l.length ≤ maxLen) :
    Calls Tryz.prog 12 #[.int .i64 q, .slice A l.length c] w fun e w' => ∃ b, e = .returned (.bool b) ∧ (b = true → costL l ≤ 30000 ∧ litL l) ∧ Below w.heap.size w w' := by
  have HF := Lib.hid (few_all (cntL l + 1) l (by omega) A c 30000 0 w hA hn hl (by omega) (by omega) (by omega))
  rw [show ((0 : Nat) : Int) = 0 from rfl] at HF
  clear hA hn hl
  go_enter Tryz.func12, Tryz.ntmps12
  go_wp2_with fail
  refine HF.out.mono ?_
  rintro e w2 ⟨v, rfl, ⟨hv1, hv2⟩, hc, hb⟩
  have HC := Lib.hid hc
  have HB := Lib.hid hb
  clear hc hb
  by_cases h0 : 0 ≤ v
  · have hx : decide ((0 : Int) ≤ v) = true := decide_eq_true h0
    go_wp2_with fail
    go_ret
    exact ⟨true, rfl, fun _ => ⟨by have := (HC.out h0).1; omega, (HC.out h0).2⟩, HB.out⟩
  · have hx : decide ((0 : Int) ≤ v) = false := decide_eq_false h0
    go_wp2_with fail
    go_ret
    exact ⟨false, rfl, fun h => (by cases h), HB.out⟩
end Go.Proofs.YtifmgmiaeoiidaaGreatDoor
