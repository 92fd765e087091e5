/-
  The walks of Below, and of the reference's Shared. Names of fewer than 2^40 bytes.
-/
import Derived.Test.YtfnpjcfaabbejaaDoorNamD
namespace Go.Proofs.YtfnpjcfaabbejaaDoor
open Go.RowKit Go.Foldp Go.Colm Go.Wirep
set_option linter.unusedVariables false

set_option maxHeartbeats 1000000 in
theorem below_any (a b : List (List UInt8)) (A B : Option Addr) (ca cb : Nat) (w : World) (ha : RowV w A (labV a)) (hb : RowV w B (labV b)) (la : wireL a < 1099511627776) (lb : wireL b < 1099511627776) :
    Calls Tryd.prog 20 #[.slice A a.length ca, .slice B b.length cb] w fun e w' => e = .returned (.bool (decide (sharedL a b = b.length))) ∧ Below w.heap.size w w' := by
  have hs := shared_any a b A B ca cb w ha hb la lb
  obtain ⟨n, hn⟩ : ∃ n, n = sharedL a b := ⟨_, rfl⟩
  rw [← hn] at hs ⊢
  have HS := Lib.hid hs
  have hlb := wireL_len b
  clear hs hn ha hb
  go_enter Tryd.func20, Tryd.ntmps20
  go_wp2_with fail
  refine HS.out.mono ?_
  rintro e w2 ⟨rfl, hb2⟩
  go_wp2_with fail
  go_ret
  refine ⟨ret_bool ?_, hb2⟩
  rw [Bool.eq_iff_iff]
  simp
  omega

theorem lower_list (x : List UInt8) (W : World) (hx : x.length < 1099511627776) : Calls Tryd.prog 24 #[.string ⟨x.toArray⟩] W fun e w' => e = .returned (.string ⟨(lowL x).toArray⟩) ∧ Below W.heap.size W w' := by
  have := rlower_any ⟨x.toArray⟩ W (by rw [str_size]; omega)
  simpa using this

/-- Two cells of older memory, held while calls make new memory. -/
theorem two_next {w W W2 : World} {p q : Addr} {u v : Value} (h : Below w.heap.size w W ∧ W.cell? p = some u ∧ W.cell? q = some v) (k : Below W.heap.size W W2) : Below w.heap.size w W2 ∧ W2.cell? p = some u ∧ W2.cell? q = some v :=
  ⟨below_chain h.1 k, (k.cell (lt_of_cell h.2.1)).trans h.2.1, (k.cell (lt_of_cell h.2.2)).trans h.2.2⟩

set_option maxRecDepth 100000 in
set_option maxHeartbeats 4000000 in
theorem rshared_any (a b : List (List UInt8)) (A B : Option Addr) (ca cb : Nat) (w : World) (ha : RowV w A (labV a)) (hb : RowV w B (labV b)) (la : wireL a < 1099511627776) (lb : wireL b < 1099511627776) :
    Calls Tryd.prog 18 #[.slice A a.length ca, .slice B b.length cb] w fun e w' => e = .returned (.int .i64 (sharedL a b : Nat)) ∧ Below w.heap.size w w' := by
  have HA := Lib.hid ha
  have HB := Lib.hid hb
  have hla := wireL_len a
  have hlb := wireL_len b
  clear ha hb
  go_enter Tryd.func18, Tryd.ntmps18
  go_wp2_with fail
  go_loopw [5] (fun i wr => ∃ k : Nat, k ≤ a.length ∧ k ≤ b.length ∧ i = .int .i64 k ∧ Hid (comL a.reverse b.reverse = k + comL (a.reverse.drop k) (b.reverse.drop k)) ∧ Below w.heap.size w wr) (fun i _ => a.length - (intOf i).toNat)
  case atStart => exact ⟨0, Nat.zero_le _, Nat.zero_le _, rfl, Lib.hid (by simp), Below.refl _ _⟩
  case round =>
    obtain ⟨k, hka', hkb', rfl, HC, hbw⟩ := hrel
    have HBW := Lib.hid hbw
    clear hbw
    by_cases hka : k < a.length
    · by_cases hkb : k < b.length
      · obtain ⟨qa, hqa⟩ : ∃ qa, qa = a.length - 1 - k := ⟨_, rfl⟩
        obtain ⟨qb, hqb⟩ : ∃ qb, qb = b.length - 1 - k := ⟨_, rfl⟩
        have f1 : IntKind.i64.wrap ((a.length : Int) - 1) = (a.length : Int) - 1 := IntWalk.i64_in _ (by omega)
        have f2 : IntKind.i64.wrap ((a.length : Int) - 1 - (k : Int)) = (qa : Int) := by rw [IntWalk.i64_in _ (by omega)]; omega
        have f3 : IntKind.i64.wrap ((b.length : Int) - 1) = (b.length : Int) - 1 := IntWalk.i64_in _ (by omega)
        have f4 : IntKind.i64.wrap ((b.length : Int) - 1 - (k : Int)) = (qb : Int) := by rw [IntWalk.i64_in _ (by omega)]; omega
        have f5 : qa < a.length := by omega
        have f6 : qb < b.length := by omega
        obtain ⟨b1, o1, rfl, hc1⟩ := labV_at (HA.out.below HBW.out) (show a.length - 1 - k < a.length by omega)
        obtain ⟨b2, o2, rfl, hc2⟩ := labV_at (HB.out.below HBW.out) (show b.length - 1 - k < b.length by omega)
        have hw1 := wireL_mem (List.getElem_mem (show a.length - 1 - k < a.length by omega))
        have hw2 := wireL_mem (List.getElem_mem (show b.length - 1 - k < b.length by omega))
        have ea : a.reverse[k]'(by simpa using hka) = a[a.length - 1 - k] := by simp
        have eb : b.reverse[k]'(by simpa using hkb) = b[b.length - 1 - k] := by simp
        have hl1 := fun W => lower_list a[a.length - 1 - k] W (by omega)
        have hl2 := fun W => lower_list b[b.length - 1 - k] W (by omega)
        obtain ⟨s1, hs1⟩ : ∃ s1, s1 = ByteArray.mk a[a.length - 1 - k].toArray := ⟨_, rfl⟩
        obtain ⟨s2, hs2⟩ : ∃ s2, s2 = ByteArray.mk b[b.length - 1 - k].toArray := ⟨_, rfl⟩
        have heq := str_beq (lowL a[a.length - 1 - k]) (lowL b[b.length - 1 - k])
        obtain ⟨t1, ht1⟩ : ∃ t1, t1 = ByteArray.mk (lowL a[a.length - 1 - k]).toArray := ⟨_, rfl⟩
        obtain ⟨t2, ht2⟩ : ∃ t2, t2 = ByteArray.mk (lowL b[b.length - 1 - k]).toArray := ⟨_, rfl⟩
        rw [← ht1, ← ht2] at heq
        simp only [← hs1, ← ht1] at hl1 hc1
        simp only [← hs2, ← ht2] at hl2 hc2
        have HL1 := Lib.hid hl1
        have HL2 := Lib.hid hl2
        have d1 : wr.drew.cell? ⟨b1, o1 + qa, none⟩ = some (.string s1) := hqa ▸ hc1
        have d2 : wr.drew.cell? ⟨b2, o2 + qb, none⟩ = some (.string s2) := hqb ▸ hc2
        by_cases he : lowL a[a.length - 1 - k] = lowL b[b.length - 1 - k]
        · have HC2 := Lib.hid (comL_step (by simpa using hka) (by simpa using hkb) HC.out (by rw [ea, eb]; exact he))
          have q1 : (t1.toList == t2.toList) = true := by rw [heq, decide_eq_true he]
          clear hs1 hs2 ht1 ht2 he ea eb hw1 hw2 hc1 hc2 hqa hqb hl1 hl2 heq
          have hs0 : Below wr.heap.size wr wr.drew ∧ wr.drew.cell? ⟨b1, o1 + qa, none⟩ = some (.string s1) ∧ wr.drew.cell? ⟨b2, o2 + qb, none⟩ = some (.string s2) := ⟨(Below.refl _ _).drew, d1, d2⟩
          clear d1 d2
          go_wp2_with fail
          go_region_held3 (fun W => Below wr.heap.size wr W ∧ W.cell? ⟨b1, o1 + qa, none⟩ = some (.string s1) ∧ W.cell? ⟨b2, o2 + qb, none⟩ = some (.string s2))
            (first | exact hs0 | exact two_next (by assumption) (by assumption))
            (first
              | ((go_at_call 24; with_reducible refine (HL1.out _).mono ?_); rintro e w2 ⟨rfl, hb2⟩)
              | ((go_at_call 24; with_reducible refine (HL2.out _).mono ?_); rintro e w2 ⟨rfl, hb2⟩))
          go_wp2_with fail
          go_roundw
          case rel => exact ⟨k + 1, by omega, by omega, by go_num, HC2, below_chain HBW.out (And.left (by assumption))⟩
          case measure => simp [intOf]; omega
        · have HE : Hid (sharedL a b = k) := Lib.hid (comL_stop (by simpa using hka) (by simpa using hkb) HC.out (by rw [ea, eb]; exact he))
          have q1 : (t1.toList == t2.toList) = false := by rw [heq, decide_eq_false he]
          clear hs1 hs2 ht1 ht2 he ea eb hw1 hw2 hc1 hc2 hqa hqb hl1 hl2 heq
          have hs0 : Below wr.heap.size wr wr.drew ∧ wr.drew.cell? ⟨b1, o1 + qa, none⟩ = some (.string s1) ∧ wr.drew.cell? ⟨b2, o2 + qb, none⟩ = some (.string s2) := ⟨(Below.refl _ _).drew, d1, d2⟩
          clear d1 d2
          go_wp2_with fail
          go_region_held3 (fun W => Below wr.heap.size wr W ∧ W.cell? ⟨b1, o1 + qa, none⟩ = some (.string s1) ∧ W.cell? ⟨b2, o2 + qb, none⟩ = some (.string s2))
            (first | exact hs0 | exact two_next (by assumption) (by assumption))
            (first
              | ((go_at_call 24; with_reducible refine (HL1.out _).mono ?_); rintro e w2 ⟨rfl, hb2⟩)
              | ((go_at_call 24; with_reducible refine (HL2.out _).mono ?_); rintro e w2 ⟨rfl, hb2⟩))
          go_wp2_with fail
          go_ret
          exact ⟨ret_int (by rw [HE.out]), below_chain HBW.out (And.left (by assumption))⟩
      · have HE : Hid (sharedL a b = k) := Lib.hid (comL_end (by simp; omega) HC.out)
        go_wp2_with fail
        go_region
        all_goals
          go_wp2_with fail
          go_ret
          exact ⟨ret_int (by rw [HE.out]), below_chain HBW.out (below_of_drewN wr 1)⟩
    · have HE : Hid (sharedL a b = k) := Lib.hid (comL_end (by simp; omega) HC.out)
      go_wp2_with fail
      go_region
      all_goals
        go_wp2_with fail
        go_ret
        exact ⟨ret_int (by rw [HE.out]), below_chain HBW.out (below_of_drewN wr 1)⟩
end Go.Proofs.YtfnpjcfaabbejaaDoor
