/-
  The walk of the reference's Few (layer wire): what it says of few names, and short ones. Names of fewer than 2^40 labels.
-/
import Derived.Test.YtfnpjcfaabbejaaWireAC
import Derived.Test.YtfnpjcfaabbejaaWireW
namespace Go.Proofs.Ytfnpjcfaabbejaa
open Go.RowKit Go.Foldp Go.Colm Go.Wirep
set_option linter.unusedVariables false

/-- What Few answers: true just of few names, and short ones. -/
def FewNames (w : World) (ll : List (List (List UInt8))) (e : Ending) (w' : World) : Prop :=
  ∃ q : Bool, e = .returned (.bool q) ∧ (q = true → ll.length ≤ 100 ∧ ∀ l ∈ ll, wireL l ≤ 3301) ∧ Below w.heap.size w w'
/-- So many names are short. -/
def ShortN (ll : List (List (List UInt8))) (k : Nat) : Prop := ∀ i, (hi : i < ll.length) → i < k → wireL ll[i] ≤ 3301
theorem ShortN.next {ll : List (List (List UInt8))} {k : Nat} (h : ShortN ll k) (hk : k < ll.length) (hw : wireL ll[k] ≤ 3301) : ShortN ll (k + 1) := fun i hi hik => by
  by_cases e : i = k
  · subst e
    exact hw
  · exact h i hi (by omega)
theorem ShortN.all {ll : List (List (List UInt8))} {k : Nat} (h : ShortN ll k) (hk : k = ll.length) : ∀ l ∈ ll, wireL l ≤ 3301 := fun l hl => by
  obtain ⟨i, hi, rfl⟩ := List.mem_iff_getElem.1 hl
  exact h i hi (by omega)

set_option maxRecDepth 100000 in
set_option maxHeartbeats 4000000 in
theorem rfew_any (ll : List (List (List UInt8))) (A : Option Addr) (c : Nat) (w : World) (hr : NamesV w A ll) (hs : ∀ l ∈ ll, l.length ≤ 9223372036854775807 ∧ ∀ s ∈ l, s.length ≤ 9223372036854775807) (hl : ll.length ≤ 9223372036854775807) :
    Calls Try.prog 11 #[.slice A ll.length c] w (FewNames w ll) := by
  have HR := Lib.hid hr
  have HS := Lib.hid hs
  clear hr hs
  go_enter Try.func11, Try.ntmps11
  go_wp2_with fail
  go_loopw [3, 4] (fun n i wr => ∃ (k : Nat) (m : Int), k ≤ ll.length ∧ i = .int .i64 k ∧ n = .int .i64 m ∧ m ≤ 6000 ∧ -4000 ≤ m ∧ Hid (ShortN ll k) ∧ Below w.heap.size w wr) (fun _ i _ => ll.length - (intOf i).toNat)
  case atStart => exact ⟨0, 6000, Nat.zero_le _, rfl, rfl, by omega, by omega, Lib.hid (fun i _ h => by omega), Below.refl _ _⟩
  case round =>
    obtain ⟨k, m, hk, rfl, rfl, hm1, hm2, HN, hbw⟩ := hrel
    have HBW := Lib.hid hbw
    clear hbw
    by_cases hlt : k < ll.length
    · by_cases h100 : k ≤ 100
      · by_cases h0 : 0 ≤ m
        · obtain ⟨b, off, Au, cu, rfl, hc, hcu, hrow⟩ := (HR.out.below HBW.out) k _ (List.getElem?_eq_getElem hlt)
          have hsk := HS.out ll[k] (List.getElem_mem hlt)
          have HF := Lib.hid (few_any ll[k] Au cu 300 3000 wr hrow hsk.2 hsk.1 (by omega) (by omega))
          have HNX := Lib.hid (HN.out.next hlt)
          obtain ⟨l, hle⟩ : ∃ l, l = ll[k] := ⟨_, rfl⟩
          simp only [← hle] at hc HF hrow HNX hcu hsk
          have HC := Lib.hid hc
          have HRW := Lib.hid hrow
          have hll := hsk.1
          clear hle hrow hsk
          go_wp2_with fail
          refine HF.out.mono ?_
          rintro e w2 ⟨q, rfl, hq, hb2⟩
          have HB2 := Lib.hid (below_chain HBW.out hb2)
          have HRW2 := Lib.hid (HRW.out.below hb2)
          have hc2 : w2.cell? ⟨b, off + k, none⟩ = _ := (hb2.cell (lt_of_cell HC.out)).trans HC.out
          clear hb2 hc
          rcases q with _ | _
          · clear hc2 hq
            go_wp2_with fail
            go_ret
            exact ⟨_, rfl, fun h => by simp at h, HB2.out⟩
          · have hwl := (hq rfl).2
            have HNX2 := Lib.hid (HNX.out (by omega))
            clear hq
            have HC2 := Lib.hid hc2
            clear hc2
            go_wp2_with fail
            go_loopw [3, 5] (fun n i wr => ∃ (k2 : Nat) (m2 : Int), k2 ≤ l.length ∧ i = .int .i64 k2 ∧ n = .int .i64 m2 ∧ m2 ≤ 6000 ∧ Hid (m + 1 - wireL (l.take k2) = m2) ∧ Below w2.heap.size w2 wr) (fun _ i _ => l.length - (intOf i).toNat)
            case atStart => exact ⟨0, m, Nat.zero_le _, rfl, rfl, by omega, Lib.hid (by simp [wireL]), Below.refl _ _⟩
            case round =>
              obtain ⟨k2, m2, hk2, rfl, rfl, hm21, HM, hbw2⟩ := hrel
              have hc3 : wr.cell? ⟨b, off + k, none⟩ = _ := (hbw2.cell (lt_of_cell HC2.out)).trans HC2.out
              by_cases hlt2 : k2 < l.length
              · obtain ⟨b2, off2, rfl, hc4⟩ := labV_at (HRW2.out.below hbw2) hlt2
                have hsz := str_size l[k2]
                have htk := wireL_take hlt2
                have hle := wireL_take_le l (k2 + 1)
                have hle0 := wireL_take_le l k2
                have hmm := HM.out
                have hmin : 1 ≤ wireL (l.take k2) := by cases l.take k2 <;> simp [wireL] <;> omega
                have HM2 : Hid (m + 1 - wireL (l.take (k2 + 1)) = m2 - 1 - l[k2].length) := Lib.hid (by omega)
                have hlk : l[k2].length ≤ 3301 := by omega
                have hnx : -4000 ≤ m2 - 1 - l[k2].length := by omega
                clear htk hle hle0 hmm hmin
                obtain ⟨sk, hsk⟩ : ∃ sk, sk = ByteArray.mk l[k2].toArray := ⟨_, rfl⟩
                obtain ⟨x, hx⟩ : ∃ x, x = l[k2].length := ⟨_, rfl⟩
                rw [← hsk] at hc4 hsz
                rw [← hx] at hsz hlk hnx HM2
                have hszi : (sk.size : Int) = x := by omega
                have HBW2 := Lib.hid hbw2
                clear hsk hx hsz hbw2
                go_wp2_with fail
                go_roundw
                case rel => exact ⟨k2 + 1, m2 - 1 - x, by omega, by go_num, by congr 1, by omega, HM2, HBW2.out⟩
                case measure => simp [intOf]; omega
              · have hk3 : k2 = l.length := by omega
                have hmm := HM.out
                rw [hk3, List.take_length] at hmm
                have hm22 : -4000 ≤ m2 := by omega
                have HBW2 := Lib.hid (below_chain HB2.out hbw2)
                clear hbw2 hmm
                go_wp2_with fail
                go_roundw
                case rel => exact ⟨k + 1, m2, by omega, by go_num, rfl, by omega, by omega, HNX2, HBW2.out⟩
                case measure => simp [intOf]; omega
        · by_cases h1 : ll.length ≤ 100
          · go_wp2_with fail
            go_ret
            exact ⟨_, rfl, fun h => by simp at h, HBW.out⟩
          · go_wp2_with fail
            go_ret
            exact ⟨_, rfl, fun h => by simp at h, HBW.out⟩
      · have h1 : ¬ ll.length ≤ 100 := by omega
        go_wp2_with fail
        go_ret
        exact ⟨_, rfl, fun h => by simp at h, HBW.out⟩
    · have hk2 : k = ll.length := by omega
      have HA := Lib.hid (HN.out.all hk2)
      by_cases h1 : ll.length ≤ 100
      · by_cases h0 : 0 ≤ m
        · go_wp2_with fail
          go_ret
          exact ⟨_, rfl, fun _ => ⟨h1, HA.out⟩, HBW.out⟩
        · go_wp2_with fail
          go_ret
          exact ⟨_, rfl, fun h => by simp at h, HBW.out⟩
      · go_wp2_with fail
        go_ret
        exact ⟨_, rfl, fun h => by simp at h, HBW.out⟩
end Go.Proofs.Ytfnpjcfaabbejaa
