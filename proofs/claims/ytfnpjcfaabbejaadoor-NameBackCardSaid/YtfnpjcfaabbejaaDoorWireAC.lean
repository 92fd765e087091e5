/-
  The walk of the reference's Few (layer name): what it says of few texts, and short ones. Texts of any length that a machine has.
-/
import Derived.Test.YtfnpjcfaabbejaaDoorWireA
import Derived.Lib.MinMax
namespace Go.Proofs.YtfnpjcfaabbejaaDoor
open Go.RowKit Go.Foldp Go.Colm Go.Wirep
set_option linter.unusedVariables false

/-- What Few answers: true just of few texts, and short ones. -/
def FewIt (w : World) (l : List (List UInt8)) (most bytes : Int) (e : Ending) (w' : World) : Prop :=
  ∃ q : Bool, e = .returned (.bool q) ∧ (q = true → (l.length : Int) ≤ most ∧ (wireL l : Int) ≤ bytes + 1 + most) ∧ Below w.heap.size w w'
/-- Label by label: while the sum is small, it is all that the labels have. -/
def FewN (l : List (List UInt8)) (bytes : Int) (n k : Nat) : Prop := (n : Int) ≤ bytes → wireL (l.take k) = n + 1 + k
theorem FewN.zero (l : List (List UInt8)) (bytes : Int) : FewN l bytes 0 0 := fun _ => by simp [wireL]
theorem FewN.next {l : List (List UInt8)} {bytes : Int} {n k : Nat} (h : FewN l bytes n k) (hb : bytes < 90000) (hk : k < l.length) : FewN l bytes (n + min l[k].length 99999) (k + 1) := fun hle => by
  have := h (by omega)
  rw [wireL_take hk]
  omega
set_option maxRecDepth 100000 in
set_option maxHeartbeats 1600000 in
theorem few_any (l : List (List UInt8)) (A : Option Addr) (c : Nat) (most bytes : Int) (w : World) (hr : RowV w A (labV l)) (hs : ∀ s ∈ l, s.length ≤ 9223372036854775807) (hl : l.length ≤ 9223372036854775807) (hb : 0 ≤ bytes ∧ bytes < 90000) (hm : 0 ≤ most ∧ most < 1099511627776) :
    Calls Tryd.prog 11 #[.slice A l.length c, .int .i64 most, .int .i64 bytes] w (FewIt w l most bytes) := by
  have HR := Lib.hid hr
  have HS := Lib.hid hs
  clear hr hs
  obtain ⟨hb1, hb2⟩ := hb
  obtain ⟨hm1, hm2⟩ := hm
  go_enter Tryd.func11, Tryd.ntmps11
  go_wp2_with fail
  go_loopw [7, 8] (fun n i wr => ∃ k n' : Nat, k ≤ l.length ∧ i = .int .i64 k ∧ n = .int .i64 n' ∧ Hid (FewN l bytes n' k) ∧ (n' : Int) < 200000 ∧ Below w.heap.size w wr) (fun _ i _ => l.length - (intOf i).toNat)
  case atStart => exact ⟨0, 0, Nat.zero_le _, rfl, rfl, Lib.hid (FewN.zero _ _), by omega, Below.refl _ _⟩
  case round =>
    obtain ⟨k, n', hk, rfl, rfl, HN, hn, hbw⟩ := hrel
    by_cases hlt : k < l.length
    · by_cases hnb : (n' : Int) ≤ bytes
      · obtain ⟨b, off, rfl, hc⟩ := labV_at (HR.out.below hbw) hlt
        have hsz := str_size l[k]
        have hsl := HS.out l[k] (List.getElem_mem hlt)
        have HN2 := Lib.hid (HN.out.next hb2 hlt)
        obtain ⟨sk, hsk⟩ : ∃ sk, sk = ByteArray.mk l[k].toArray := ⟨_, rfl⟩
        rw [← hsk] at hc hsz
        obtain ⟨m, hm⟩ : ∃ m, m = l[k].length := ⟨_, rfl⟩
        rw [← hm] at hsz HN2 hsl
        have hszi : (sk.size : Int) = m := by omega
        clear hsk hm hsz
        have HBW := Lib.hid hbw
        clear hbw
        go_wp2_with fail
        go_roundw
        case rel => exact ⟨k + 1, n' + (min m 99999), by omega, by go_num, by congr 1; omega, HN2, by omega, HBW.out⟩
        case measure => simp [intOf]; omega
      · by_cases h1 : (l.length : Int) ≤ most
        · go_wp2_with fail
          go_ret
          exact ⟨_, rfl, fun h => by simp at h, hbw⟩
        · go_wp2_with fail
          go_ret
          exact ⟨_, rfl, fun h => by simp at h, hbw⟩
    · have hk2 : k = l.length := by omega
      have HN2 : Hid (FewN l bytes n' l.length) := Lib.hid (hk2 ▸ HN.out)
      have HBW := Lib.hid hbw
      clear hbw
      by_cases h1 : (l.length : Int) ≤ most
      · by_cases h2 : (n' : Int) ≤ bytes
        · go_wp2_with fail
          go_ret
          exact ⟨_, rfl, fun _ => ⟨h1, by have := HN2.out h2; rw [List.take_length] at this; omega⟩, HBW.out⟩
        · go_wp2_with fail
          go_ret
          exact ⟨_, rfl, fun h => by simp at h, HBW.out⟩
      · go_wp2_with fail
        go_ret
        exact ⟨_, rfl, fun h => by simp at h, HBW.out⟩
end Go.Proofs.YtfnpjcfaabbejaaDoor
