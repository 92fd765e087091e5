/-
  The walks of FormatUint at base 10, and of script's unsigned; Itoa. The table internal/strconv.uint64pow10 as its initialiser lays it.
-/
import Derived.Test.YtifmgmiaeoiidaaGreatDoorScrE
import Derived.Test.YtifmgmiaeoiidaaGreatDoorIto
import Derived.Lib.Walk
import Derived.Lib.ItoaMem
import Derived.Lib.AppendIntMem
import Derived.BigCall
import Derived.BigGuard
namespace Go.Proofs.YtifmgmiaeoiidaaGreatDoor
open Go.RowKit Go.Colm Go.Scrp Go.Sort
set_option linter.unusedVariables false

/-- The table of powers of ten lies there. -/
def Tabs (w : World) : Prop := Lib.TabIs Tryz.prog w "internal/strconv.uint64pow10" .u64 Lib.pow10Tab
theorem Tabs.below {w w' : World} (h : Tabs w) (hb : Below w.heap.size w w') : Tabs w' := by
  unfold Tabs Lib.TabIs World.var? at *
  cases hg : Tryz.prog.globalNamed "internal/strconv.uint64pow10" with
  | none => simp [hg] at h
  | some g =>
    simp only [hg, Option.bind_some] at h ⊢
    have hlt : g < w.heap.size := by
      rcases Nat.lt_or_ge g w.heap.size with h' | h'
      · exact h'
      · rw [Array.getElem?_eq_none h'] at h; simp at h
    rw [hb.block g hlt]
    exact h
theorem holds_zero20 (w : World) (T : TypeId) (nd : Nat) (hs : nd ≤ 24) : Holds (fun (b : UInt8) => Value.int .u8 (b.toNat : Int)) (w.alloc (.cells Lib.zeros24 T)) w.heap.size 0 (Array.replicate nd (0 : UInt8)) := fun j hj => by
  have hj' : j < nd := by simpa using hj
  refine ⟨?_, World.frozen?_alloc_new _ _ _ _⟩
  rw [World.cell?_alloc_new, Nat.zero_add, Lib.zeros24_at _ (by omega), getElem!_pos _ j hj]
  simp
theorem fin_zero (w : World) (o : Obj) (dk : Array UInt8) (k : Nat) : Below w.heap.size w ((putRow (fun (b : UInt8) => Value.int .u8 (b.toNat : Int)) (w.alloc o) w.heap.size 0 dk).drewN k) := by
  rw [alloc_eq_grow]
  obtain ⟨os', _, e⟩ := putRow_grow_new (fun (b : UInt8) => Value.int .u8 (b.toNat : Int)) w #[o] w.heap.size 0 dk (Nat.le_refl _)
  rw [e]
  have := Lib.below_grow w.heap.size w (Nat.le_refl _) k os'
  exact this

set_option maxHeartbeats 6400000 in
set_option maxRecDepth 100000 in
theorem ifuint_any (u : Nat) (hu64 : u < 18446744073709551616) (w : World) (ht : Tabs w) :
    Calls Tryz.prog 86 #[.int .u64 u, .int .i64 10] w fun e w' => e = .returned (.string ⟨(Lib.decDigits u).toArray⟩) ∧ Below w.heap.size w w' := by
  by_cases hs : u < 100
  · have hsm := fun W => Any.internal_strconv_small smaLays u hs W
    have HSM : Hid (∀ W, Calls Tryz.prog 99 #[.int .i64 u] W fun e w' => e = .returned (.string ⟨(Lib.decDigits u).toArray⟩) ∧ w' = W) := Lib.hid hsm
    clear hsm
    go_enter Tryz.func86, Tryz.ntmps86
    go_wp2_with fail
    refine (HSM.out _).mono ?_
    rintro e w2 ⟨rfl, hw2⟩
    rw [hw2]
    go_wp2_with fail
    go_ret
    exact ⟨rfl, Below.refl _ _⟩
  · have hu1 : 1 ≤ u := by omega
    have hnd20 : Lib.nDigits u ≤ 20 := by have := Lib.numDigits_eq u hu1 hu64; split at this <;> omega
    have hal : Tryz.prog.arrayLen 143 = 24 := by simp [Program.arrayLen, Tryz.underlying143]
    have hsl2 : ∀ W, (Instr.sliceAt 143 (.pointer (some ⟨w.heap.size, 0, none⟩)) none (some (.int .i64 (Lib.nDigits u : Int))) none).run Tryz.prog W = .ok (.slice (some ⟨w.heap.size, 0, none⟩) (Lib.nDigits u) 24) W := fun W => by
      rw [run_sliceAt_array_h W 143 ⟨w.heap.size, 0, none⟩ (by simp [Program.arrayLen, Program.elem, Tryz.underlying143]) .i64 (Lib.nDigits u : Int) (by omega) (by rw [hal]; omega)]
      go_simp
    have hH0 := holds_zero20 w 143 (Lib.nDigits u) (by omega)
    have hfmt := Any.internal_strconv_formatBase10 fmbLays w.heap.size 0 24 u (Array.replicate (Lib.nDigits u) 0) (w.alloc (.cells Lib.zeros24 143)) hH0 (by rw [Array.size_replicate]; exact Lib.lt_pow_nDigits u) hu64 (by rw [Array.size_replicate]; omega)
    rw [Array.size_replicate] at hfmt
    have hnum := Any.internal_strconv_numDigits nudLaysM u hu1 hu64 (w.alloc (.cells Lib.zeros24 143)) (Lib.tabIs_alloc ht _)
    have HH0 := Lib.hid hH0
    have HFMT : Hid (Calls Tryz.prog 101 #[.slice (some ⟨w.heap.size, 0, none⟩) (Lib.nDigits u) 24, .int .u64 u] (w.alloc (.cells Lib.zeros24 143)) fun e w' => e = .returned (.tuple #[]) ∧ ∃ (n v' : Nat) (dk : Array UInt8), w' = (putRow (fun (b : UInt8) => Value.int .u8 (b.toNat : Int)) (w.alloc (.cells Lib.zeros24 143)) w.heap.size 0 dk).drewN n ∧ Lib.FmtInv (Lib.nDigits u) u 0 v' dk) := Lib.hid hfmt
    have HNUM : Hid (Calls Tryz.prog 100 #[.int .u64 u] (w.alloc (.cells Lib.zeros24 143)) fun e w' => e = .returned (.int .i64 (Lib.nDigits u)) ∧ w' = (w.alloc (.cells Lib.zeros24 143))) := Lib.hid hnum
    clear hH0 hal hfmt hnum
    go_enter Tryz.func86, Tryz.ntmps86
    go_wp2_with fail
    refine HNUM.out.mono ?_
    rintro e w2 ⟨rfl, hw2⟩
    rw [hw2]
    clear hw2 w2
    go_wp2_with fail
    refine HFMT.out.mono ?_
    rintro e w3 ⟨rfl, k, v', dk, hw3, hF⟩
    have hcv : (convert 44 9 (.slice (some ⟨w.heap.size, 0, none⟩) (Lib.nDigits u) 24)).run Tryz.prog w3 = .ok (.string ⟨(Lib.decDigits u).toArray⟩) w3 := by
      have h := run_convert_bytes_back (P := Tryz.prog) w3 44 9 5 ⟨w.heap.size, 0, none⟩ 24 (Lib.decDigits u) Tryz.underlying44 Tryz.underlying5 Tryz.underlying9 (fun j hj => by
        rw [Lib.row_is_numeral hF j hj, Lib.add_plain, hw3, World.cell?_drewN]
        exact cell?_putRow (fun (b : UInt8) => Value.int .u8 (b.toNat : Int)) _ w.heap.size 0 _ dk HH0.out (by rw [hF.size, Array.size_replicate]) j (by rw [hF.size]; rw [Lib.decDigits_length] at hj; exact hj))
      rw [Lib.decDigits_length] at h
      exact h
    have HB3 : Hid (Below w.heap.size w w3) := Lib.hid (by rw [hw3]; exact fin_zero w _ dk k)
    clear hw3 hF
    go_wp2_with fail
    go_ret
    exact ⟨rfl, HB3.out⟩

theorem fuint_any (u : Nat) (hu64 : u < 18446744073709551616) (w : World) (ht : Tabs w) :
    Calls Tryz.prog 61 #[.int .u64 u, .int .i64 10] w fun e w' => e = .returned (.string ⟨(Lib.decDigits u).toArray⟩) ∧ Below w.heap.size w w' := by
  have H := Lib.hid (ifuint_any u hu64 w ht)
  go_enter Tryz.func61, Tryz.ntmps61
  go_wp2_with fail
  refine H.out.mono ?_
  rintro e w2 ⟨rfl, hb⟩
  go_wp2_with fail
  go_ret
  exact ⟨rfl, hb⟩
theorem unsigned_any (u : Nat) (hu64 : u < 18446744073709551616) (w : World) (ht : Tabs w) :
    Calls Tryz.prog 45 #[.int .u64 u] w fun e w' => e = .returned (.string ⟨(Lib.decDigits u).toArray⟩) ∧ Below w.heap.size w w' := by
  have H := Lib.hid (fuint_any u hu64 w ht)
  go_enter Tryz.func45, Tryz.ntmps45
  go_wp2_with fail
  refine H.out.mono ?_
  rintro e w2 ⟨rfl, hb⟩
  go_wp2_with fail
  go_ret
  exact ⟨rfl, hb⟩
theorem itoa_any (n : Int) (h0 : -9223372036854775808 ≤ n) (h1 : n ≤ 9223372036854775807) (w : World) (ht : Tabs w) :
    Calls Tryz.prog 47 #[.int .i64 n] w fun e w' => e = .returned (.string ⟨(Lib.itoa n).toArray⟩) ∧ Below w.heap.size w w' := by
  refine (Any.strconv_Itoa itoLaysM n h0 h1 w ht).mono ?_
  rintro e w' ⟨rfl, k, os, rfl⟩
  exact ⟨rfl, Lib.below_grow w.heap.size w (Nat.le_refl _) k os⟩
end Go.Proofs.YtifmgmiaeoiidaaGreatDoor
