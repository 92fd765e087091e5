/-
  The walks of layer script's kind and key: of a line's words. No more than 2^32 words of 2^32 bytes.
-/
import Derived.Test.YtifmgmiaeoiidaaGreatDoorScrX
import Derived.Test.YtifmgmiaeoiidaaGreatDoorScrG
import Derived.Test.YtifmgmiaeoiidaaGreatDoorScrE
import Derived.Laws.ResultCell
namespace Go.Scrp
/-- The kind of step that a line's words are of; 0: of none. -/
def matchK (ws : List (List UInt8)) (k : Nat) : Bool := decide ((spellT k).1 = ws.getD 0 []) && decide ((spellT k).2 = ws.length)
def kindFrom (ws : List (List UInt8)) : Nat → Nat → Nat
  | 0, _ => 0
  | f + 1, k => if matchK ws k = true then k else kindFrom ws f (k + 1)
def kindL (ws : List (List UInt8)) : Nat := kindFrom ws 8 1
theorem kindFrom_le (ws : List (List UInt8)) : ∀ f k, kindFrom ws f k < k + f + 1
  | 0, k => by simp [kindFrom]
  | f + 1, k => by
    have := kindFrom_le ws f (k + 1)
    rw [kindFrom]
    split <;> omega
theorem kindL_le (ws : List (List UInt8)) : kindL ws ≤ 8 := by
  have := kindFrom_le ws 8 1
  unfold kindL
  by_cases h : kindFrom ws 8 1 = 9
  · exfalso
    have key : ∀ f k, kindFrom ws f k < k + f ∨ kindFrom ws f k = 0 := by
      intro f
      induction f with
      | zero => intro k; right; rfl
      | succ f ih =>
        intro k
        rw [kindFrom]
        split
        · left; omega
        · rcases ih (k + 1) with h | h
          · left; omega
          · right; exact h
    rcases key 8 1 with h2 | h2 <;> omega
  · omega
theorem kindFrom_match {ws : List (List UInt8)} : ∀ {f k}, kindFrom ws f k ≠ 0 → matchK ws (kindFrom ws f k) = true
  | 0, k, h => absurd rfl h
  | f + 1, k, h => by
    rw [kindFrom] at h ⊢
    split
    · rename_i e
      exact e
    · rename_i e
      rw [if_neg e] at h
      exact kindFrom_match h
/-- The words of a step's kind are as many as that kind's line has. -/
theorem kind_many {ws : List (List UInt8)} (h : kindL ws ≠ 0) : (spellT (kindL ws)).2 = ws.length ∧ (spellT (kindL ws)).1 = ws.getD 0 [] := by
  have : matchK ws (kindL ws) = true := kindFrom_match h
  unfold matchK at this
  simp at this
  exact ⟨this.2, by simpa using this.1⟩
end Go.Scrp
namespace Go.Proofs.YtifmgmiaeoiidaaGreatDoor
open Go.RowKit Go.Colm Go.Scrp
set_option linter.unusedVariables false

theorem results_cell_row2 {P : Program} {fn : Func} {p u : Tmp} {ty : TypeId} (h : fn.results = #[.cell p ty, .tmp u]) (tmps : Array Value) (w : World) (g : Nat) (t : TypeId) (cs : Array Value) (fr : Nat × Nat) (d : TypeDesc)
    (hp : tmps.getD p undef = .pointer (some ⟨g, 0, none⟩)) (hg : w.heap[g]? = some (.cells cs t fr))
    (hu : P.underlying ty = some d) (hd : (match d with | .struct _ | .array _ _ => true | _ => false) = true) (hi : (P.info? ty).map (·.size) = some cs.size) :
    (results fn tmps).run P w = .ok (.tuple #[.agg cs, tmps.getD u undef]) w := by
  rw [results_cell_tmp h, hp]
  simp [asAddr, run_loadVar_row w g t ty cs fr d hg hu hd hi, Result.andThen]
theorem numV_lt (s : List UInt8) : numV s < 18446744073709551616 := by
  unfold numV
  split
  · rename_i u e
    have := Lib.parseUintB_le e
    omega
  · omega
  · omega

set_option maxRecDepth 100000 in
set_option maxHeartbeats 4000000 in
theorem kind_any (ws : List (List UInt8)) (A : Option Addr) (c : Nat) (w : World) (h0 : 0 < ws.length) (hr : RowV w A (txtV ws)) :
    Calls Tryz.prog 73 #[.slice A ws.length c] w fun e w' => e = .returned (.int .i64 (kindL ws : Nat)) ∧ w' = w := by
  obtain ⟨bA, offA, rfl, hcell⟩ := hr 0 (.string ⟨ws[0].toArray⟩) (by simp [txtV, h0])
  rw [Nat.add_zero] at hcell
  obtain ⟨X, hX⟩ : ∃ X : ByteArray, X = ⟨ws[0].toArray⟩ := ⟨_, rfl⟩
  rw [← hX] at hcell
  have hm : ∀ k : Nat, matchK ws k = (((ByteArray.mk (spellT k).1.toArray).toList == X.toList) && decide ((spellT k).2 = ws.length)) := fun k => by
    rw [hX, str_beq, matchK, List.getD_eq_getElem?_getD, List.getElem?_eq_getElem h0]
    rfl
  have HM := Lib.hid hm
  have HSP := Lib.hid fun (k : Nat) W => spelled_any (k : Int) W
  clear hm hX hr
  go_enter Tryz.func73, Tryz.ntmps73
  go_wp2_with fail
  go_loopw [3] (fun i wr => ∃ k : Nat, 1 ≤ k ∧ k ≤ 9 ∧ i = .int .i64 k ∧ Hid (kindL ws = kindFrom ws (9 - k) k) ∧ wr = w) (fun i _ => 9 - (intOf i).toNat)
  case atStart => exact ⟨1, by omega, by omega, rfl, Lib.hid rfl, rfl⟩
  case round =>
    obtain ⟨k, hk1, hk9, rfl, HK, rfl⟩ := hrel
    by_cases hlt : k ≤ 8
    · have hks : kindFrom ws (9 - k) k = if matchK ws k = true then k else kindFrom ws (9 - (k + 1)) (k + 1) := by
        rw [show 9 - k = (9 - (k + 1)) + 1 by omega, kindFrom]
      have hsk := HSP.out k wr
      obtain ⟨sn, hsn⟩ : ∃ sn : ByteArray, sn = ⟨(spellT k).1.toArray⟩ := ⟨_, rfl⟩
      obtain ⟨sm, hsm⟩ : ∃ sm : Nat, sm = (spellT k).2 := ⟨_, rfl⟩
      have hmk := HM.out k
      rw [← hsn, ← hsm] at hmk hsk
      have HSK := Lib.hid hsk
      have HKS := Lib.hid hks
      have HMK := Lib.hid hmk
      clear hsk hks hmk hsn hsm
      cases hq : (sn.toList == X.toList)
      · have HN : Hid (kindL ws = kindFrom ws (9 - (k + 1)) (k + 1)) := Lib.hid (by rw [HK.out, HKS.out, HMK.out, hq]; rfl)
        go_wp2_with fail
        refine HSK.out.mono ?_
        rintro e w2 ⟨rfl, rfl⟩
        go_wp2_with fail
        go_roundw
        case rel => exact ⟨k + 1, by omega, by omega, by go_num, HN, by first | rfl | trivial⟩
        case measure => simp [intOf]; omega
      · by_cases hl : sm = ws.length
        · have t1 : ((sm : Int) == (ws.length : Int)) = true := by rw [hl]; simp
          have HN : Hid (kindL ws = k) := Lib.hid (by rw [HK.out, HKS.out, HMK.out, hq, decide_eq_true hl]; rfl)
          clear hl
          go_wp2_with fail
          refine HSK.out.mono ?_
          rintro e w2 ⟨rfl, rfl⟩
          go_wp2_with fail
          go_ret
          exact ⟨by rw [HN.out]; rfl, rfl⟩
        · have t1 : ((sm : Int) == (ws.length : Int)) = false := by
            rw [beq_eq_false_iff_ne]
            omega
          have HN : Hid (kindL ws = kindFrom ws (9 - (k + 1)) (k + 1)) := Lib.hid (by rw [HK.out, HKS.out, HMK.out, hq, decide_eq_false hl]; rfl)
          clear hl
          go_wp2_with fail
          refine HSK.out.mono ?_
          rintro e w2 ⟨rfl, rfl⟩
          go_wp2_with fail
          go_roundw
          case rel => exact ⟨k + 1, by omega, by omega, by go_num, HN, by first | rfl | trivial⟩
          case measure => simp [intOf]; omega
    · have hk : k = 9 := by omega
      subst hk
      have HN : Hid (kindL ws = 0) := Lib.hid HK.out
      go_wp2_with fail
      go_ret
      exact ⟨by rw [HN.out]; rfl, rfl⟩

/-- unword's answer in one word. -/
theorem unword_one (s : List UInt8) (w : World) (hs : s.length ≤ 549755813888) :
    Calls Tryz.prog 8 #[.string ⟨s.toArray⟩] w fun e w' => e = .returned (.tuple #[.string ⟨((unwordL s).getD []).toArray⟩, .bool (unwordL s).isSome]) ∧ Below w.heap.size w w' := by
  refine (unword_any ⟨s.toArray⟩ w (by rw [str_size]; exact hs)).mono ?_
  have hd : (ByteArray.mk s.toArray).data.toList = s := by simp
  rintro e w' ⟨h1, h2, hb⟩
  rw [hd] at h1 h2
  cases h : unwordL s with
  | none => exact ⟨h1 h, hb⟩
  | some b => exact ⟨h2 b h, hb⟩

set_option maxRecDepth 100000 in
set_option maxHeartbeats 4000000 in
theorem key_any (a b : List UInt8) (r : List (List UInt8)) (A : Option Addr) (n c : Nat) (w : World) (E : Env w) (hn : n = r.length + 2) (ha : a.length ≤ 4294967296) (hb : b.length ≤ 4294967296) (hr : RowV w A (txtV (a :: b :: r))) :
    Calls Tryz.prog 74 #[.slice A n c] w fun e w' => e = .returned (.tuple #[.agg #[.string ⟨((unwordL a).getD []).toArray⟩, .int .u16 (numV b % 65536 : Nat)], .bool ((unwordL a).isSome && (numL b 65535).isSome)]) ∧ Below w.heap.size w w' := by
  obtain ⟨bA, offA, rfl, c0⟩ := hr 0 (.string ⟨a.toArray⟩) rfl
  obtain ⟨bA', offA', e1, c1⟩ := hr 1 (.string ⟨b.toArray⟩) rfl
  cases e1
  rw [Nat.add_zero] at c0
  have hlb := lt_of_cell c0
  dsimp only at hlb
  have hun : ∀ W, Calls Tryz.prog 8 #[.string ⟨a.toArray⟩] W fun e w' => e = .returned (.tuple #[.string ⟨((unwordL a).getD []).toArray⟩, .bool (unwordL a).isSome]) ∧ Below W.heap.size W w' := fun W => unword_one a W (by omega)
  have hnu : ∀ W, Env W → Calls Tryz.prog 77 #[.string ⟨b.toArray⟩, .int .u64 65535] W fun e w' => e = .returned (.tuple #[.int .u64 (numV b : Nat), .bool (numL b 65535).isSome]) ∧ Below W.heap.size W w' := fun W E' => number_any b 65535 W E' (by omega)
  have hnb : numV b < 18446744073709551616 := numV_lt b
  obtain ⟨un, hun'⟩ : ∃ x : ByteArray, x = ⟨((unwordL a).getD []).toArray⟩ := ⟨_, rfl⟩
  obtain ⟨nv, hnv⟩ : ∃ x, x = numV b := ⟨_, rfl⟩
  obtain ⟨q1, hq1⟩ : ∃ x, x = (unwordL a).isSome := ⟨_, rfl⟩
  obtain ⟨q2, hq2⟩ : ∃ x, x = (numL b 65535).isSome := ⟨_, rfl⟩
  simp only [← hun', ← hnv, ← hq1, ← hq2] at hun hnu ⊢
  rw [← hnv] at hnb
  have hwn2 : ((nv : Int) % 65536) = ((nv % 65536 : Nat) : Int) := by omega
  have HUN := Lib.hid hun
  have HNU := Lib.hid hnu
  have HC1 : Hid (∀ W, Below w.heap.size w W → W.cell? ⟨bA, offA + 1, none⟩ = some (.string ⟨b.toArray⟩)) := Lib.hid fun W hb => (hb.cell (p := ⟨bA, offA + 1, none⟩) hlb).trans c1
  have HX0 : Hid (Whole (w.alloc (.cells #[.string ⟨#[]⟩, .int .u16 0] 43)) w.heap.size 43 #[.string ⟨#[]⟩, .int .u16 0]) := Lib.hid (Whole.new _ _ _)
  have HB0 : Hid (Below w.heap.size w (w.alloc (.cells #[.string ⟨#[]⟩, .int .u16 0] 43))) := Lib.hid ((Below.refl _ _).alloc (Nat.le_refl _) _)
  have hn2 : 2 ≤ n := by omega
  have HE := Lib.hid E
  have d0 : (w.alloc (.cells #[.string ⟨#[]⟩, .int .u16 0] 43)).cell? ⟨bA, offA, none⟩ = some (.string ⟨a.toArray⟩) := (HB0.out.cell (p := ⟨bA, offA, none⟩) hlb).trans c0
  clear hun hnu hr c1 hun' hnv hq1 hq2 hn ha hb E hlb
  go_enter Tryz.func74, Tryz.ntmps74
  go_wp2_with fail
  refine (HUN.out _).mono ?_
  rintro e w2 ⟨rfl, hb2⟩
  have HB2 := Lib.hid (HB0.out.trans (hb2.mono HB0.out.size))
  have HX2 := Lib.hid ((hb2.block _ HX0.out.lt).trans HX0.out)
  have d1 := HC1.out _ HB2.out
  clear hb2
  go_wp2_with fail
  refine (HNU.out _ (HE.out.below HB2.out)).mono ?_
  rintro e w3 ⟨rfl, hb3⟩
  have HB3 := Lib.hid (below_chain HB2.out hb3)
  have hX3 : Whole w3 w.heap.size 43 #[.string ⟨#[]⟩, .int .u16 0] := (hb3.block _ (Whole.lt HX2.out)).trans HX2.out
  have HX3 := Lib.hid hX3
  have f0 := hX3.frozen 0
  have f1 := hX3.frozen 1
  have x0 := hX3.cell 0
  have x1 := hX3.cell 1
  clear hb3 hX3 d1 c0
  cases q1
  · go_wp2_with fail
    refine bodyPost_ret (results_cell_row2 rfl _ _ w.heap.size 43 #[.string un, .int .u16 (nv % 65536 : Nat)] (0, 0) _ rfl ?hw Tryz.underlying43 rfl (by kernel_rfl)) rfl ?_
    case hw => exact (HX3.out.put 0 _).put 1 _
    exact ⟨rfl, (HB3.out.setCell (p := ⟨w.heap.size, 0, none⟩) (Nat.le_refl _) _).setCell (p := ⟨w.heap.size, 1, none⟩) (Nat.le_refl _) _⟩
  · go_wp2_with fail
    refine bodyPost_ret (results_cell_row2 rfl _ _ w.heap.size 43 #[.string un, .int .u16 (nv % 65536 : Nat)] (0, 0) _ rfl ?hw Tryz.underlying43 rfl (by kernel_rfl)) rfl ?_
    case hw => exact (HX3.out.put 0 _).put 1 _
    exact ⟨rfl, (HB3.out.setCell (p := ⟨w.heap.size, 0, none⟩) (Nat.le_refl _) _).setCell (p := ⟨w.heap.size, 1, none⟩) (Nat.le_refl _) _⟩
end Go.Proofs.YtifmgmiaeoiidaaGreatDoor
