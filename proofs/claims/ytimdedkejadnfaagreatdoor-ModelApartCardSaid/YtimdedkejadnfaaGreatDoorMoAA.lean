/-
  The walk of the statement's example: means() of law 32. No condition but what the world holds from the start.
-/
import Derived.Test.YtimdedkejadnfaaGreatDoorMoZ
import Derived.Lib.SlBytesConst
namespace Go.Proofs.YtimdedkejadnfaaGreatDoor
open Go.RowKit Go.Foldp Go.Colm Go.Wirep Go.Maps
set_option linter.unusedVariables false
set_option linter.unusedSimpArgs false
set_option linter.unusedSectionVars false

/-- None of a model's own blocks is as old as a world. -/
def Old (w : World) (L : Lay) : Prop := ∀ k, k < w.heap.size → ¬ Own L k
theorem old_of {w : World} {L : Lay} (h : ∀ k, L.G k ≠ none → w.heap.size ≤ k ∨ k = 0 ∨ k = 1) : Old w L := fun k hk ho => by
  rcases h k ho.1 with h1 | h1 | h1
  · omega
  · exact ho.2.1 h1
  · exact ho.2.2 h1
theorem Goes.old {L L' : Lay} {M M' : Mod} {w w1 w' : World} (h : Goes L M w1 L' M' w') (ho : Old w L) (hw : w.heap.size ≤ w1.heap.size) : Old w L' := fun k hk h1 => by
  rcases h.grow k h1.1 with h4 | h4
  · exact ho k hk ⟨h4, h1.2⟩
  · omega
theorem Goes.bel {L L' : Lay} {M M' : Mod} {w w1 w' : World} (h : Goes L M w1 L' M' w') (ho : Old w L) (hb : Below w.heap.size w w1) : Below w.heap.size w w' := hb.trans (h.kept0.to_below hb.size ho)

set_option maxRecDepth 100000 in
set_option maxHeartbeats 6400000 in
theorem means_any (w : World) (hs : Sz w) (hm : MaxL w) : Calls Tryz.prog 6 #[] w fun e w' => e = .returned (.bool true) ∧ Below w.heap.size w w' := by
  have hnew := new_7 w hs hm
  have HNW := Lib.hid hnew
  clear hnew hs hm
  go_enter Tryz.func6, Tryz.ntmps6
  go_wp2_with fail
  refine HNW.out.mono ?_
  rintro e w1 ⟨L, rfl, hhas, hown, hb1⟩
  have HH := Lib.hid hhas
  have HOLD := Lib.hid (old_of hown)
  have HB1 := Lib.hid hb1
  clear hhas hb1 hown
  have kc := fun (w : World) (C : Array Value) (n c : Nat) => Lib.run_convert_bytes_const (P := Tryz.prog) w 31 5 C n c Tryz.underlying31 Tryz.underlying5
  go_upto_region 3 with fail
  obtain ⟨w2, hw2⟩ : ∃ w2, w2 = w1.alloc (.cells #[.string ⟨#[65, 46, 98]⟩, .int .u16 1] 34) := ⟨_, rfl⟩
  obtain ⟨kb, hkb⟩ : ∃ kb, kb = w1.heap.size := ⟨_, rfl⟩
  rw [← hw2, ← hkb]
  have hb2 : Below w1.heap.size w1 w2 := by rw [hw2]; exact (Below.refl _ _).alloc (Nat.le_refl _) _
  have hk2 : Whole w2 kb 34 #[.string ⟨#[65, 46, 98]⟩, .int .u16 1] := by rw [hw2, hkb]; exact Whole.new _ _ _
  have h2 := HH.out.below hb2
  have hkn : L.G kb = none := by rw [hkb]; exact HH.out.none_new (Nat.le_refl _)
  -- the record
  obtain ⟨w3, hw3⟩ : ∃ w3, w3 = w2.alloc (.cells #[.int .u8 120] 5 (1, 2)) := ⟨_, rfl⟩
  have hb3 : Below w2.heap.size w2 w3 := by rw [hw3]; exact (Below.refl _ _).alloc (Nat.le_refl _) _
  have hr3 : RowV w3 (some ⟨w2.heap.size, 0, none⟩) (bytesV [120]) := by rw [hw3]; exact RowV.newM w2 _ #[.int .u8 120] (1, 2)
  have hs3 : w3.heap.size = w2.heap.size + 1 := by rw [hw3]; simp
  obtain ⟨w4, hw4⟩ : ∃ w4, w4 = w3.alloc (.cells #[.slice (some ⟨w2.heap.size, 0, none⟩) 1 1] 31) := ⟨_, rfl⟩
  have hb4 : Below w3.heap.size w3 w4 := by rw [hw4]; exact (Below.refl _ _).alloc (Nat.le_refl _) _
  have ho4 : Whole w4 w3.heap.size 31 #[.slice (some ⟨w2.heap.size, 0, none⟩) 1 1] := by rw [hw4]; exact Whole.new _ _ _
  have h4 := h2.below (below_chain hb3 hb4)
  have HB4 := Lib.hid (below_chain HB1.out (below_chain hb2 (below_chain hb3 hb4)))
  have hrec : RecAt (fun k => w2.heap.size ≤ k) w4 (some ⟨w3.heap.size, 0, none⟩) [[120]] := by
    intro i x hx
    obtain rfl : i = 0 := by
      have := (List.getElem?_eq_some_iff.1 hx).1
      simpa using this
    obtain rfl : [120] = x := by simpa using hx
    exact ⟨w3.heap.size, 0, _, 1, rfl, by omega, ho4.cell 0, hr3.below hb4, fun a ha => by cases ha; exact Nat.le_refl _⟩
  have hput := put_ok L (newM 7) w4 _ [65, 46, 98] 1 [[120]] _ 1 5 mX h4 (by decide) (by decide) (by decide) hrec (fun k hk => h2.none_new hk) (by decide) (fun x hx => by simp at hx; subst hx; decide) put_two
  have hput' : Calls Tryz.prog 8 #[.pointer (some ⟨L.xb, 0, none⟩), .agg #[.string ⟨#[65, 46, 98]⟩, .int .u16 1], .slice (some ⟨w3.heap.size, 0, none⟩) 1 1, .int .u64 5] w4 fun e w' => e = .returned (.tuple #[.slice none 0 0, .int .i64 0]) ∧ ∃ L', Goes L (newM 7) w4 L' mX w' := hput
  have HPUT := Lib.hid hput'
  have hkb4 : Whole w3 kb 34 #[.string ⟨#[65, 46, 98]⟩, .int .u16 1] := (hb3.block _ hk2.lt).trans hk2
  have hkb5 : Whole w4 kb 34 #[.string ⟨#[65, 46, 98]⟩, .int .u16 1] := (hb4.block _ hkb4.lt).trans hkb4
  have HKB5 := Lib.hid hkb5
  have HKN := Lib.hid hkn
  have y0 := hk2.cell 0
  have y1 := hk2.cell 1
  simp only [List.getElem?_toArray, List.getElem?_cons_zero, List.getElem?_cons_succ] at y0 y1
  rw [hw4, hw3] at HPUT HKB5 HB4
  rw [show (w2.alloc (.cells #[.int .u8 120] 5 (1, 2))).heap.size = w2.heap.size + 1 by simp] at HPUT
  clear hkb hput hput' hrec h4 ho4 hb4 hr3 hb3 h2 hk2 hb2 hkb4 hkb5 hw2 hs3 hw3 hkn hw4
  go_wp2_with fail
  refine HPUT.out.mono ?_
  rintro e w5 ⟨rfl, L5, hg5⟩
  have HB5 := Lib.hid (hg5.bel HOLD.out HB4.out)
  have HOLD5 := Lib.hid (hg5.old HOLD.out HB4.out.size)
  have hk5 := hg5.kept.whole HKB5.out fun hne => hne HKN.out
  have hx5 : L5.xb = L.xb := hg5.xb
  have hkn5 : L5.G kb = none := hg5.none_at HKN.out HKB5.out.lt
  have hget := get_hit L5 mX w5 [97, 46, 66, 46] 1 0 dX hg5.has (by decide) (by decide) find_two_over find_two (by rfl) (by decide) (fun x hx => by simp [dX] at hx; subst hx; decide)
  rw [hx5] at hget
  have hget' : Calls Tryz.prog 9 #[.pointer (some ⟨L.xb, 0, none⟩), .agg #[.string ⟨#[97, 46, 66, 46]⟩, .int .u16 1]] w5 fun e w' => ∃ v us, e = .returned (.tuple #[v, .int .i64 0]) ∧ RecOwn w5.heap.size w' v us [[120]] ∧ Goes L5 mX w5 L5 mY w' := hget
  have HGET := Lib.hid hget'
  have HK5 := Lib.hid hk5
  have HKN5 := Lib.hid hkn5
  have HX5 := Lib.hid hx5
  have HH5 := Lib.hid hg5.has
  clear hg5 hk5 hkn5 hget hget' HPUT HKB5 HKN HH HNW hx5
  go_wp2_with fail
  refine HGET.out.mono ?_
  rintro e w6 ⟨v, us, rfl, hro, hg6⟩
  have HB6 := Lib.hid (hg6.bel HOLD5.out HB5.out)
  obtain ⟨A6, ev, hra⟩ := hro.at_
  have hra' := hra.kept (Kept.refl (fun _ => False) w6) (fun _ _ h => h)
  have hN : ∀ k, (w5.heap.size ≤ k ∧ k < w6.heap.size) → ¬ (L5.G k ≠ none) := fun k hk hne => by
    have h0 : w5.heap.size ≤ w5.heap.size := Nat.le_refl _
    exact hne (Has.none_new (HH5.out) hk.1)
  have hk6 := hg6.kept.whole HK5.out fun hne => hne HKN5.out
  have htick := tick_one L5 mY w6 3 5 0 dY mT hg6.has (by rfl) (by decide) (by decide) (by rfl) (by rfl) (by rfl) (by rfl) (by decide) rem_two
  rw [HX5.out] at htick
  have htick' : Calls Tryz.prog 16 #[.pointer (some ⟨L.xb, 0, none⟩), .int .u64 5] w6 fun e w' => ∃ A c L', e = .returned (.tuple #[.slice A 1 c, .int .i64 0]) ∧ Goes L5 mY w6 L' mT w' := htick
  have HTK := Lib.hid htick'
  have HRA := Lib.hid hra
  have HN := Lib.hid hN
  have HK6 := Lib.hid hk6
  rw [ev]
  clear hra hra' hN hk6 htick htick' hro hg6 ev HGET HK5
  simp only [List.length_cons, List.length_nil, Nat.zero_add]
  go_wp2_with fail
  refine HTK.out.mono ?_
  rintro e w7 ⟨A7, c7, L7, rfl, hg7⟩
  have HB7 := Lib.hid (hg7.bel HOLD5.out HB6.out)
  have hra7 := HRA.out.kept hg7.kept HN.out
  have hk7 := hg7.kept.whole HK6.out fun hne => hne HKN5.out
  have hx7 : L7.xb = L.xb := hg7.xb.trans HX5.out
  have z0 := hk7.cell 0
  have z1 := hk7.cell 1
  simp only [List.getElem?_toArray, List.getElem?_cons_zero, List.getElem?_cons_succ] at z0 z1
  obtain ⟨hf1, hf2⟩ := find_none ents_two
  have hget := get_miss L7 mT w7 [65, 46, 98] 1 7 hg7.has (by decide) (by decide) hf2 hf1 (by decide)
  rw [hx7] at hget
  have hget' : Calls Tryz.prog 9 #[.pointer (some ⟨L.xb, 0, none⟩), .agg #[.string ⟨#[65, 46, 98]⟩, .int .u16 1]] w7 fun e w' => e = .returned (.tuple #[.slice none 0 0, .int .i64 7]) ∧ Below w7.heap.size w7 w' := hget
  have HGT := Lib.hid hget'
  have HR7 := Lib.hid hra7
  clear hra7 hk7 hx7 hget hget' hg7 hf1 hf2 HTK HRA HN HK6
  go_wp2_with fail
  refine HGT.out.mono ?_
  rintro e w8 ⟨rfl, hb8⟩
  have HB8 := Lib.hid (below_chain HB7.out hb8)
  obtain ⟨b6, o6, Au, cu, eA, _, hc8, hrow8, _⟩ := (HR7.out.below hb8) 0 [120] rfl
  have hct := run_text (P := Tryz.prog) (src := 31) (e := 5) Tryz.underlying31 Tryz.underlying5 w8 Au [120] cu hrow8 (fun a ha => by
    obtain ⟨b, off, e, _⟩ := hrow8 0 _ rfl
    rw [ha] at e
    obtain rfl := Option.some.inj e
    rfl) 9 Tryz.underlying9
  have hct' : (convert 31 9 (.slice Au 1 cu)).run Tryz.prog w8 = .ok (.string ⟨#[120]⟩) w8 := hct
  have hc8' : w8.cell? ⟨b6, o6, none⟩ = some (.slice Au 1 cu) := hc8
  rw [eA]
  clear hct hc8 hrow8 hb8 HGT HR7 eA
  go_wp2_with fail
  go_ret
  exact ⟨rfl, HB8.out⟩
end Go.Proofs.YtimdedkejadnfaaGreatDoor
