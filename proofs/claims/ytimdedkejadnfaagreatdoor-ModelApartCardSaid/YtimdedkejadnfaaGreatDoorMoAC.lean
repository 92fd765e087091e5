/-
  The walk of the law ModelApart. No condition but what the world holds from the start.
-/
import Derived.Test.YtimdedkejadnfaaGreatDoorMoAA
import Derived.Test.YtimdedkejadnfaaGreatDoorMoAB
namespace Go.Proofs.YtimdedkejadnfaaGreatDoor
open Go.RowKit Go.Foldp Go.Colm Go.Wirep Go.Maps
set_option linter.unusedVariables false
set_option linter.unusedSimpArgs false
set_option linter.unusedSectionVars false

theorem size_none {l : List (List UInt8)} : (sizeR l).2 = 0 → ∃ n, sizeR l = (n, 0) := fun h => ⟨(sizeR l).1, by rw [← h]⟩
theorem put_both (L : Lay) (w : World) (N : Nat → Prop) (recs : List (List UInt8)) (A : Option Addr) (c : Nat) (h : Has L (newM 7) w) (hr : RecAt N w A recs) (hN : ∀ k, N k → L.G k = none) (hl : recs.length < 4294967296) (hll : ∀ x ∈ recs, x.length < 1099511627776) :
    Calls Tryz.prog 8 #[.pointer (some ⟨L.xb, 0, none⟩), keyV [97] 1, .slice A recs.length c, .int .u64 ((0 : Nat) : Int)] w fun e w' => ∃ x L' M', e = .returned (.tuple #[.slice none 0 0, .int .i64 x]) ∧ Goes L (newM 7) w L' M' w' ∧ (x = 0 ∧ One M' recs ∨ x ≠ 0 ∧ M' = newM 7) := by
  by_cases h0 : (sizeR recs).2 = 0
  · obtain ⟨n, hn⟩ := size_none h0
    obtain ⟨M', hp, h1⟩ := put_one hn
    refine (put_ok L (newM 7) w N [97] 1 recs A c 0 M' h (by decide) (by decide) (by decide) hr hN hl hll hp).mono ?_
    rintro e w' ⟨rfl, L', hg⟩
    exact ⟨0, L', M', rfl, hg, .inl ⟨rfl, h1⟩⟩
  · refine (put_bad L (newM 7) w N [97] 1 recs A c 0 _ h (by decide) (by decide) hr (by omega) hll (by rfl) (by rfl) rfl h0).mono ?_
    rintro e w' ⟨rfl, hb⟩
    exact ⟨_, L, newM 7, rfl, (Goes.refl h).below hb, .inr ⟨h0, rfl⟩⟩

set_option maxRecDepth 100000 in
set_option maxHeartbeats 12800000 in
theorem modelApart_walk (A : Option Addr) (l : List (List UInt8)) (c : Nat) (hlc : l.length ≤ c) (hcm : c ≤ maxLen) (hx : ∀ x ∈ l, x.length ≤ maxLen) (w : World) (hr : RecAt (fun _ => True) w A l) (hs : Sz w) (hm : MaxL w) :
    Calls Tryz.prog 3 #[.slice A l.length c] w fun e w' => e = .returned (.bool true) ∧ Below w.heap.size w w' := by
  have hlm := Nat.le_trans hlc hcm
  have HFEW := Lib.hid (few6_any (fun _ => True) A c l w hlm hx hr)
  have HR := Lib.hid hr
  have HS := Lib.hid hs
  have HM := Lib.hid hm
  clear hr hs hm hx hlc hcm
  go_enter Tryz.func3, Tryz.ntmps3
  go_wp2_with fail
  refine HFEW.out.mono ?_
  rintro e w1 ⟨rfl, hfe⟩
  rcases hfe with rfl | ⟨rfl, hl60, hx3⟩
  · go_wp2_with fail
    refine (means_any _ HS.out HM.out).mono ?_
    rintro e w2 ⟨rfl, hb2⟩
    go_wp2_with fail
    go_ret
    exact ⟨rfl, hb2⟩
  clear HFEW hlm
  have HNW := Lib.hid (new_7 w1 HS.out HM.out)
  have HX3 := Lib.hid hx3
  clear hx3
  go_wp2_with fail
  refine HNW.out.mono ?_
  rintro e w2 ⟨L, rfl, hhas, hown, hb2⟩
  have HOLD := Lib.hid (old_of hown)
  have HH := Lib.hid hhas
  have HB2 := Lib.hid hb2
  obtain ⟨i0, hi, hz0, hz1, hz2⟩ := info_parts bytes_info
  have hmk := run_make w2 22 31 i0 (.slice none 0 0) Tryz.underlying22 hi hz0 .i64 .i64 l.length l.length (by omega) (by omega) (by rw [hz2]; omega) (by omega)
  rw [hz1, show (Value.slice none 0 0).cells = #[.slice none 0 0] from rfl, ← Lib.cellsOfV_nil] at hmk
  simp only [Int.toNat_natCast, Nat.mul_one] at hmk
  obtain ⟨w3, hw3⟩ : ∃ w3, w3 = w2.alloc (.cells (Lib.cellsOfV [] l.length) 31) := ⟨_, rfl⟩
  rw [← hw3] at hmk
  have h3 : Whole w3 w2.heap.size 31 (Lib.cellsOfV [] l.length) := by rw [hw3]; exact Whole.new _ _ _
  have hb3 : Below w2.heap.size w2 w3 := by rw [hw3]; exact (Below.refl _ _).alloc (Nat.le_refl _) _
  obtain ⟨ob, hob⟩ : ∃ ob, ob = w2.heap.size := ⟨_, rfl⟩
  rw [← hob] at h3 hmk
  have HOB := Lib.hid hob
  have HW3 := Lib.hid h3
  have HB3 := Lib.hid hb3
  clear hhas hown hb2 h3 hb3 hw3 hob HNW
  go_wp2_with fail
  go_loopw [6] (fun s6 wr => ∃ (k : Nat) (us : List Value), k ≤ l.length ∧ s6 = .int .i64 k ∧ us.length = k ∧ Hid (Whole wr ob 31 (Lib.cellsOfV us l.length)) ∧ Hid (Below ob w2 wr) ∧ Hid (∀ (i : Nat) (u : Value) (x : List UInt8), us[i]? = some u → l[i]? = some x → wr.ownsRow ob 5 1 u x.length (bytesV x))) (fun s6 _ => match s6 with | .int _ m => l.length - m.toNat | _ => 0)
  case atStart => exact ⟨0, [], Nat.zero_le _, rfl, rfl, HW3, Lib.hid (by rw [HOB.out]; exact HB3.out), Lib.hid (fun i u x h => by simp at h)⟩
  case round =>
    obtain ⟨k, us, hk, rfl, hus, HW, HB, HO⟩ := hrel
    by_cases hlt : k < l.length
    · obtain ⟨b, off, Au, cu, rfl, hc, hru⟩ := (HR.out.below (by have := HB.out; rw [HOB.out] at this; exact below_chain HB2.out this)).get hlt
      have hlx := HX3.out l[k] (List.getElem_mem hlt)
      obtain ⟨x, hx0⟩ : ∃ x, x = l[k] := ⟨_, rfl⟩
      rw [← hx0] at hc hru hlx
      have HRU := Lib.hid hru
      have HX0 := Lib.hid hx0
      clear hru hx0
      have hoble : ob ≤ wr.heap.size := by
        have := HB.out.size
        rw [← HOB.out] at this
        exact this
      have hc0 : (wr.alloc (.cells #[] 5)).cell? ⟨b, off + k, none⟩ = some (.slice Au x.length cu) := Lib.cell?_alloc_some _ hc
      have hx63 : x.length < 1099511627776 := by omega
      clear hc hlx
      go_wp2_with (at_builtin; refine wpList_copy rfl _ _ rfl ob (.slice (some ⟨wr.heap.size, 0, none⟩) 0 0) rfl (World.ownsRow_made wr #[] 0 hoble (Nat.zero_le _) rfl) Au x cu rfl (HRU.out.alloc _) hx63 (Nat.le_trans hoble (by simp)) ?_; intro v4 w4 hown4 hg4; have kg4 : Kept (fun k => k = wr.heap.size) wr w4 := ((Kept.refl (fun k => k = wr.heap.size) wr).alloc (.cells #[] 5)).trans ((Kept.grown hg4).mono fun k _ h => by simpa [Value.ownBlock] using h.symm); have hw4 : Whole w4 ob 31 (Lib.cellsOfV us l.length) := kg4.whole HW.out (Nat.ne_of_lt HW.out.lt); have hc4 : w4.cell? ⟨ob, k, none⟩ = some (.slice none 0 0) := (by rw [hw4.cell, ← hus]; exact Lib.cellsOfV_next (by omega)); have hf4 := hw4.frozen k; have HU4 := Lib.hid hown4; have KG4 := Lib.hid kg4; have HW4 := Lib.hid hw4; obtain ⟨Au4, cu4, eu4, _⟩ := own_row hown4; have EU4 := Lib.hid eu4; have NE4 := Lib.hid (Lib.ownBlock_ne hown4 hw4 (by decide)); rw [eu4]; clear hown4 hg4 kg4 hw4 eu4 hc0)
      go_roundw
      case rel =>
        have hb2 : Below w2.heap.size w2 wr := by rw [← HOB.out]; exact HB.out
        refine ⟨k + 1, us ++ [v4], by omega, by go_num, by simp [hus], ?_, ?_, ?_⟩
        · rw [← EU4.out]
          have h := HW4.out.put k v4
          rw [← hus, Lib.cellsOfV_set (by omega), hus] at h
          exact Lib.hid h
        · refine Lib.hid (Kept.to_below (S := fun i => i = ob) ((((Kept.below hb2 (fun i => i = ob)).trans (KG4.out.mono (S' := fun i => i = ob) fun j hj e => absurd e (by omega)))).setCell (p := ⟨ob, k, none⟩) (.inl rfl) _) (by rw [HOB.out]; exact Nat.le_refl _) (fun i hi e => by omega))
        · refine Lib.hid fun i u' x' hu' hx' => ?_
          have hk2 : Kept (fun i => i = ob) w4 (w4.setCell ⟨ob, k, none⟩ (.slice Au4 x.length cu4)) := (Kept.refl (fun i => i = ob) w4).setCell (p := ⟨ob, k, none⟩) (.inl rfl) _
          rcases Nat.lt_or_ge i k with hik | hik
          · rw [List.getElem?_append_left (by omega)] at hu'
            have h1 := HO.out i u' x' hu' hx'
            have hne' : u'.ownBlock ≠ some ob := Lib.ownBlock_ne h1 HW.out (by decide)
            have h2 : w4.ownsRow ob 5 1 u' x'.length (bytesV x') := own_stays h1 KG4.out (fun j hj e => by have := (own_ge h1 hj).2; omega)
            exact own_stays h2 hk2 (fun j hj e => hne' (by rw [hj, e]))
          · have hik2 : i = k := by
              have := (List.getElem?_eq_some_iff.1 hu').1
              simp at this
              omega
            subst hik2
            rw [List.getElem?_append_right (by omega), hus, Nat.sub_self, List.getElem?_cons_zero, Option.some.injEq] at hu'
            subst hu'
            rw [List.getElem?_eq_getElem hlt, Option.some.injEq] at hx'
            subst hx'
            rw [← HX0.out]
            exact own_stays HU4.out hk2 (fun j hj e => NE4.out (by rw [hj, e]))
      case measure => simp; omega
    · have hkk : k = l.length := by omega
      have hro : RecOwn ob wr (.slice (some ⟨ob, 0, none⟩) l.length l.length) us l := by
        refine ⟨by omega, ⟨ob, rfl, Nat.le_refl _, ?_⟩, HO.out⟩
        have h := HW.out
        rw [← hkk, ← hus, Lib.cellsOfV_full] at h
        exact h
      obtain ⟨A1, eA1, hra⟩ := hro.at_
      obtain rfl : some ⟨ob, 0, none⟩ = A1 := by injection eA1
      obtain ⟨A2, eA2, hrz⟩ := hro.z
      obtain rfl : some ⟨ob, 0, none⟩ = A2 := by injection eA2
      have hb2 : Below w2.heap.size w2 wr := by rw [← HOB.out]; exact HB.out
      obtain ⟨w5, hw5⟩ : ∃ w5, w5 = wr.alloc (.cells #[.string ⟨#[97]⟩, .int .u16 1] 34) := ⟨_, rfl⟩
      have hb5 : Below wr.heap.size wr w5 := by rw [hw5]; exact (Below.refl _ _).alloc (Nat.le_refl _) _
      have hk5 : Whole w5 wr.heap.size 34 #[.string ⟨#[97]⟩, .int .u16 1] := by rw [hw5]; exact Whole.new _ _ _
      obtain ⟨kb, hkb⟩ : ∃ kb, kb = wr.heap.size := ⟨_, rfl⟩
      have hobk : ob ≤ kb := by rw [hkb, HOB.out]; exact hb2.size
      have h5 := HH.out.below (below_chain hb2 hb5)
      have hG : ∀ k, ob ≤ k → L.G k = none := fun k hk => HH.out.none_new (by rw [← HOB.out]; exact hk)
      have hput := put_both L w5 _ l _ l.length h5 (hra.below hb5) (fun k hk => hG k hk.1) (by omega) (fun x hx => by have := HX3.out x hx; omega)
      have hput' : Calls Tryz.prog 8 #[.pointer (some ⟨L.xb, 0, none⟩), .agg #[.string ⟨#[97]⟩, .int .u16 1], .slice (some ⟨ob, 0, none⟩) l.length l.length, .int .u64 0] w5 fun e w' => ∃ x L' M', e = .returned (.tuple #[.slice none 0 0, .int .i64 x]) ∧ Goes L (newM 7) w5 L' M' w' ∧ (x = 0 ∧ One M' l ∨ x ≠ 0 ∧ M' = newM 7) := hput
      have HPUT := Lib.hid hput'
      have HRZ := Lib.hid (hrz.kept (Kept.below hb5 fun _ => False) fun _ _ h => h)
      have HG := Lib.hid hG
      rw [← hkb] at hk5
      have HK5 := Lib.hid hk5
      have HB5 := Lib.hid (below_chain HB2.out (below_chain hb2 hb5))
      have HKL := Lib.hid hk5.lt
      have y0 := hk5.cell 0
      have y1 := hk5.cell 1
      simp only [List.getElem?_toArray, List.getElem?_cons_zero, List.getElem?_cons_succ] at y0 y1
      have HKB := Lib.hid hkb
      have HWE := Lib.hid hw5
      rw [hw5] at HPUT y0 y1
      rw [hkb] at y0 y1
      clear hput hput' hrz hra hro h5 hb5 hk5 hb2 eA1 eA2 hG HO HW hkb
      go_wp2_with fail
      refine HPUT.out.mono ?_
      rintro e w6 ⟨x, L6, M6, rfl, hg6, hcase⟩
      rw [← HWE.out] at hg6
      rw [← HKB.out]
      obtain ⟨N, hN⟩ : ∃ N : Nat → Prop, N = fun k => ob ≤ k ∧ k < wr.heap.size := ⟨_, rfl⟩
      have hNG : ∀ k, N k → L6.G k = none ∧ ob ≤ k ∧ k < kb := fun k hk => by
        rw [hN] at hk
        refine ⟨hg6.none_at (HG.out k hk.1) ?_, hk.1, by rw [HKB.out]; exact hk.2⟩
        have := HKL.out
        rw [HKB.out] at this
        exact Nat.lt_trans hk.2 this
      have hL6 : L6.G kb = none := hg6.none_at (HG.out kb hobk) HKL.out
      have hrz6 : RecZ N w6 (some ⟨ob, 0, none⟩) l := by
        rw [hN]
        exact HRZ.out.kept hg6.kept fun k hk hne => hne (HG.out k hk.1)
      have hk6 : Whole w6 kb 34 #[.string ⟨#[97]⟩, .int .u16 1] := hg6.kept.whole HK5.out fun hne => hne (HG.out kb hobk)
      have HX6 := Lib.hid hg6.xb
      have HH6 := Lib.hid hg6.has
      have HB6 := Lib.hid (hg6.bel HOLD.out HB5.out)
      have HOLD6 := Lib.hid (hg6.old HOLD.out HB5.out.size)
      have HOW : Hid (w1.heap.size ≤ ob) := Lib.hid (by rw [HOB.out]; exact HB2.out.size)
      have HNG := Lib.hid hNG
      have HL6 := Lib.hid hL6
      have HRZ6 := Lib.hid hrz6
      have HK6 := Lib.hid hk6
      have HCASE := Lib.hid hcase
      clear hN hNG hL6 hrz6 hk6 hg6 hcase HPUT HRZ HK5 HKL HG HH HW3 HB3 HOLD hmk y0 y1
      go_wp2_with fail
      go_loopw [10, 11] (fun s10 _ wz => ∃ i : Nat, i ≤ l.length ∧ s10 = .int .i64 i ∧ Hid (Kept N w6 wz) ∧ Hid (RecZ N wz (some ⟨ob, 0, none⟩) l)) (fun s10 _ _ => match s10 with | .int _ m => l.length - m.toNat | _ => 0)
      case atStart => exact ⟨0, Nat.zero_le _, rfl, Lib.hid (Kept.refl _ _), HRZ6⟩
      case round =>
        obtain ⟨i, hil, rfl, HKz, HZ⟩ := hrel
        by_cases hlt2 : i < l.length
        · go_wp2_with fail
          go_loopw [11] (fun s11 wy => ∃ j : Nat, j ≤ l[i].length ∧ s11 = .int .i64 j ∧ Hid (Kept N w6 wy) ∧ Hid (RecZ N wy (some ⟨ob, 0, none⟩) l)) (fun s11 _ => match s11 with | .int _ m => l[i].length - m.toNat | _ => 0)
          case atStart => exact ⟨0, Nat.zero_le _, rfl, HKz, HZ⟩
          case round =>
            obtain ⟨j, hjl, rfl, HKy, HY⟩ := hrel
            obtain ⟨b1, o1, Au, cu, e1, _, hc1, hj1⟩ := HY.out i hlt2
            obtain ⟨rfl, rfl⟩ : ob = b1 ∧ 0 = o1 := by
              have := Option.some.inj e1
              injection this with h1 h2
              exact ⟨h1, h2⟩
            have hli := HX3.out l[i] (List.getElem_mem hlt2)
            rw [Nat.zero_add] at hc1
            obtain ⟨m, hm⟩ : ∃ m, m = l[i].length := ⟨_, rfl⟩
            rw [← hm] at hc1 hj1 hli hjl
            have HM1 := Lib.hid hm
            by_cases hlt3 : j < m
            · obtain ⟨b2, o2, rfl, hn2, ⟨u, hu⟩, hf2⟩ := hj1 j hlt3
              have HN2 := Lib.hid hn2
              clear hm hj1 hn2 e1
              go_wp2_with fail
              go_region
              all_goals
                go_wp2_with fail
                go_roundw
                case rel => exact ⟨j + 1, by rw [← HM1.out]; omega, by go_num, Lib.hid ((HKy.out.setCell (p := ⟨b2, o2 + j, none⟩) (.inl HN2.out) _).drew), Lib.hid (HY.out.put hu _)⟩
                case measure => rw [← HM1.out]; simp; omega
            · clear hm hj1 e1
              go_wp2_with fail
              go_roundw
              case rel => exact ⟨i + 1, by omega, by go_num, HKy, HY⟩
              case measure => simp; omega
        · have hb7 : Below w1.heap.size w1 wr := HB6.out.trans (HKz.out.to_below HB6.out.size fun k hk hn => by
            have := HOW.out
            have := (HNG.out k hn).2.1
            omega)
          have h7 := HH6.out.kept HKz.out fun k hn => (HNG.out k hn).1
          have hk7 := HKz.out.whole HK6.out fun hn => absurd (HNG.out kb hn).2.2 (Nat.lt_irrefl _)
          have HB7 := Lib.hid hb7
          have HH7 := Lib.hid h7
          have HK7 := Lib.hid hk7
          have y0 := hk7.cell 0
          have y1 := hk7.cell 1
          simp only [List.getElem?_toArray, List.getElem?_cons_zero, List.getElem?_cons_succ] at y0 y1
          clear hb7 h7 hk7 HKz HZ HRZ6 HK6 HH6 HB6 HNG HOW HKB HWE
          rcases HCASE.out with ⟨rfl, hone⟩ | ⟨hx0, rfl⟩
          · obtain ⟨hf1, hf2, d, hd, hdr⟩ := hone.find
            have hget := get_hit L6 M6 wr [97] 1 0 d HH7.out (by decide) (by decide) hf2 hf1 hd (by rw [hdr]; omega) (fun x hx => by rw [hdr] at hx; have := HX3.out x hx; omega)
            rw [HX6.out] at hget
            have hget' : Calls Tryz.prog 9 #[.pointer (some ⟨L.xb, 0, none⟩), .agg #[.string ⟨#[97]⟩, .int .u16 1]] wr fun e w' => ∃ v us, e = .returned (.tuple #[v, .int .i64 0]) ∧ RecOwn wr.heap.size w' v us d.recs ∧ Goes L6 M6 wr L6 { M6 with etab := M6.etab.set 0 { d with used := true } } w' := hget
            have HGET := Lib.hid hget'
            have HONE := Lib.hid (hone.used hd)
            have HDR0 := Lib.hid hdr
            clear hget hget' hf1 hf2 HCASE hone hd hdr
            go_wp2_with fail
            refine HGET.out.mono ?_
            rintro e w8 ⟨v8, us8, rfl, hro8, hg8⟩
            rw [HDR0.out] at hro8
            obtain ⟨M8, hM8⟩ : ∃ M8, M8 = { M6 with etab := M6.etab.set 0 { d with used := true } } := ⟨_, rfl⟩
            rw [← hM8] at hg8 HONE
            obtain ⟨A8, e8, hra8⟩ := hro8.at_
            obtain ⟨A8', e8', hrz8⟩ := hro8.z
            obtain rfl : A8 = A8' := by
              rw [e8] at e8'
              injection e8'
            obtain ⟨N8, hN8⟩ : ∃ N8 : Nat → Prop, N8 = fun k => wr.heap.size ≤ k ∧ k < w8.heap.size := ⟨_, rfl⟩
            rw [← hN8] at hra8 hrz8
            have hb8 := hg8.bel HOLD6.out HB7.out
            have hk8 := hg8.kept.whole HK7.out fun hne => hne HL6.out
            have HNN : Hid (∀ k, N8 k → L6.G k = none ∧ wr.heap.size ≤ k) := Lib.hid fun k hk => by
              rw [hN8] at hk
              exact ⟨HH7.out.none_new hk.1, hk.1⟩
            have HSM := Lib.hid (same6_any N8 (fun _ => True) A8 A l.length c l w8 (by unfold maxLen; omega) hra8 (HR.out.below hb8))
            have HRZ8 := Lib.hid hrz8
            have HB8 := Lib.hid hb8
            have HK8 := Lib.hid hk8
            have HH8 := Lib.hid hg8.has
            have HKL : Hid (kb < wr.heap.size) := Lib.hid HK7.out.lt
            have HWL : Hid (w1.heap.size ≤ wr.heap.size) := Lib.hid HB7.out.size
            have HM8 := Lib.hid hM8
            rw [e8]
            clear hro8 hg8 e8 e8' hra8 hrz8 hb8 hk8 hN8 HGET HK7 HH7 y0 y1 hM8
            go_wp2_with fail
            refine HSM.out.mono ?_
            rintro e w9 ⟨rfl, hb9⟩
            have hz9 := HRZ8.out.kept (Kept.below hb9 fun _ => False) fun _ _ h => h
            have HZ9 := Lib.hid hz9
            have HB9 := Lib.hid (below_chain HB8.out hb9)
            have HH9 := Lib.hid (HH8.out.below hb9)
            have HK9 := Lib.hid ((hb9.block _ HK8.out.lt).trans HK8.out)
            clear hz9 hb9 HRZ8 HB8 HH8 HK8 HSM
            go_wp2_with fail
            go_loopw [14, 15] (fun s14 _ wz => ∃ i : Nat, i ≤ l.length ∧ s14 = .int .i64 i ∧ Hid (Kept N8 w9 wz) ∧ Hid (RecZ N8 wz A8 l)) (fun s14 _ _ => match s14 with | .int _ m => l.length - m.toNat | _ => 0)
            case atStart => exact ⟨0, Nat.zero_le _, rfl, Lib.hid (Kept.refl _ _), HZ9⟩
            case round =>
              obtain ⟨i, hil, rfl, HKz, HZ⟩ := hrel
              by_cases hlt2 : i < l.length
              · go_wp2_with fail
                go_loopw [15] (fun s15 wy => ∃ j : Nat, j ≤ l[i].length ∧ s15 = .int .i64 j ∧ Hid (Kept N8 w9 wy) ∧ Hid (RecZ N8 wy A8 l)) (fun s15 _ => match s15 with | .int _ m => l[i].length - m.toNat | _ => 0)
                case atStart => exact ⟨0, Nat.zero_le _, rfl, HKz, HZ⟩
                case round =>
                  obtain ⟨j, hjl, rfl, HKy, HY⟩ := hrel
                  obtain ⟨b1, o1, Au, cu, rfl, _, hc1, hj1⟩ := HY.out i hlt2
                  have hli := HX3.out l[i] (List.getElem_mem hlt2)
                  obtain ⟨m, hm⟩ : ∃ m, m = l[i].length := ⟨_, rfl⟩
                  rw [← hm] at hc1 hj1 hli hjl
                  have HM1 := Lib.hid hm
                  by_cases hlt3 : j < m
                  · obtain ⟨b2, o2, rfl, hn2, ⟨u, hu⟩, hf2⟩ := hj1 j hlt3
                    have HN2 := Lib.hid hn2
                    clear hm hj1 hn2
                    go_wp2_with fail
                    go_region
                    all_goals
                      go_wp2_with fail
                      go_roundw
                      case rel => exact ⟨j + 1, by rw [← HM1.out]; omega, by go_num, Lib.hid ((HKy.out.setCell (p := ⟨b2, o2 + j, none⟩) (.inl HN2.out) _).drew), Lib.hid (HY.out.put hu _)⟩
                      case measure => rw [← HM1.out]; simp; omega
                  · clear hm hj1
                    go_wp2_with fail
                    go_roundw
                    case rel => exact ⟨i + 1, by omega, by go_num, HKy, HY⟩
                    case measure => simp; omega
              · have hb10 : Below w1.heap.size w1 wr := HB9.out.trans (HKz.out.to_below HB9.out.size fun k hk hn => by
                  have := (HNN.out k hn).2
                  have := HWL.out
                  omega)
                have h10 := HH9.out.kept HKz.out fun k hn => (HNN.out k hn).1
                have hk10 := HKz.out.whole HK9.out fun hn => by
                  have := (HNN.out kb hn).2
                  have := HKL.out
                  omega
                obtain ⟨f1, f2, d8, hd8, hdr8⟩ := HONE.out.find
                have hitems := items_one L6 M8 wr 0 d8 h10 HONE.out.ring hd8 (by rw [hdr8]; omega) (fun x hx => by rw [hdr8] at hx; have := HX3.out x hx; omega)
                rw [HX6.out, hdr8] at hitems
                have HIT := Lib.hid hitems
                have HB10 := Lib.hid hb10
                have HK10 := Lib.hid hk10
                have HH10 := Lib.hid h10
                have HN10 : Hid (∀ k : Nat, wr.heap.size ≤ k → L6.G k = none) := Lib.hid (fun k hk => h10.none_new hk)
                have F1 := Lib.hid f1
                have F2 := Lib.hid f2
                have HD8 := Lib.hid hd8
                have HDR := Lib.hid hdr8
                clear hitems hb10 h10 hk10 f1 f2 hd8 hdr8 HKz HZ HZ9 HB9 HH9 HK9 HNN HKL HWL
                go_wp2_with fail
                refine HIT.out.mono ?_
                rintro e w11 ⟨A11, c11, A12, rfl, hrow11, hra11, hb11⟩
                have HB11 := Lib.hid (below_chain HB10.out hb11)
                have hk11 := (hb11.block _ HK10.out.lt).trans HK10.out
                have hget := get_hit L6 M8 w11 [97] 1 0 d8 (HH10.out.below hb11) (by decide) (by decide) F2.out F1.out HD8.out (by rw [HDR.out]; omega) (fun x hx => by rw [HDR.out] at hx; have := HX3.out x hx; omega)
                rw [HX6.out] at hget
                have hget' : Calls Tryz.prog 9 #[.pointer (some ⟨L.xb, 0, none⟩), .agg #[.string ⟨#[97]⟩, .int .u16 1]] w11 fun e w' => ∃ v us, e = .returned (.tuple #[v, .int .i64 0]) ∧ RecOwn w11.heap.size w' v us d8.recs ∧ Goes L6 M8 w11 L6 { M8 with etab := M8.etab.set 0 { d8 with used := true } } w' := hget
                have HGET := Lib.hid hget'
                obtain ⟨b3, o3, e3, hc3⟩ := hrow11.1 2 (.slice A12 d8.recs.length d8.recs.length) (by rfl)
                have hb3 := hrow11.2 _ e3
                subst e3
                rw [HDR.out] at hc3
                have HN3 := Lib.hid (HN10.out _ hb3)
                have HC3 := Lib.hid hc3
                have HRA11 := Lib.hid hra11
                have hwk : ∀ i, w11.cell? ⟨kb, i, none⟩ = (#[.string ⟨#[97]⟩, .int .u16 1] : Array Value)[i]? := fun i => Whole.cell hk11 i
                have y0 := hwk 0
                have y1 := hwk 1
                simp only [List.getElem?_toArray, List.getElem?_cons_zero, List.getElem?_cons_succ] at y0 y1
                clear hget hget' hrow11 hra11 hb11 hk11 hwk hc3 hb3 HIT HK10 HH10
                go_wp2_with fail
                refine HGET.out.mono ?_
                rintro e w12 ⟨v12, us12, rfl, hro12, hg12⟩
                rw [HDR.out] at hro12
                obtain ⟨A13, e13, hra13⟩ := hro12.at_
                have hb12 := hg12.bel HOLD6.out HB11.out
                have hc12 : w12.cell? ⟨b3, o3 + 2, none⟩ = some (.slice A12 l.length l.length) := hg12.kept.cell HC3.out fun hne => hne HN3.out
                have hra12 := HRA11.out.kept hg12.kept fun k hk hne => hne (HN10.out _ hk.1)
                have HSM := Lib.hid (same6_any _ (fun _ => True) A13 A l.length c l w12 (by unfold maxLen; omega) hra13 (HR.out.below hb12))
                have HRA12 := Lib.hid hra12
                have HB12 := Lib.hid hb12
                have HC12 := Lib.hid hc12
                rw [e13]
                clear hro12 hg12 e13 hra13 hb12 hc12 hra12 HGET y0 y1 HC3 HRA11
                go_wp2_with fail
                refine HSM.out.mono ?_
                rintro e w13 ⟨rfl, hb13⟩
                have hc13 := (hb13.cell (lt_of_cell HC12.out)).trans HC12.out
                have HB13 := Lib.hid (below_chain HB12.out hb13)
                have HSM2 := Lib.hid (same6_any _ (fun _ => True) A12 A l.length c l w13 (by unfold maxLen; omega) (HRA12.out.below hb13) (HR.out.below HB13.out))
                clear hb13 HSM
                go_wp2_with fail
                refine HSM2.out.mono ?_
                rintro e w14 ⟨rfl, hb14⟩
                have HB14 := Lib.hid (below_chain HB13.out hb14)
                clear hb14 hc13
                go_wp2_with fail
                refine (means_any _ (HS.out.below HB14.out) (HM.out.below HB14.out)).mono ?_
                rintro e w15 ⟨rfl, hb15⟩
                have HB15 := Lib.hid (below_chain HB14.out hb15)
                clear hb15
                go_wp2_with fail
                go_ret
                exact ⟨rfl, HB15.out⟩
          · obtain ⟨hf1, hf2⟩ := find_new
            have hget := get_miss L6 (newM 7) wr [97] 1 7 HH7.out (by decide) (by decide) hf2 hf1 (by decide)
            rw [HX6.out] at hget
            have hget' : Calls Tryz.prog 9 #[.pointer (some ⟨L.xb, 0, none⟩), .agg #[.string ⟨#[97]⟩, .int .u16 1]] wr fun e w' => e = .returned (.tuple #[.slice none 0 0, .int .i64 7]) ∧ Below wr.heap.size wr w' := hget
            have HGET := Lib.hid hget'
            clear hget hget' hf1 hf2 HCASE
            go_wp2_with fail
            refine HGET.out.mono ?_
            rintro e w8 ⟨rfl, hb8⟩
            have HB8 := Lib.hid (below_chain HB7.out hb8)
            clear hb8
            go_wp2_with fail
            refine (means_any _ (HS.out.below HB8.out) (HM.out.below HB8.out)).mono ?_
            rintro e w9 ⟨rfl, hb9⟩
            have HB9 := Lib.hid (below_chain HB8.out hb9)
            clear hb9
            go_wp2_with fail
            go_ret
            exact ⟨rfl, HB9.out⟩
end Go.Proofs.YtimdedkejadnfaaGreatDoor
