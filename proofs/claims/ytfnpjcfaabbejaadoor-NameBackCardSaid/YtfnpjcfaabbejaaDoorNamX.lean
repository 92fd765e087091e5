/-
  The walk of the law NameBack. internal/bytealg.MaxLen holds some number.
-/
import Derived.Test.YtfnpjcfaabbejaaDoorNamW
namespace Go.Proofs.YtfnpjcfaabbejaaDoor
open Go.RowKit Go.Foldp Go.Colm Go.Wirep
set_option linter.unusedVariables false

set_option maxRecDepth 100000 in
set_option maxHeartbeats 4000000 in
theorem nameBack_core (s : ByteArray) (l : List (List UInt8)) (A : Option Addr) (c : Nat) (hcap : l.length ≤ c) (hss : s.size ≤ 9223372036854775807) (hlm : l.length ≤ 9223372036854775807) (hsz : ∀ s ∈ l, s.length ≤ 9223372036854775807) (w : World) (hr : RowV w A (labV l)) (hm : MaxL w) :
    Calls Tryd.prog 6 #[.string s, .slice A l.length c] w fun e w' => e = .returned (.bool true) ∧ Below w.heap.size w w' := by
  have HMW := Lib.hid hm
  have HR := Lib.hid hr
  have HF := Lib.hid (few_any l A c 300 3000 w hr hsz hlm (by omega) (by omega))
  clear hm hr hsz
  by_cases h3 : 3000 < s.size
  · go_enter Tryd.func6, Tryd.ntmps6
    go_wp2_with fail
    refine (names_any _ HMW.out).mono ?_
    rintro e w1 ⟨rfl, hb⟩
    go_wp2_with fail
    go_ret
    exact ⟨rfl, hb⟩
  · go_enter Tryd.func6, Tryd.ntmps6
    go_wp2_with fail
    refine HF.out.mono ?_
    rintro e w1 ⟨q, rfl, hq, hb1⟩
    have HB1 := Lib.hid hb1
    clear hb1 HF
    rcases q with _ | _
    · clear hq
      go_wp2_with fail
      refine (names_any _ (HMW.out.below HB1.out)).mono ?_
      rintro e w2 ⟨rfl, hb2⟩
      go_wp2_with fail
      go_ret
      exact ⟨rfl, below_chain HB1.out hb2⟩
    · obtain ⟨h300, hwl⟩ := hq rfl
      clear hq
      have HT : Hid (∀ W, Below w.heap.size w W → Calls Tryd.prog 12 #[.slice A l.length c] W (TextIt W (textL l))) := Lib.hid (fun W h => text_any l A c W (HR.out.below h) hcap (by omega))
      have HCK : Hid (∀ W, Below w.heap.size w W → Calls Tryd.prog 14 #[.slice A l.length c] W fun e w' => e = .returned (.int .i64 (checkL l)) ∧ Below W.heap.size W w') := Lib.hid (fun W h => check_any l A c W (HR.out.below h) (by omega) (fun s hs => by have := wireL_mem hs; omega))
      have HP : Hid (∀ W, MaxL W → Calls Tryd.prog 8 #[.string s] W (ParseIt W (parseL s.data.toList))) := Lib.hid (fun W h => parse_bytes s W h (by omega))
      have hag := fun h => parse_again (s := s.data.toList) h
      simp only [str_len] at hag
      obtain ⟨g, hg⟩ : ∃ g, g = parseL s.data.toList := ⟨_, rfl⟩
      simp only [← hg] at HP hag
      have HAG := Lib.hid hag
      clear hg hag
      obtain ⟨pl, pe⟩ := g
      go_wp2_with fail
      refine (HP.out _ (HMW.out.below HB1.out)).mono ?_
      rintro e w2 ⟨A2, c2, rfl, hr2, hc2, hb2⟩
      try simp only at hr2 hc2
      have HR2 := Lib.hid hr2
      have HB2 := Lib.hid (below_chain HB1.out hb2)
      clear hr2 hb2 HP
      by_cases hp : pe = 0
      · obtain ⟨ha1, ha2, ha3, ha4⟩ := HAG.out hp
        try simp only at ha1 ha2 ha3 ha4
        have hpl := wireL_len pl
        have HT1 : Hid (∀ W, RowV W A2 (labV pl) → Calls Tryd.prog 12 #[.slice A2 pl.length c2] W (TextIt W (textL pl))) := Lib.hid (fun W h => text_any pl A2 c2 W h hc2 (by omega))
        have HW1 : Hid (∀ W, RowV W A2 (labV pl) → Calls Tryd.prog 16 #[.slice A2 pl.length c2] W fun e w' => e = .returned (.int .i64 (wireL pl : Nat)) ∧ w' = W) := Lib.hid (fun W h => wire_any pl A2 c2 W h (by omega))
        have HS1 : Hid (∀ (B : Option Addr) (d : Nat) (W : World), RowV W A2 (labV pl) → RowV W B (labV pl) → Calls Tryd.prog 10 #[.slice A2 pl.length c2, .slice B pl.length d] W fun e w' => e = .returned (.bool true) ∧ Below W.heap.size W w') := Lib.hid (fun B d W h1 h2 => by
          have := same_strs pl pl A2 B c2 d W h1 h2 (by omega) (by omega)
          rwa [beq_self_eq_true] at this)
        obtain ⟨ty, hty⟩ : ∃ ty, ty = textL pl := ⟨_, rfl⟩
        simp only [← hty] at HT1 ha1 ha2 ha3
        clear hty
        obtain ⟨tyl, tye⟩ := ty
        try simp only at ha1 ha2 ha3
        subst ha1
        obtain ⟨tyv, htyv⟩ : ∃ tyv, tyv = ByteArray.mk tyl.toArray := ⟨_, rfl⟩
        have htz : tyv.size = tyl.length := by rw [htyv]; exact str_size tyl
        have htz2 : tyv.size ≤ s.size := by omega
        have HT2 : Hid (∀ W, RowV W A2 (labV pl) → Calls Tryd.prog 12 #[.slice A2 pl.length c2] W fun e w' => e = .returned (.tuple #[.string tyv, .int .i64 0]) ∧ Below W.heap.size W w') := Lib.hid (by rw [htyv]; exact HT1.out)
        have HP2 : Hid (∀ W, MaxL W → Calls Tryd.prog 8 #[.string tyv] W (ParseIt W (pl, 0))) := Lib.hid (fun W h => by
          have := parse_any tyl W h (by omega)
          rw [ha3] at this
          rwa [htyv])
        obtain ⟨wl, hwle⟩ : ∃ wl, wl = wireL pl := ⟨_, rfl⟩
        simp only [← hwle] at HW1 ha4
        subst hp
        clear htyv ha3 ha2 htz HT1 HAG hpl hwle
        go_wp2_with fail
        refine (HT2.out _ HR2.out).mono ?_
        rintro e w3 ⟨rfl, hb3⟩
        have HR3 := Lib.hid (HR2.out.below hb3)
        have HB3 := Lib.hid (below_chain HB2.out hb3)
        clear hb3
        go_wp2_with fail
        refine (HP2.out _ (HMW.out.below HB3.out)).mono ?_
        rintro e w4 ⟨A4, c4, rfl, hr4, hc4, hb4⟩
        try simp only at hr4 hc4
        have HR4 := Lib.hid hr4
        have HR34 := Lib.hid (HR3.out.below hb4)
        have HB4 := Lib.hid (below_chain HB3.out hb4)
        clear hr4 hc4 hb4
        go_wp2_with fail
        refine (HS1.out _ _ _ HR34.out HR4.out).mono ?_
        rintro e w5 ⟨rfl, hb5⟩
        have HR5 := Lib.hid (HR34.out.below hb5)
        have HBZ := Lib.hid (below_chain HB4.out hb5)
        clear hb5
        go_wp2_with fail
        refine (HW1.out _ HR5.out).mono ?_
        rintro e w6 ⟨rfl, hw6⟩
        rw [hw6]
        clear hw6 w6
        go_wp2_with fail
        refine (HT.out _ HBZ.out).mono ?_
        rintro e w7 ⟨rfl, hb7⟩
        have HB7 := Lib.hid (below_chain HBZ.out hb7)
        clear hb7
        by_cases h0 : checkL l = 0
        · obtain ⟨hx1, hx2⟩ := text_ok h0
          have hpt := parse_text h0
          have hsh := sharedL_low l
          have hll : (l.map lowL).length = l.length := by simp
          obtain ⟨tx, htx⟩ : ∃ tx, tx = textL l := ⟨_, rfl⟩
          rw [← htx] at hx1 hx2 hpt ⊢
          obtain ⟨tl, te⟩ := tx
          try simp only at hx1 hx2 hpt
          subst hx1
          obtain ⟨tv, htv⟩ : ∃ tv, tv = ByteArray.mk tl.toArray := ⟨_, rfl⟩
          have HPT : Hid (∀ W, MaxL W → Calls Tryd.prog 8 #[.string tv] W (ParseIt W (l.map lowL, 0))) := Lib.hid (fun W h => by
            have := parse_any tl W h (by omega)
            rw [hpt] at this
            rwa [htv])
          simp only [← htv]
          have HSH : Hid (∀ (B : Option Addr) (c2 : Nat) (W : World), Below w.heap.size w W → RowV W B (labV (l.map lowL)) → Calls Tryd.prog 19 #[.slice B l.length c2, .slice A l.length c] W fun e w' => e = .returned (.int .i64 (l.length : Nat)) ∧ Below W.heap.size W w') := Lib.hid (fun B c2 W hb hrB => by
            have := shared_any (l.map lowL) l B A c2 c W hrB (HR.out.below hb) (by rw [wireL_low]; omega) (by omega)
            rwa [hsh, hll] at this)
          clear htx htv hpt hsh h0 HT HCK
          go_wp2_with fail
          refine (HPT.out _ (HMW.out.below HB7.out)).mono ?_
          rintro e w8 ⟨A8, c8, rfl, hr8, hc8, hb8⟩
          simp only [hll] at hr8 hc8 ⊢
          have HR8 := Lib.hid hr8
          have HB8 := Lib.hid (below_chain HB7.out hb8)
          clear hr8 hc8 hb8
          go_wp2_with fail
          refine (HSH.out _ _ _ HB8.out HR8.out).mono ?_
          rintro e w9 ⟨rfl, hb9⟩
          have HB9 := Lib.hid (below_chain HB8.out hb9)
          clear hb9
          go_wp2_with fail
          refine (names_any _ (HMW.out.below HB9.out)).mono ?_
          rintro e w10 ⟨rfl, hb10⟩
          go_wp2_with fail
          go_ret
          exact ⟨rfl, below_chain HB9.out hb10⟩
        · have htn := text_no h0
          rw [htn]
          obtain ⟨ce, hce⟩ : ∃ ce, ce = checkL l := ⟨_, rfl⟩
          rw [← hce] at h0 ⊢
          have HC2 : Hid (∀ W, Below w.heap.size w W → Calls Tryd.prog 14 #[.slice A l.length c] W fun e w' => e = .returned (.int .i64 ce) ∧ Below W.heap.size W w') := Lib.hid (by rw [hce]; exact HCK.out)
          have t2 : (ce != 0) = true := by rwa [bne_iff_ne]
          clear htn hce h0 HCK HT
          go_wp2_with fail
          refine (HC2.out _ HB7.out).mono ?_
          rintro e w8 ⟨rfl, hb8⟩
          have HB8 := Lib.hid (below_chain HB7.out hb8)
          clear hb8
          go_wp2_with fail
          refine (names_any _ (HMW.out.below HB8.out)).mono ?_
          rintro e w9 ⟨rfl, hb9⟩
          go_wp2_with fail
          go_ret
          exact ⟨rfl, below_chain HB8.out hb9⟩
      · have t1 : (pe == 0) = false := by rwa [beq_eq_false_iff_ne]
        have HBZ := HB2
        clear hp HAG
        go_wp2_with fail
        refine (HT.out _ HBZ.out).mono ?_
        rintro e w7 ⟨rfl, hb7⟩
        have HB7 := Lib.hid (below_chain HBZ.out hb7)
        clear hb7
        by_cases h0 : checkL l = 0
        · obtain ⟨hx1, hx2⟩ := text_ok h0
          have hpt := parse_text h0
          have hsh := sharedL_low l
          have hll : (l.map lowL).length = l.length := by simp
          obtain ⟨tx, htx⟩ : ∃ tx, tx = textL l := ⟨_, rfl⟩
          rw [← htx] at hx1 hx2 hpt ⊢
          obtain ⟨tl, te⟩ := tx
          try simp only at hx1 hx2 hpt
          subst hx1
          obtain ⟨tv, htv⟩ : ∃ tv, tv = ByteArray.mk tl.toArray := ⟨_, rfl⟩
          have HPT : Hid (∀ W, MaxL W → Calls Tryd.prog 8 #[.string tv] W (ParseIt W (l.map lowL, 0))) := Lib.hid (fun W h => by
            have := parse_any tl W h (by omega)
            rw [hpt] at this
            rwa [htv])
          simp only [← htv]
          have HSH : Hid (∀ (B : Option Addr) (c2 : Nat) (W : World), Below w.heap.size w W → RowV W B (labV (l.map lowL)) → Calls Tryd.prog 19 #[.slice B l.length c2, .slice A l.length c] W fun e w' => e = .returned (.int .i64 (l.length : Nat)) ∧ Below W.heap.size W w') := Lib.hid (fun B c2 W hb hrB => by
            have := shared_any (l.map lowL) l B A c2 c W hrB (HR.out.below hb) (by rw [wireL_low]; omega) (by omega)
            rwa [hsh, hll] at this)
          clear htx htv hpt hsh h0 HT HCK
          go_wp2_with fail
          refine (HPT.out _ (HMW.out.below HB7.out)).mono ?_
          rintro e w8 ⟨A8, c8, rfl, hr8, hc8, hb8⟩
          simp only [hll] at hr8 hc8 ⊢
          have HR8 := Lib.hid hr8
          have HB8 := Lib.hid (below_chain HB7.out hb8)
          clear hr8 hc8 hb8
          go_wp2_with fail
          refine (HSH.out _ _ _ HB8.out HR8.out).mono ?_
          rintro e w9 ⟨rfl, hb9⟩
          have HB9 := Lib.hid (below_chain HB8.out hb9)
          clear hb9
          go_wp2_with fail
          refine (names_any _ (HMW.out.below HB9.out)).mono ?_
          rintro e w10 ⟨rfl, hb10⟩
          go_wp2_with fail
          go_ret
          exact ⟨rfl, below_chain HB9.out hb10⟩
        · have htn := text_no h0
          rw [htn]
          obtain ⟨ce, hce⟩ : ∃ ce, ce = checkL l := ⟨_, rfl⟩
          rw [← hce] at h0 ⊢
          have HC2 : Hid (∀ W, Below w.heap.size w W → Calls Tryd.prog 14 #[.slice A l.length c] W fun e w' => e = .returned (.int .i64 ce) ∧ Below W.heap.size W w') := Lib.hid (by rw [hce]; exact HCK.out)
          have t2 : (ce != 0) = true := by rwa [bne_iff_ne]
          clear htn hce h0 HCK HT
          go_wp2_with fail
          refine (HC2.out _ HB7.out).mono ?_
          rintro e w8 ⟨rfl, hb8⟩
          have HB8 := Lib.hid (below_chain HB7.out hb8)
          clear hb8
          go_wp2_with fail
          refine (names_any _ (HMW.out.below HB8.out)).mono ?_
          rintro e w9 ⟨rfl, hb9⟩
          go_wp2_with fail
          go_ret
          exact ⟨rfl, below_chain HB8.out hb9⟩
theorem nameBack_walk (s : ByteArray) (hss : s.size ≤ maxLen) (A : Option Addr) (l : List ByteArray) (c : Nat) (hlc : l.length ≤ c) (hcm : c ≤ maxLen) (hsz : ∀ s ∈ l, s.size ≤ maxLen) (w : World) (hr : RowV w A (strsV l)) (hm : MaxL w) :
    Calls Tryd.prog 6 #[.string s, .slice A l.length c] w fun e w' => e = .returned (.bool true) ∧ Below w.heap.size w w' := by
  unfold maxLen at hcm hsz hss
  rw [strsV_lab] at hr
  have := nameBack_core s (l.map fun s => s.data.toList) A c (by rw [List.length_map]; exact hlc) (by omega) (by rw [List.length_map]; omega) (fun s hs => by
    obtain ⟨b, hb, rfl⟩ := List.mem_map.1 hs
    have := hsz b hb
    rw [str_len]
    omega) w hr hm
  rwa [List.length_map] at this
end Go.Proofs.YtfnpjcfaabbejaaDoor
