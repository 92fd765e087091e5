/-
  The walks of the four laws of layer name. internal/bytealg.MaxLen holds some number.
-/
import Derived.Test.YtfnpjcfaabbejaaDoorNamH
import Derived.Test.YtfnpjcfaabbejaaDoorWireAC
import Derived.Test.YtfnpjcfaabbejaaDoorInp
namespace Go.Wirep
open Go.Foldp
theorem parse_len (s : List UInt8) : (parseL s).1.length ≤ s.length + 2 := by
  unfold parseL
  split
  · simp
  · split
    · have h1 := wireL_len (splitL (lowL (trimDot s)))
      rw [splitL_wire, lowL_length] at h1
      have := trimDot_le s
      show (splitL (lowL (trimDot s))).length ≤ _
      omega
    · simp
theorem text_ok {l : List (List UInt8)} (h : checkL l = 0) : (textL l).2 = 0 ∧ (textL l).1.length ≤ wireL l := by
  rw [textL, if_pos h]
  split
  · rename_i e
    subst e
    exact ⟨rfl, by decide⟩
  · exact ⟨rfl, join_len l⟩
theorem text_no {l : List (List UInt8)} (h : checkL l ≠ 0) : textL l = ([], checkL l) := by rw [textL, if_neg h]
/-- What is parsed is printed, and parsed the same. -/
theorem parse_again {s : List UInt8} (h : (parseL s).2 = 0) : (textL (parseL s).1).2 = 0 ∧ (textL (parseL s).1).1.length ≤ s.length ∧ parseL (textL (parseL s).1).1 = ((parseL s).1, 0) ∧ wireL (parseL s).1 ≤ 255 := by
  obtain ⟨h1, h2, h3⟩ := parse_ok h
  refine ⟨(text_ok h1).1, h3, ?_, checkL_wire h1⟩
  rw [parse_text h1, h2]
end Go.Wirep
namespace Go.Proofs.YtfnpjcfaabbejaaDoor
open Go.RowKit Go.Foldp Go.Colm Go.Wirep
set_option linter.unusedVariables false

theorem strsV_lab (l : List ByteArray) : strsV l = labV (l.map fun s => s.data.toList) := by
  simp [strsV, labV]
theorem parse_bytes (s : ByteArray) (w : World) (hm : MaxL w) (hl : s.size ≤ 100000) : Calls Tryd.prog 8 #[.string s] w (ParseIt w (parseL s.data.toList)) := by
  have := parse_any s.data.toList w hm (by rw [str_len]; exact hl)
  rwa [bytes_eq] at this

set_option maxRecDepth 100000 in
set_option maxHeartbeats 4000000 in
theorem nameParses_walk (s : ByteArray) (hs : s.size ≤ maxLen) (w : World) (hm : MaxL w) :
    Calls Tryd.prog 3 #[.string s] w fun e w' => e = .returned (.bool true) ∧ Below w.heap.size w w' := by
  unfold maxLen at hs
  have HM := Lib.hid hm
  clear hm
  by_cases h3 : 3000 < s.size
  · go_enter Tryd.func3, Tryd.ntmps3
    go_wp2_with fail
    refine (names_any _ HM.out).mono ?_
    rintro e w1 ⟨rfl, hb⟩
    go_wp2_with fail
    go_ret
    exact ⟨rfl, hb⟩
  · have hpl := parse_len s.data.toList
    rw [str_len] at hpl
    have HP : Hid (∀ W, MaxL W → Calls Tryd.prog 8 #[.string s] W (ParseIt W (parseL s.data.toList))) := Lib.hid (fun W h => parse_bytes s W h (by omega))
    have HQ : Hid (∀ W, Calls Tryd.prog 9 #[.string s] W (ParseIt W (parseL s.data.toList))) := Lib.hid (fun W => rparse_any s W (by omega))
    obtain ⟨g, hg⟩ : ∃ g, g = parseL s.data.toList := ⟨_, rfl⟩
    rw [← hg] at HP HQ hpl
    clear hg
    obtain ⟨pl, pe⟩ := g
    simp only at hpl
    have HS : Hid (∀ (A B : Option Addr) (c d : Nat) (W : World), RowV W A (labV pl) → RowV W B (labV pl) → Calls Tryd.prog 10 #[.slice A pl.length c, .slice B pl.length d] W fun e w' => e = .returned (.bool true) ∧ Below W.heap.size W w') := Lib.hid (fun A B c d W h1 h2 => by
      have := same_strs pl pl A B c d W h1 h2 (by omega) (by omega)
      rwa [beq_self_eq_true] at this)
    go_enter Tryd.func3, Tryd.ntmps3
    go_wp2_with fail
    refine (HP.out _ HM.out).mono ?_
    rintro e w1 ⟨A1, c1, rfl, hr1, hc1, hb1⟩
    have HR1 := Lib.hid hr1
    have HB1 := Lib.hid hb1
    clear hr1 hb1 hc1
    go_wp2_with fail
    refine (HQ.out _).mono ?_
    rintro e w2 ⟨A2, c2, rfl, hr2, hc2, hb2⟩
    have HR2 := Lib.hid hr2
    have HR12 := Lib.hid (HR1.out.below hb2)
    have HB2 := Lib.hid (below_chain HB1.out hb2)
    clear hr2 hb2 hc2
    go_wp2_with fail
    refine (HS.out _ _ _ _ _ HR12.out HR2.out).mono ?_
    rintro e w3 ⟨rfl, hb3⟩
    have HB3 := Lib.hid (below_chain HB2.out hb3)
    clear hb3
    go_wp2_with fail
    refine (names_any _ (HM.out.below HB3.out)).mono ?_
    rintro e w4 ⟨rfl, hb4⟩
    go_wp2_with fail
    go_ret
    exact ⟨rfl, below_chain HB3.out hb4⟩

set_option maxRecDepth 100000 in
set_option maxHeartbeats 4000000 in
theorem nameTexts_core (l : List (List UInt8)) (A : Option Addr) (c : Nat) (hcap : l.length ≤ c) (hlm : l.length ≤ 9223372036854775807) (hsz : ∀ s ∈ l, s.length ≤ 9223372036854775807) (w : World) (hr : RowV w A (labV l)) (hm : MaxL w) :
    Calls Tryd.prog 4 #[.slice A l.length c] w fun e w' => e = .returned (.bool true) ∧ Below w.heap.size w w' := by
  have HM := Lib.hid hm
  have HR := Lib.hid hr
  have HF := Lib.hid (few_any l A c 300 3000 w hr hsz hlm (by omega) (by omega))
  clear hm hr hsz
  go_enter Tryd.func4, Tryd.ntmps4
  go_wp2_with fail
  refine HF.out.mono ?_
  rintro e w1 ⟨q, rfl, hq, hb1⟩
  have HB1 := Lib.hid hb1
  clear hb1
  rcases q with _ | _
  · clear hq
    go_wp2_with fail
    refine (names_any _ (HM.out.below HB1.out)).mono ?_
    rintro e w2 ⟨rfl, hb2⟩
    go_wp2_with fail
    go_ret
    exact ⟨rfl, below_chain HB1.out hb2⟩
  · obtain ⟨h300, hwl⟩ := hq rfl
    have HT : Hid (∀ W, Below w.heap.size w W → Calls Tryd.prog 12 #[.slice A l.length c] W (TextIt W (textL l))) := Lib.hid (fun W h => text_any l A c W (HR.out.below h) hcap (by omega))
    have HU : Hid (∀ W, Below w.heap.size w W → Calls Tryd.prog 13 #[.slice A l.length c] W (TextIt W (textL l))) := Lib.hid (fun W h => rtext_any l A c W (HR.out.below h) (by omega))
    have HC : Hid (∀ W, Below w.heap.size w W → Calls Tryd.prog 14 #[.slice A l.length c] W fun e w' => e = .returned (.int .i64 (checkL l)) ∧ Below W.heap.size W w') := Lib.hid (fun W h => check_any l A c W (HR.out.below h) (by omega) (fun s hs => by have := wireL_mem hs; omega))
    have HD : Hid (∀ W, Below w.heap.size w W → Calls Tryd.prog 15 #[.slice A l.length c] W fun e w' => e = .returned (.int .i64 (checkL l)) ∧ w' = W) := Lib.hid (fun W h => rcheck_any l A c W (HR.out.below h) (by omega))
    have HW : Hid (∀ W, Below w.heap.size w W → Calls Tryd.prog 16 #[.slice A l.length c] W fun e w' => e = .returned (.int .i64 (wireL l : Nat)) ∧ w' = W) := Lib.hid (fun W h => wire_any l A c W (HR.out.below h) (by omega))
    have HX : Hid (∀ W, Below w.heap.size w W → Calls Tryd.prog 17 #[.slice A l.length c] W fun e w' => e = .returned (.int .i64 (wireL l : Nat)) ∧ w' = W) := Lib.hid (fun W h => rwire_any l A c W (HR.out.below h) (by omega))
    obtain ⟨g, hg⟩ : ∃ g, g = textL l := ⟨_, rfl⟩
    rw [← hg] at HT HU
    obtain ⟨ce, hce⟩ : ∃ ce, ce = checkL l := ⟨_, rfl⟩
    rw [← hce] at HC HD
    obtain ⟨wl, hwe⟩ : ∃ wl, wl = wireL l := ⟨_, rfl⟩
    rw [← hwe] at HW HX
    clear hg hce hwe hq hwl
    obtain ⟨tl, te⟩ := g
    obtain ⟨tv, htv⟩ : ∃ tv, tv = ByteArray.mk tl.toArray := ⟨_, rfl⟩
    have HT2 : Hid (∀ W, Below w.heap.size w W → Calls Tryd.prog 12 #[.slice A l.length c] W fun e w' => e = .returned (.tuple #[.string tv, .int .i64 te]) ∧ Below W.heap.size W w') := Lib.hid (by rw [htv]; exact HT.out)
    have HU2 : Hid (∀ W, Below w.heap.size w W → Calls Tryd.prog 13 #[.slice A l.length c] W fun e w' => e = .returned (.tuple #[.string tv, .int .i64 te]) ∧ Below W.heap.size W w') := Lib.hid (by rw [htv]; exact HU.out)
    clear htv HT HU
    go_wp2_with fail
    refine (HT2.out _ HB1.out).mono ?_
    rintro e w2 ⟨rfl, hb2⟩
    have HB2 := Lib.hid (below_chain HB1.out hb2)
    clear hb2
    go_wp2_with fail
    refine (HU2.out _ HB2.out).mono ?_
    rintro e w3 ⟨rfl, hb3⟩
    have HB3 := Lib.hid (below_chain HB2.out hb3)
    clear hb3
    go_wp2_with fail
    refine (HC.out _ HB3.out).mono ?_
    rintro e w4 ⟨rfl, hb4⟩
    have HB4 := Lib.hid (below_chain HB3.out hb4)
    clear hb4
    go_wp2_with fail
    refine (HD.out _ HB4.out).mono ?_
    rintro e w5 ⟨rfl, hw5⟩
    rw [hw5]
    clear hw5 w5
    go_wp2_with fail
    refine (HW.out _ HB4.out).mono ?_
    rintro e w5 ⟨rfl, hw5⟩
    rw [hw5]
    clear hw5 w5
    go_wp2_with fail
    refine (HX.out _ HB4.out).mono ?_
    rintro e w5 ⟨rfl, hw5⟩
    rw [hw5]
    clear hw5 w5
    go_wp2_with fail
    refine (names_any _ (HM.out.below HB4.out)).mono ?_
    rintro e w5 ⟨rfl, hb5⟩
    go_wp2_with fail
    go_ret
    exact ⟨rfl, below_chain HB4.out hb5⟩
theorem nameTexts_walk (A : Option Addr) (l : List ByteArray) (c : Nat) (hlc : l.length ≤ c) (hcm : c ≤ maxLen) (hsz : ∀ s ∈ l, s.size ≤ maxLen) (w : World) (hr : RowV w A (strsV l)) (hm : MaxL w) :
    Calls Tryd.prog 4 #[.slice A l.length c] w fun e w' => e = .returned (.bool true) ∧ Below w.heap.size w w' := by
  unfold maxLen at hcm hsz
  rw [strsV_lab] at hr
  have := nameTexts_core (l.map fun s => s.data.toList) A c (by rw [List.length_map]; exact hlc) (by rw [List.length_map]; omega) (fun s hs => by
    obtain ⟨b, hb, rfl⟩ := List.mem_map.1 hs
    have := hsz b hb
    rw [str_len]
    omega) w hr hm
  rwa [List.length_map] at this

set_option maxRecDepth 100000 in
set_option maxHeartbeats 4000000 in
theorem nameShares_core (a b : List (List UInt8)) (A B : Option Addr) (ca cb : Nat) (hla : a.length ≤ 9223372036854775807) (hlb : b.length ≤ 9223372036854775807) (hsa : ∀ s ∈ a, s.length ≤ 9223372036854775807) (hsb : ∀ s ∈ b, s.length ≤ 9223372036854775807) (w : World) (hra : RowV w A (labV a)) (hrb : RowV w B (labV b)) (hm : MaxL w) :
    Calls Tryd.prog 5 #[.slice A a.length ca, .slice B b.length cb] w fun e w' => e = .returned (.bool true) ∧ Below w.heap.size w w' := by
  have HM := Lib.hid hm
  have HA := Lib.hid hra
  have HB := Lib.hid hrb
  have HF := Lib.hid (few_any a A ca 300 3000 w hra hsa hla (by omega) (by omega))
  have HG : Hid (∀ W, Below w.heap.size w W → Calls Tryd.prog 11 #[.slice B b.length cb, .int .i64 300, .int .i64 3000] W (FewIt W b 300 3000)) := Lib.hid (fun W h => few_any b B cb 300 3000 W (HB.out.below h) hsb hlb (by omega) (by omega))
  clear hm hra hrb hsa hsb
  go_enter Tryd.func5, Tryd.ntmps5
  go_wp2_with fail
  refine HF.out.mono ?_
  rintro e w1 ⟨q, rfl, hq, hb1⟩
  have HB1 := Lib.hid hb1
  clear hb1
  rcases q with _ | _
  · clear hq
    go_wp2_with fail
    refine (names_any _ (HM.out.below HB1.out)).mono ?_
    rintro e w2 ⟨rfl, hb2⟩
    go_wp2_with fail
    go_ret
    exact ⟨rfl, below_chain HB1.out hb2⟩
  · obtain ⟨ha300, hwa⟩ := hq rfl
    clear hq
    go_wp2_with fail
    refine (HG.out _ HB1.out).mono ?_
    rintro e w2 ⟨q, rfl, hq, hb2⟩
    have HB2 := Lib.hid (below_chain HB1.out hb2)
    clear hb2
    rcases q with _ | _
    · clear hq
      go_wp2_with fail
      refine (names_any _ (HM.out.below HB2.out)).mono ?_
      rintro e w3 ⟨rfl, hb3⟩
      go_wp2_with fail
      go_ret
      exact ⟨rfl, below_chain HB2.out hb3⟩
    · obtain ⟨hb300, hwb⟩ := hq rfl
      clear hq
      have HS : Hid (∀ W, Below w.heap.size w W → Calls Tryd.prog 18 #[.slice A a.length ca, .slice B b.length cb] W fun e w' => e = .returned (.int .i64 (sharedL a b : Nat)) ∧ Below W.heap.size W w') := Lib.hid (fun W h => rshared_any a b A B ca cb W (HA.out.below h) (HB.out.below h) (by omega) (by omega))
      have HT : Hid (∀ W, Below w.heap.size w W → Calls Tryd.prog 19 #[.slice A a.length ca, .slice B b.length cb] W fun e w' => e = .returned (.int .i64 (sharedL a b : Nat)) ∧ Below W.heap.size W w') := Lib.hid (fun W h => shared_any a b A B ca cb W (HA.out.below h) (HB.out.below h) (by omega) (by omega))
      have HU : Hid (∀ W, Below w.heap.size w W → Calls Tryd.prog 19 #[.slice B b.length cb, .slice A a.length ca] W fun e w' => e = .returned (.int .i64 (sharedL a b : Nat)) ∧ Below W.heap.size W w') := Lib.hid (fun W h => by
        rw [sharedL_comm]
        exact shared_any b a B A cb ca W (HB.out.below h) (HA.out.below h) (by omega) (by omega))
      have HV : Hid (∀ W, Below w.heap.size w W → Calls Tryd.prog 20 #[.slice A a.length ca, .slice B b.length cb] W fun e w' => e = .returned (.bool (decide (sharedL a b = b.length))) ∧ Below W.heap.size W w') := Lib.hid (fun W h => below_any a b A B ca cb W (HA.out.below h) (HB.out.below h) (by omega) (by omega))
      obtain ⟨n, hn⟩ : ∃ n, n = sharedL a b := ⟨_, rfl⟩
      rw [← hn] at HS HT HU HV
      clear hn hwa hwb
      by_cases he : n = b.length
      · have t1 : ((n : Int) == (b.length : Int)) = true := by rw [he]; simp
        rw [decide_eq_true he] at HV
        clear he
        go_wp2_with fail
        refine (HS.out _ HB2.out).mono ?_
        rintro e w3 ⟨rfl, hb3⟩
        have HB3 := Lib.hid (below_chain HB2.out hb3)
        clear hb3
        go_wp2_with fail
        refine (HT.out _ HB3.out).mono ?_
        rintro e w4 ⟨rfl, hb4⟩
        have HB4 := Lib.hid (below_chain HB3.out hb4)
        clear hb4
        go_wp2_with fail
        refine (HU.out _ HB4.out).mono ?_
        rintro e w5 ⟨rfl, hb5⟩
        have HB5 := Lib.hid (below_chain HB4.out hb5)
        clear hb5
        go_wp2_with fail
        refine (HV.out _ HB5.out).mono ?_
        rintro e w6 ⟨rfl, hb6⟩
        have HB6 := Lib.hid (below_chain HB5.out hb6)
        clear hb6
        go_wp2_with fail
        refine (names_any _ (HM.out.below HB6.out)).mono ?_
        rintro e w7 ⟨rfl, hb7⟩
        go_wp2_with fail
        go_ret
        exact ⟨rfl, below_chain HB6.out hb7⟩
      · have t1 : ((n : Int) == (b.length : Int)) = false := by rw [beq_eq_false_iff_ne]; omega
        rw [decide_eq_false he] at HV
        clear he
        go_wp2_with fail
        refine (HS.out _ HB2.out).mono ?_
        rintro e w3 ⟨rfl, hb3⟩
        have HB3 := Lib.hid (below_chain HB2.out hb3)
        clear hb3
        go_wp2_with fail
        refine (HT.out _ HB3.out).mono ?_
        rintro e w4 ⟨rfl, hb4⟩
        have HB4 := Lib.hid (below_chain HB3.out hb4)
        clear hb4
        go_wp2_with fail
        refine (HU.out _ HB4.out).mono ?_
        rintro e w5 ⟨rfl, hb5⟩
        have HB5 := Lib.hid (below_chain HB4.out hb5)
        clear hb5
        go_wp2_with fail
        refine (HV.out _ HB5.out).mono ?_
        rintro e w6 ⟨rfl, hb6⟩
        have HB6 := Lib.hid (below_chain HB5.out hb6)
        clear hb6
        go_wp2_with fail
        refine (names_any _ (HM.out.below HB6.out)).mono ?_
        rintro e w7 ⟨rfl, hb7⟩
        go_wp2_with fail
        go_ret
        exact ⟨rfl, below_chain HB6.out hb7⟩
theorem nameShares_walk (A : Option Addr) (a : List ByteArray) (ca : Nat) (hca : a.length ≤ ca) (hcma : ca ≤ maxLen) (hsa : ∀ s ∈ a, s.size ≤ maxLen) (B : Option Addr) (b : List ByteArray) (cb : Nat) (hcb : b.length ≤ cb) (hcmb : cb ≤ maxLen) (hsb : ∀ s ∈ b, s.size ≤ maxLen)
    (w : World) (hra : RowV w A (strsV a)) (hrb : RowV w B (strsV b)) (hm : MaxL w) :
    Calls Tryd.prog 5 #[.slice A a.length ca, .slice B b.length cb] w fun e w' => e = .returned (.bool true) ∧ Below w.heap.size w w' := by
  unfold maxLen at hcma hcmb hsa hsb
  rw [strsV_lab] at hra hrb
  have := nameShares_core (a.map fun s => s.data.toList) (b.map fun s => s.data.toList) A B ca cb (by rw [List.length_map]; omega) (by rw [List.length_map]; omega) (fun s hs => by
    obtain ⟨b, hb, rfl⟩ := List.mem_map.1 hs
    have := hsa b hb
    rw [str_len]
    omega) (fun s hs => by
    obtain ⟨b, hb, rfl⟩ := List.mem_map.1 hs
    have := hsb b hb
    rw [str_len]
    omega) w hra hrb hm
  rwa [List.length_map, List.length_map] at this
end Go.Proofs.YtfnpjcfaabbejaaDoor
