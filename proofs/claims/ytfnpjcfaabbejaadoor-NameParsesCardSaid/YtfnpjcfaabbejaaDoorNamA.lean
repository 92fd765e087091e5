/-
  The walks of the reference's Check, and of name's Parse and Text. Texts of at most 100000 bytes; names of fewer than 2^40.
-/
import Derived.Test.YtfnpjcfaabbejaaDoorNamG
import Derived.Test.YtfnpjcfaabbejaaDoorNamP
import Derived.Test.YtfnpjcfaabbejaaDoorSpl
import Derived.Test.YtfnpjcfaabbejaaDoorJon
namespace Go.Wirep
open Go.Foldp
theorem splitL_wire : ∀ s : List UInt8, wireL (splitL s) = s.length + 2
  | [] => rfl
  | c :: r => by
    obtain ⟨x, xs, e⟩ := splitL_some r
    have ih := splitL_wire r
    by_cases h : c = 46
    · subst h
      rw [splitL_dot]
      simp only [wireL, List.length_nil, List.length_cons]
      omega
    · rw [splitL_cons h e]
      rw [e] at ih
      simp only [wireL, List.length_cons] at ih ⊢
      omega
theorem wireL_mem : ∀ {l : List (List UInt8)} {s : List UInt8}, s ∈ l → s.length < wireL l
  | x :: r, s, h => by
    rcases List.mem_cons.1 h with rfl | h
    · simp only [wireL]
      omega
    · have := wireL_mem h
      simp only [wireL]
      omega
theorem joinTail_len : ∀ r : List (List UInt8), (Lib.joinTail [46] r).length + 1 ≤ wireL r
  | [] => by simp [Lib.joinTail, wireL]
  | s :: r => by
    have := joinTail_len r
    rw [tail_cons]
    simp only [wireL, List.length_append, List.length_cons, List.length_nil]
    omega
theorem join_len : ∀ l : List (List UInt8), (Lib.join l [46]).length ≤ wireL l
  | [] => by simp [Lib.join_nil]
  | s :: r => by
    have := joinTail_len r
    rw [Lib.join_cons]
    simp only [wireL, List.length_append]
    omega
end Go.Wirep
namespace Go.Proofs.YtfnpjcfaabbejaaDoor
open Go.RowKit Go.Foldp Go.Colm Go.Wirep
set_option linter.unusedVariables false

/-- internal/bytealg.MaxLen holds some number. -/
def MaxL (w : World) : Prop := ∃ m : Int, w.cell? ⟨0, 0, none⟩ = some (.int .i64 m)
theorem MaxL.below {w w' : World} (h : MaxL w) (hb : Below w.heap.size w w') : MaxL w' := by
  obtain ⟨m, hm⟩ := h
  exact ⟨m, (hb.cell (lt_of_cell hm)).trans hm⟩

set_option maxRecDepth 100000 in
set_option maxHeartbeats 1000000 in
theorem rcheck_any (l : List (List UInt8)) (A : Option Addr) (c : Nat) (w : World) (hr : RowV w A (labV l)) (hl : wireL l < 1099511627776) :
    Calls Tryd.prog 15 #[.slice A l.length c] w fun e w' => e = .returned (.int .i64 (checkL l)) ∧ w' = w := by
  have HR := Lib.hid hr
  have hlen := wireL_len l
  have HW := Lib.hid (rwire_any l A c w hr hl)
  have hck : checkL l = if firstL l = 0 then (if 255 < wireL l then 21 else 0) else 20 := by
    unfold checkL firstL
    split <;> simp
  have HLB : Hid (∀ k, (hk : k < l.length) → ∀ W, Calls Tryd.prog 28 #[.string ⟨l[k].toArray⟩] W fun e w' => e = .returned (.int .i64 (labelE l[k])) ∧ W = w') := Lib.hid fun k hk W => by
    have h1 := wireL_mem (List.getElem_mem hk)
    have := rlabel_any ⟨l[k].toArray⟩ W (by rw [str_size]; omega)
    simpa using this
  have HCK := Lib.hid hck
  clear hr hck
  go_enter Tryd.func15, Tryd.ntmps15
  go_wp2_with fail
  go_loop [3] (fun i => ∃ k : Nat, k ≤ l.length ∧ i = .int .i64 k ∧ Hid (∀ j, j < k → (hj : j < l.length) → labelE l[j] = 0)) (fun i => l.length - (intOf i).toNat)
  case atStart => exact ⟨0, Nat.zero_le _, rfl, Lib.hid (by intro j hj; omega)⟩
  case round =>
    obtain ⟨k, hk, rfl, HO⟩ := hrel
    by_cases hlt : k < l.length
    · obtain ⟨b, off, rfl, hc⟩ := labV_at HR.out hlt
      have hlab := HLB.out k hlt
      obtain ⟨le, hle⟩ : ∃ le, le = labelE l[k] := ⟨_, rfl⟩
      simp only [← hle] at hlab
      obtain ⟨sk, hsk⟩ : ∃ s, s = ByteArray.mk l[k].toArray := ⟨_, rfl⟩
      rw [← hsk] at hc
      simp only [← hsk] at hlab
      have HLAB := Lib.hid hlab
      by_cases h0 : le = 0
      · have HO2 : Hid (∀ j, j < k + 1 → (hj : j < l.length) → labelE l[j] = 0) := Lib.hid (by
          intro j hj hj1
          rcases Nat.lt_or_ge j k with h | h
          · exact HO.out j h hj1
          · have : j = k := by omega
            subst this
            exact hle ▸ h0)
        subst h0
        clear hlab hle hsk
        go_wp2_with fail
        refine (HLAB.out _).mono ?_
        rintro e w2 ⟨rfl, rfl⟩
        go_wp2_with fail
        go_round
        case rel => exact ⟨k + 1, by omega, by go_num, HO2⟩
        case measure => simp [intOf]; omega
      · have t1 : (le != 0) = true := by rwa [bne_iff_ne]
        have HF : Hid (checkL l = 20) := Lib.hid (by rw [HCK.out, firstL_bad hlt (hle ▸ h0)]; rfl)
        clear hlab hle hsk h0
        go_wp2_with fail
        refine (HLAB.out _).mono ?_
        rintro e w2 ⟨rfl, rfl⟩
        go_wp2_with fail
        go_ret
        exact ⟨ret_int HF.out.symm, rfl⟩
    · have HF : Hid (firstL l = 0) := Lib.hid (firstL_ok fun j hj => HO.out j (by omega) hj)
      obtain ⟨WL, hWL⟩ : ∃ f, f = wireL l := ⟨_, rfl⟩
      have HCW : Hid (checkL l = if 255 < WL then 21 else 0) := Lib.hid (by rw [HCK.out, HF.out, hWL]; rfl)
      rw [← hWL] at HW
      clear hWL hlen
      by_cases h3 : 255 < WL
      all_goals
        go_wp2_with fail
        refine HW.out.mono ?_
        rintro e w3 ⟨rfl, rfl⟩
        go_wp2_with fail
        go_ret
        refine ⟨ret_int ?_, rfl⟩
        rw [HCW.out]
        simp [h3]

/-- What comes of parsing. -/
def ParseIt (w : World) (g : List (List UInt8) × Int) (e : Ending) (w' : World) : Prop :=
  ∃ A c, e = .returned (.tuple #[.slice A g.1.length c, .int .i64 g.2]) ∧ RowV w' A (labV g.1) ∧ g.1.length ≤ c ∧ Below w.heap.size w w'
theorem ParseIt.err {w w' : World} {g : List (List UInt8) × Int} {x : Int} (h : g = ([], x)) (hb : Below w.heap.size w w') : ParseIt w g (.returned (.tuple #[.slice none 0 0, .int .i64 x])) w' := by
  subst h
  exact ⟨none, 0, rfl, RowV.nil _ _, Nat.le_refl _, hb⟩
theorem bytes_eq (b : ByteArray) : (⟨b.data.toList.toArray⟩ : ByteArray) = b := by
  obtain ⟨a⟩ := b
  simp
theorem split_parts (t : List UInt8) (W : World) (hm : MaxL W) (ht : t.length < 4294967281) :
    Calls Tryd.prog 21 #[.string ⟨t.toArray⟩, .string ⟨#[46]⟩] W fun e w' => ∃ A c, e = .returned (.slice A (splitL t).length c) ∧ RowV w' A (labV (splitL t)) ∧ (splitL t).length ≤ c ∧ Below W.heap.size W w' := by
  obtain ⟨m, hm⟩ := hm
  refine (split_any ⟨t.toArray⟩ ⟨#[46]⟩ m W (by rw [str_size]; omega) hm (by decide)).mono ?_
  rintro e w' ⟨rfl, rfl⟩
  have hd := Lib.splitB_data ⟨#[46]⟩ 0 (Lib.countB ⟨t.toArray⟩ ⟨#[46]⟩) ⟨t.toArray⟩
  have hcb : Lib.countB ⟨t.toArray⟩ ⟨#[46]⟩ = Lib.count t [46] := by simp [Lib.countB]
  have hs : Lib.splitK ([46] : List UInt8) 0 (Lib.count t [46]) t = splitL t := lib_split t
  have hd2 : (Lib.splitB ⟨#[46]⟩ 0 (Lib.countB ⟨t.toArray⟩ ⟨#[46]⟩) ⟨t.toArray⟩).map (·.data.toList) = splitL t := by
    rw [hd, hcb]
    exact hs
  have hlen := Lib.splitB_all ⟨#[46]⟩ (by decide) 0 _ ⟨t.toArray⟩ rfl
  have hl2 : (splitL t).length = Lib.countB ⟨t.toArray⟩ ⟨#[46]⟩ + 1 := by rw [← hd2, List.length_map, hlen]
  refine ⟨_, _, by rw [hl2], ?_, by omega, (Below.refl _ _).alloc (Nat.le_refl _) _⟩
  have hrow := RowV.new W 9 ((Lib.splitB ⟨#[46]⟩ 0 (Lib.countB ⟨t.toArray⟩ ⟨#[46]⟩) ⟨t.toArray⟩).map Value.string).toArray
  have he : labV (splitL t) = ((Lib.splitB ⟨#[46]⟩ 0 (Lib.countB ⟨t.toArray⟩ ⟨#[46]⟩) ⟨t.toArray⟩).map Value.string).toArray.toList := by
    rw [← hd2, labV, List.map_map]
    simp
  rw [he]
  exact hrow

set_option maxRecDepth 100000 in
set_option maxHeartbeats 2000000 in
theorem parse_any (l : List UInt8) (w : World) (hm : MaxL w) (hl : l.length ≤ 100000) :
    Calls Tryd.prog 8 #[.string ⟨l.toArray⟩] w (ParseIt w (parseL l)) := by
  have hsz := str_size l
  have htr := fun W => trim_any ⟨l.toArray⟩ ⟨#[46]⟩ W (by omega)
  have hlt := trimDot_le l
  have hll := lowL_length (trimDot l)
  have hlo := fun W => lower_any ⟨(trimDot l).toArray⟩ W (by rw [str_size]; omega)
  have hsp := fun W hm => split_parts (lowL (trimDot l)) W hm (by omega)
  have hw := splitL_wire (lowL (trimDot l))
  have heq : ((ByteArray.mk l.toArray).toList == [46]) = decide (l = [46]) := by
    rw [ByteArray.toList_mk, Bool.eq_iff_iff]
    simp
  have htr2 : ∀ W, Calls Tryd.prog 23 #[.string ⟨l.toArray⟩, .string ⟨#[46]⟩] W fun e w' => e = .returned (.string ⟨(trimDot l).toArray⟩) ∧ w' = W := fun W => by simpa [trimDot] using htr W
  have hlo2 : ∀ W, Calls Tryd.prog 22 #[.string ⟨(trimDot l).toArray⟩] W fun e w' => e = .returned (.string ⟨(lowL (trimDot l)).toArray⟩) ∧ Below W.heap.size W w' := fun W => by simpa using hlo W
  have hpl : parseL l = if l = [46] then ([], 0) else if checkL (splitL (lowL (trimDot l))) = 0 then (splitL (lowL (trimDot l)), 0) else ([], checkL (splitL (lowL (trimDot l)))) := rfl
  obtain ⟨ps, hps⟩ : ∃ ps, ps = splitL (lowL (trimDot l)) := ⟨_, rfl⟩
  simp only [← hps] at hsp hw hpl
  have hck : ∀ A c W, RowV W A (labV ps) → Calls Tryd.prog 14 #[.slice A ps.length c] W fun e w' => e = .returned (.int .i64 (checkL ps)) ∧ Below W.heap.size W w' := fun A c W hr => check_any ps A c W hr (by omega) (fun s hs => by have := wireL_mem hs; omega)
  obtain ⟨ce, hce⟩ : ∃ ce, ce = checkL ps := ⟨_, rfl⟩
  simp only [← hce] at hck hpl
  obtain ⟨sv, hsv⟩ : ∃ sv, sv = ByteArray.mk l.toArray := ⟨_, rfl⟩
  obtain ⟨tv, htv⟩ : ∃ tv, tv = ByteArray.mk (trimDot l).toArray := ⟨_, rfl⟩
  obtain ⟨lv, hlv⟩ : ∃ lv, lv = ByteArray.mk (lowL (trimDot l)).toArray := ⟨_, rfl⟩
  simp only [← hsv] at htr2 heq
  simp only [← htv] at htr2 hlo2
  simp only [← hlv] at hlo2 hsp
  rw [← hsv]
  have HTR := Lib.hid htr2
  have HLO := Lib.hid hlo2
  have HSP := Lib.hid hsp
  have HCK := Lib.hid hck
  have HPL := Lib.hid hpl
  have HM := Lib.hid hm
  clear htr htr2 hlo hlo2 hsp hck hpl hm hsv htv hlv hps hce hw hlt hll hsz
  by_cases h46 : l = [46]
  · have t1 : (sv.toList == [46]) = true := by rw [heq, decide_eq_true h46]
    have HF := Lib.hid (ParseIt.err (g := parseL l) (w := w) (by rw [HPL.out, if_pos h46]) (Below.refl _ w))
    clear heq h46
    go_enter Tryd.func8, Tryd.ntmps8
    go_wp2_with fail
    go_ret2
    exact HF.out
  · have t1 : (sv.toList == [46]) = false := by rw [heq, decide_eq_false h46]
    have HPL2 : Hid (parseL l = if ce = 0 then (ps, 0) else ([], ce)) := Lib.hid (by rw [HPL.out, if_neg h46])
    clear heq h46 HPL
    go_enter Tryd.func8, Tryd.ntmps8
    go_wp2_with fail
    refine (HTR.out _).mono ?_
    rintro e w1 ⟨rfl, hw1⟩
    rw [hw1]
    clear hw1 w1
    go_wp2_with fail
    refine (HLO.out _).mono ?_
    rintro e w2 ⟨rfl, hb2⟩
    have HB2 := Lib.hid hb2
    clear hb2
    go_wp2_with fail
    refine (HSP.out _ (HM.out.below HB2.out)).mono ?_
    rintro e w3 ⟨A3, c3, rfl, hr3, hc3, hb3⟩
    have HR3 := Lib.hid hr3
    have HB3 := Lib.hid (below_chain HB2.out hb3)
    clear hr3 hb3
    go_wp2_with fail
    refine (HCK.out _ _ _ HR3.out).mono ?_
    rintro e w4 ⟨rfl, hb4⟩
    have HR4 := Lib.hid (HR3.out.below hb4)
    have HB4 := Lib.hid (below_chain HB3.out hb4)
    clear hb4
    by_cases h0 : ce = 0
    · have HF : Hid (ParseIt w (parseL l) (.returned (.tuple #[.slice A3 ps.length c3, .int .i64 0])) w4) := Lib.hid (by
        rw [HPL2.out, if_pos h0]
        exact ⟨A3, c3, rfl, HR4.out, hc3, HB4.out⟩)
      subst h0
      go_wp2_with fail
      go_ret2
      exact HF.out
    · have t2 : (ce != 0) = true := by rwa [bne_iff_ne]
      have HF := Lib.hid (ParseIt.err (g := parseL l) (w := w) (w' := w4) (by rw [HPL2.out, if_neg h0]) HB4.out)
      clear h0
      go_wp2_with fail
      go_ret2
      exact HF.out

/-- What comes of a text. -/
def TextIt (w : World) (g : List UInt8 × Int) (e : Ending) (w' : World) : Prop :=
  e = .returned (.tuple #[.string ⟨g.1.toArray⟩, .int .i64 g.2]) ∧ Below w.heap.size w w'
theorem TextIt.mk {w w' : World} {g : List UInt8 × Int} {x : Int} {s : List UInt8} (h : g = (s, x)) (hb : Below w.heap.size w w') : TextIt w g (.returned (.tuple #[.string ⟨s.toArray⟩, .int .i64 x])) w' := by
  subst h
  exact ⟨rfl, hb⟩

set_option maxRecDepth 100000 in
set_option maxHeartbeats 2000000 in
theorem text_any (l : List (List UInt8)) (A : Option Addr) (c : Nat) (w : World) (hr : RowV w A (labV l)) (hcap : l.length ≤ c) (hl : wireL l < 1099511627776) :
    Calls Tryd.prog 12 #[.slice A l.length c] w (TextIt w (textL l)) := by
  have hlen := wireL_len l
  have hck := check_any l A c w hr hl (fun s hs => by have := wireL_mem hs; omega)
  have htx : textL l = if checkL l = 0 then (if l = [] then ([46], 0) else (Lib.join l [46], 0)) else ([], checkL l) := rfl
  have hjl := join_len l
  have hj : l ≠ [] → ∀ W, Below w.heap.size w W → Calls Tryd.prog 25 #[.slice A l.length c, .string ⟨#[46]⟩] W fun e w' => e = .returned (.string ⟨(Lib.join l [46]).toArray⟩) ∧ Below W.heap.size W w' := fun hne W hb => by
    have h0 : 0 < l.length := List.length_pos_iff.2 hne
    have hrW := hr.below hb
    obtain ⟨bk, o, e, hc0⟩ := labV_at hrW h0
    have := join_any bk o c (l.map fun s => ⟨s.toArray⟩) ⟨#[46]⟩ W (fun j x hx => by
      obtain ⟨s, hs, rfl⟩ := List.mem_map.1 (List.mem_of_getElem? hx)
      rw [List.getElem?_map] at hx
      obtain ⟨y, hy, e2⟩ := Option.map_eq_some_iff.1 hx
      obtain ⟨hjl, rfl⟩ := List.getElem?_eq_some_iff.1 hy
      obtain ⟨b2, o2, e3, hc2⟩ := labV_at hrW hjl
      rw [e] at e3
      cases e3
      rw [hc2, e2]) (lt_of_cell hc0) (by rw [List.length_map]; omega) (by rw [List.length_map]; exact hcap) (by
      rw [List.map_map]
      have : ((fun x : ByteArray => x.data.toList) ∘ fun s : List UInt8 => (⟨s.toArray⟩ : ByteArray)) = id := by funext s; simp
      rw [this, List.map_id]
      show (Lib.join l [46]).length ≤ _
      omega)
    rw [List.length_map, List.map_map] at this
    have h2 : ((fun x : ByteArray => x.data.toList) ∘ fun s : List UInt8 => (⟨s.toArray⟩ : ByteArray)) = id := by funext s; simp
    rw [h2, List.map_id] at this
    rw [e]
    exact this
  obtain ⟨jl, hjv⟩ : ∃ jl, jl = Lib.join l [46] := ⟨_, rfl⟩
  simp only [← hjv] at hj htx
  obtain ⟨ce, hce⟩ : ∃ ce, ce = checkL l := ⟨_, rfl⟩
  simp only [← hce] at hck htx
  have HCK := Lib.hid hck
  have HTX := Lib.hid htx
  have HJ := Lib.hid hj
  clear hr hck htx hj hjl hjv hce hlen
  go_enter Tryd.func12, Tryd.ntmps12
  go_wp2_with fail
  refine HCK.out.mono ?_
  rintro e w2 ⟨rfl, hb2⟩
  have HB2 := Lib.hid hb2
  clear hb2
  by_cases h0 : ce = 0
  · by_cases hne : l = []
    · have HF := Lib.hid (TextIt.mk (g := textL l) (w := w) (w' := w2) (s := [46]) (x := 0) (by rw [HTX.out, if_pos h0, if_pos hne]) HB2.out)
      subst h0
      subst hne
      go_wp2_with fail
      go_ret2
      exact HF.out
    · have hlp : 0 < l.length := List.length_pos_iff.2 hne
      have HF := Lib.hid (fun (w' : World) (hb : Below w.heap.size w w') => TextIt.mk (g := textL l) (w := w) (w' := w') (s := jl) (x := 0) (by rw [HTX.out, if_pos h0, if_neg hne]) hb)
      have HJ2 := Lib.hid (HJ.out hne w2 HB2.out)
      subst h0
      clear hne
      go_wp2_with fail
      refine HJ2.out.mono ?_
      rintro e w3 ⟨rfl, hb3⟩
      go_wp2_with fail
      go_ret2
      exact HF.out _ (below_chain HB2.out hb3)
  · have t2 : (ce != 0) = true := by rwa [bne_iff_ne]
    have HF := Lib.hid (TextIt.mk (g := textL l) (w := w) (w' := w2) (s := []) (x := ce) (by rw [HTX.out, if_neg h0]) HB2.out)
    clear h0
    go_wp2_with fail
    go_ret2
    exact HF.out
end Go.Proofs.YtfnpjcfaabbejaaDoor
