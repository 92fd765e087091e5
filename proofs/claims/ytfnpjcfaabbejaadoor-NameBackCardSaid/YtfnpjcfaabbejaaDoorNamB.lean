/-
  The walks of the reference's Parse and Text. Texts of at most 100000 bytes; names of fewer than 2^40.
-/
import Derived.Test.YtfnpjcfaabbejaaDoorNamA
import Derived.Lib.IndexBytes
namespace Go.Wirep
open Go.Foldp
/-- How far a text is cut: these parts are done, the next begins at fr, no dot from there to i. -/
def SplitAt (t : List UInt8) (done : List (List UInt8)) (fr i : Nat) : Prop :=
  (i ≤ t.length ∧ fr ≤ i ∧ (∀ j, fr ≤ j → j < i → t[j]? ≠ some 46) ∧ splitL t = done ++ splitL (t.drop fr)) ∨ (i = t.length + 1 ∧ fr = i ∧ splitL t = done)
theorem SplitAt.start (t : List UInt8) : SplitAt t [] 0 0 := .inl ⟨Nat.zero_le _, Nat.le_refl _, fun j _ h => by omega, rfl⟩
theorem SplitAt.on {t : List UInt8} {done : List (List UInt8)} {fr i : Nat} (h : SplitAt t done fr i) (hi : i < t.length) (hc : t[i] ≠ 46) : SplitAt t done fr (i + 1) := by
  rcases h with ⟨h1, h2, h3, h4⟩ | ⟨h1, _, _⟩
  · refine .inl ⟨hi, by omega, fun j hj hji => ?_, h4⟩
    by_cases e : j = i
    · subst e
      rw [List.getElem?_eq_getElem hi]
      exact fun e => hc (Option.some.inj e)
    · exact h3 j hj (by omega)
  · omega
theorem part_no_dot {t : List UInt8} {fr i : Nat} (h3 : ∀ j, fr ≤ j → j < i → t[j]? ≠ some 46) : ∀ c ∈ (t.drop fr).take (i - fr), c ≠ 46 := by
  intro c hc
  obtain ⟨j, hj, rfl⟩ := List.mem_iff_getElem.1 hc
  rw [List.length_take, List.length_drop] at hj
  have := h3 (fr + j) (by omega) (by omega)
  rw [List.getElem?_eq_getElem (by omega)] at this
  intro e
  apply this
  simpa using e
theorem SplitAt.dot {t : List UInt8} {done : List (List UInt8)} {fr i : Nat} (h : SplitAt t done fr i) (hi : i < t.length) (hc : t[i] = 46) : SplitAt t (done ++ [(t.drop fr).take (i - fr)]) (i + 1) (i + 1) := by
  rcases h with ⟨h1, h2, h3, h4⟩ | ⟨h1, _, _⟩
  · refine .inl ⟨hi, Nat.le_refl _, fun j hj hji => by omega, ?_⟩
    have e : t.drop fr = (t.drop fr).take (i - fr) ++ 46 :: t.drop (i + 1) := by
      conv => lhs; rw [← List.take_append_drop (i - fr) (t.drop fr)]
      rw [List.drop_drop, show fr + (i - fr) = i by omega, List.drop_eq_getElem_cons hi, hc]
    rw [h4]
    conv => lhs; rw [e]
    rw [splitL_part _ _ (part_no_dot h3), List.append_assoc, List.singleton_append]
  · omega
theorem SplitAt.last {t : List UInt8} {done : List (List UInt8)} {fr : Nat} (h : SplitAt t done fr t.length) : SplitAt t (done ++ [(t.drop fr).take (t.length - fr)]) (t.length + 1) (t.length + 1) := by
  rcases h with ⟨h1, h2, h3, h4⟩ | ⟨h1, _, _⟩
  · refine .inr ⟨rfl, rfl, ?_⟩
    have e : (t.drop fr).take (t.length - fr) = t.drop fr := List.take_of_length_le (by rw [List.length_drop]; omega)
    have hn := part_no_dot h3
    rw [e] at hn ⊢
    rw [h4, splitL_end _ hn]
  · omega
theorem SplitAt.all {t : List UInt8} {done : List (List UInt8)} {fr i : Nat} (h : SplitAt t done fr i) (hi : t.length < i) : splitL t = done := by
  rcases h with ⟨h1, _, _, _⟩ | ⟨_, _, h⟩
  · omega
  · exact h
theorem SplitAt.fr_le {t : List UInt8} {done : List (List UInt8)} {fr i : Nat} (h : SplitAt t done fr i) : fr ≤ i := by
  rcases h with ⟨_, h, _, _⟩ | ⟨_, h, _⟩
  · exact h
  · omega
theorem SplitAt.len {t : List UInt8} {done : List (List UInt8)} {fr i : Nat} (h : SplitAt t done fr i) : done.length ≤ t.length + 1 := by
  have hw := wireL_len (splitL t)
  rw [splitL_wire] at hw
  rcases h with ⟨_, _, _, h⟩ | ⟨_, _, h⟩
  · have := congrArg List.length h
    rw [List.length_append] at this
    omega
  · rw [← h]
    omega
theorem trim_dot_yes {a : List UInt8} : trimDot (a ++ [46]) = a := by
  unfold trimDot Lib.trimSuffix
  rw [if_pos (by unfold Lib.hasSuffix; simp)]
  simp
theorem trim_dot_at {l : List UInt8} (h : 0 < l.length) (hc : l[l.length - 1] = 46) : trimDot l = l.take (l.length - 1) := by
  have e : l = l.take (l.length - 1) ++ [46] := by
    conv => lhs; rw [← List.take_append_drop (l.length - 1) l]
    rw [List.drop_eq_getElem_cons (by omega), hc, List.drop_eq_nil_of_le (by omega)]
  conv => lhs; rw [e]
  exact trim_dot_yes
theorem trim_dot_no {l : List UInt8} (h : 0 < l.length) (hc : l[l.length - 1] ≠ 46) : trimDot l = l := by
  have e : l = l.take (l.length - 1) ++ [l[l.length - 1]] := by
    conv => lhs; rw [← List.take_append_drop (l.length - 1) l]
    rw [List.drop_eq_getElem_cons (by omega), List.drop_eq_nil_of_le (by omega)]
  rw [e]
  exact trim_none hc
end Go.Wirep
namespace Go.Proofs.YtfnpjcfaabbejaaDoor
open Go.RowKit Go.Foldp Go.Colm Go.Wirep
set_option linter.unusedVariables false

theorem str_info : (Tryd.prog.info? 9).map (fun i => (i.zero, i.size, i.bytes)) = some (some (.string ByteArray.empty), 1, 16) := by kernel_rfl
theorem own_kept {S : Nat → Prop} {w w' : World} {base : Nat} {e : TypeId} {size : Nat} {v : Value} {n : Nat} {xs : List Value} (hk : Kept S w w') (h : w.ownsRow base e size v n xs) (hs : ∀ k, v.ownBlock = some k → ¬ S k) : w'.ownsRow base e size v n xs := by
  refine ⟨h.1, ?_⟩
  rcases h.2 with h0 | ⟨g, cap, cur, rfl, hb, hg, rest⟩
  · exact .inl h0
  · refine .inr ⟨g, cap, cur, rfl, hb, (hk.block g ?_ (hs g rfl)).trans hg, rest⟩
    exact Whole.lt (t := e) (cs := cur) hg
theorem own_more {w : World} {base : Nat} {e : TypeId} {v : Value} {n : Nat} {xs : List Value} (h : w.ownsRow base e 1 v n xs) : ∃ A c, v = .slice A n c ∧ n ≤ c ∧ (∀ a, A = some a → a.spot = none) ∧ RowV w A xs := by
  rcases h with ⟨hl, h⟩
  rcases h with ⟨rfl, rfl⟩ | ⟨g, cap, cur, rfl, _, hg, hn, _, hcs, ht⟩
  · have : xs = [] := List.eq_nil_of_length_eq_zero (by simpa using hl)
    subst this
    exact ⟨none, 0, rfl, Nat.le_refl _, (fun a e => by cases e), fun i v hv => by simp at hv⟩
  · refine ⟨_, cap, rfl, hn, (fun a e => by cases e; rfl), fun i v hv => ⟨g, 0, rfl, ?_⟩⟩
    have hi : i < xs.length := (List.getElem?_eq_some_iff.1 hv).1
    rw [← ht, List.getElem?_take_of_lt (by omega)] at hv
    simp only [World.cell?, hg, Nat.zero_add]
    simpa using hv
theorem labV_low_snoc (done : List (List UInt8)) (x : List UInt8) : labV ((done ++ [x]).map lowL) = labV (done.map lowL) ++ [.string ⟨(lowL x).toArray⟩] := by simp [labV]
/-- What is carried from byte to byte. -/
structure CutLoop (t : List UInt8) (w : World) (done : List (List UInt8)) (fr i : Nat) (v : Value) (wr : World) : Prop where
  row : wr.ownsRow w.heap.size 9 1 v done.length (labV (done.map lowL))
  at_ : SplitAt t done fr i
  below : Below w.heap.size w wr

set_option maxRecDepth 100000 in
set_option maxHeartbeats 4000000 in
theorem rparse_any (s : ByteArray) (w : World) (hl : s.size ≤ 100000) :
    Calls Tryd.prog 9 #[.string s] w (ParseIt w (parseL s.data.toList)) := by
  obtain ⟨i0, hi, hz0, hz1, hz2⟩ := info_parts str_info
  have hsl := str_len s
  have heq : (s.toList == [46]) = decide (s.data.toList = [46]) := by
    obtain ⟨⟨l⟩⟩ := s
    rw [Bool.eq_iff_iff]
    simp
  have hpl : parseL s.data.toList = if s.data.toList = [46] then ([], 0) else if checkL ((splitL (trimDot s.data.toList)).map lowL) = 0 then ((splitL (trimDot s.data.toList)).map lowL, 0) else ([], checkL ((splitL (trimDot s.data.toList)).map lowL)) := by rw [← splitL_low]; rfl
  have HPL := Lib.hid hpl
  have hsg := fun k (h : k < s.size) => str_get s k h
  have HSG := Lib.hid hsg
  clear hpl hsg
  by_cases h46 : s.data.toList = [46]
  · have t1 : (s.toList == [46]) = true := by rw [heq, decide_eq_true h46]
    have HF := Lib.hid (ParseIt.err (g := parseL s.data.toList) (w := w) (by rw [HPL.out, if_pos h46]) (Below.refl _ w))
    clear heq h46
    go_enter Tryd.func9, Tryd.ntmps9
    go_wp2_with fail
    go_ret2
    exact HF.out
  · have t1 : (s.toList == [46]) = false := by rw [heq, decide_eq_false h46]
    have HPL2 : Hid (parseL s.data.toList = if checkL ((splitL (trimDot s.data.toList)).map lowL) = 0 then ((splitL (trimDot s.data.toList)).map lowL, 0) else ([], checkL ((splitL (trimDot s.data.toList)).map lowL))) := Lib.hid (by rw [HPL.out, if_neg h46])
    clear heq h46 HPL
    by_cases h0 : 0 < s.size
    · by_cases hd : s[s.size - 1].toNat = 46
      · have t2 : ((s[s.size - 1].toNat : Int) == 46) = true := by rw [hd]; rfl
        have ht : (s.extract 0 (s.size - 1)).data.toList = trimDot s.data.toList := by
          rw [Lib.extract_data, trim_dot_at (by omega) (by
            have := HSG.out (s.size - 1) (by omega)
            simp only [hsl]
            rw [this]
            exact UInt8.toNat_inj.1 (by rw [hd]; rfl)), hsl]
          simp
        clear hd
        go_enter Tryd.func9, Tryd.ntmps9
        go_wp2_with fail
        obtain ⟨t, htv⟩ : ∃ t, t = s.extract 0 (s.size - 1) := ⟨_, rfl⟩
        rw [← htv] at ht ⊢
        have HTL := Lib.hid ht
        have htz : t.size ≤ 100000 := by
          rw [htv]
          simp [ByteArray.size_extract]
          omega
        have hsz := str_len t
        clear htv ht t2
        clear hsl
        go_loopw [4, 5, 6] (fun v f i wr => ∃ (fr k : Nat) (done : List (List UInt8)), f = .int .i64 fr ∧ i = .int .i64 k ∧ k ≤ t.size + 1 ∧ Hid (CutLoop t.data.toList w done fr k v wr)) (fun _ _ i _ => t.size + 1 - (intOf i).toNat)
        case atStart => exact ⟨0, 0, [], rfl, rfl, by omega, Lib.hid ⟨own_nil _ _ _ _, SplitAt.start _, Below.refl _ _⟩⟩
        case round =>
          obtain ⟨fr, k, done, rfl, rfl, hk, HC⟩ := hrel
          have hfr := HC.out.at_.fr_le
          have hdl := HC.out.at_.len
          rw [hsz] at hdl
          by_cases hle : k ≤ t.size
          · have hlow : ∀ W, Calls Tryd.prog 24 #[.string (t.extract fr k)] W fun e w' => e = .returned (.string ⟨(lowL ((t.data.toList.drop fr).take (k - fr))).toArray⟩) ∧ Below W.heap.size W w' := fun W => by
              have := rlower_any (t.extract fr k) W (by simp [ByteArray.size_extract]; omega)
              rwa [Lib.extract_data] at this
            by_cases hkl : k = t.size
            · subst hkl
              have HN : Hid (SplitAt t.data.toList (done ++ [(t.data.toList.drop fr).take (t.size - fr)]) (t.size + 1) (t.size + 1)) := Lib.hid (by
                have := HC.out.at_
                rw [← hsz] at this ⊢
                exact this.last)
              have HLOW := Lib.hid hlow
              obtain ⟨x, hx⟩ : ∃ x, x = (t.data.toList.drop fr).take (t.size - fr) := ⟨_, rfl⟩
              rw [← hx] at HN
              simp only [← hx] at HLOW
              obtain ⟨lv, hlv⟩ : ∃ lv, lv = ByteArray.mk (lowL x).toArray := ⟨_, rfl⟩
              simp only [← hlv] at HLOW
              have HST : Hid (labV ((done ++ [x]).map lowL) = labV (done.map lowL) ++ [.string lv]) := Lib.hid (by rw [hlv]; exact labV_low_snoc done x)
              clear hlow hx hlv
              go_wp2_with fail
              refine (HLOW.out _).mono ?_
              rintro e w2 ⟨rfl, hb2⟩
              have HB2 := Lib.hid (below_chain HC.out.below hb2)
              have HR2 := Lib.hid (own_kept (Kept.below hb2 (fun _ => False)) HC.out.row fun _ _ => id)
              have hsz2 := HB2.out.size
              clear hb2
              go_wp2_with (at_builtin; refine wpList_append_own _ rfl _ _ 23 rfl w.heap.size 9 i0 (.string ByteArray.empty) 1 16 Tryd.underlying23 hi hz0 hz1 hz2 rfl (by decide) u4 done.length (labV (done.map lowL)) rfl (HR2.out.alloc _) ⟨w2.heap.size, 0, none⟩ 1 1 [.string lv] rfl rfl (cell_one_new _ _ _) (fun x hx => by simp at hx; subst hx; rfl) (by unfold maxLen; omega) (by omega) (by simp; omega) ?_; intro v3 w3 hown3 hg3 _)
              have hb3 : Below w.heap.size w w3 := own_below (HR2.out.alloc (.cells #[.string lv] 9)) (HB2.out.alloc hsz2 _) (by simp; omega) hg3
              rw [← HST.out] at hown3
              have HN3 : Hid (CutLoop t.data.toList w (done ++ [x]) (t.size + 1) (t.size + 1) v3 w3) := Lib.hid ⟨by rw [List.length_append]; exact hown3, HN.out, hb3⟩
              clear hown3 hg3 hb3
              go_wp2_with fail
              go_roundw
              case rel => exact ⟨t.size + 1, t.size + 1, done ++ [x], by go_num, by go_num, by omega, HN3⟩
              case measure => (simp [intOf] <;> omega)
            · have hlt : k < t.size := by omega
              by_cases hd : t[k].toNat = 46
              · have t3 : ((t[k].toNat : Int) == 46) = true := by rw [hd]; rfl
                have HN : Hid (SplitAt t.data.toList (done ++ [(t.data.toList.drop fr).take (k - fr)]) (k + 1) (k + 1)) := Lib.hid (HC.out.at_.dot (by omega) (by rw [str_get t k hlt]; exact UInt8.toNat_inj.1 (by rw [hd]; rfl)))
                clear hd
                have HLOW := Lib.hid hlow
                obtain ⟨x, hx⟩ : ∃ x, x = (t.data.toList.drop fr).take (k - fr) := ⟨_, rfl⟩
                rw [← hx] at HN
                simp only [← hx] at HLOW
                obtain ⟨lv, hlv⟩ : ∃ lv, lv = ByteArray.mk (lowL x).toArray := ⟨_, rfl⟩
                simp only [← hlv] at HLOW
                have HST : Hid (labV ((done ++ [x]).map lowL) = labV (done.map lowL) ++ [.string lv]) := Lib.hid (by rw [hlv]; exact labV_low_snoc done x)
                clear hlow hx hlv
                go_wp2_with fail
                refine (HLOW.out _).mono ?_
                rintro e w2 ⟨rfl, hb2⟩
                have HB2 := Lib.hid (below_chain HC.out.below hb2)
                have HR2 := Lib.hid (own_kept (Kept.below hb2 (fun _ => False)) HC.out.row fun _ _ => id)
                have hsz2 := HB2.out.size
                clear hb2
                go_wp2_with (at_builtin; refine wpList_append_own _ rfl _ _ 23 rfl w.heap.size 9 i0 (.string ByteArray.empty) 1 16 Tryd.underlying23 hi hz0 hz1 hz2 rfl (by decide) u4 done.length (labV (done.map lowL)) rfl (HR2.out.alloc _) ⟨w2.heap.size, 0, none⟩ 1 1 [.string lv] rfl rfl (cell_one_new _ _ _) (fun x hx => by simp at hx; subst hx; rfl) (by unfold maxLen; omega) (by omega) (by simp; omega) ?_; intro v3 w3 hown3 hg3 _)
                have hb3 : Below w.heap.size w w3 := own_below (HR2.out.alloc (.cells #[.string lv] 9)) (HB2.out.alloc hsz2 _) (by simp; omega) hg3
                rw [← HST.out] at hown3
                have HN3 : Hid (CutLoop t.data.toList w (done ++ [x]) (k + 1) (k + 1) v3 w3) := Lib.hid ⟨by rw [List.length_append]; exact hown3, HN.out, hb3⟩
                clear hown3 hg3 hb3
                go_wp2_with fail
                go_roundw
                case rel => exact ⟨k + 1, k + 1, done ++ [x], by go_num, by go_num, by omega, HN3⟩
                case measure => (simp [intOf] <;> omega)
              · have t3 : ((t[k].toNat : Int) == 46) = false := by rw [beq_eq_false_iff_ne]; omega
                have HN : Hid (SplitAt t.data.toList done fr (k + 1)) := Lib.hid (HC.out.at_.on (by omega) (by rw [str_get t k hlt]; intro e; exact hd (by rw [e]; rfl)))
                clear hd hlow
                go_wp2_with fail
                go_roundw
                case rel => exact ⟨fr, k + 1, done, by go_num, by go_num, by omega, Lib.hid ⟨HC.out.row, HN.out, HC.out.below⟩⟩
                case measure => (simp [intOf] <;> omega)
          · have hall := HC.out.at_.all (by omega)
            obtain ⟨A, c, rfl, hcap, _, hrow⟩ := own_more HC.out.row
            have hdn : (done.map lowL).length = done.length := by simp
            rw [← hdn] at hcap
            have hck := rcheck_any (done.map lowL) A c wr hrow (by rw [wireL_low, ← hall, splitL_wire]; omega)
            rw [hdn] at hck hcap
            have HPL3 : Hid (parseL s.data.toList = if checkL (done.map lowL) = 0 then (done.map lowL, 0) else ([], checkL (done.map lowL))) := Lib.hid (by rw [HPL2.out, ← HTL.out, hall])
            obtain ⟨ce, hce⟩ : ∃ ce, ce = checkL (done.map lowL) := ⟨_, rfl⟩
            simp only [← hce] at hck HPL3
            have HCK := Lib.hid hck
            have HROW := Lib.hid hrow
            have HB := Lib.hid HC.out.below
            clear hck hrow hce hall HPL2
            by_cases hz : ce = 0
            · have HF : Hid (ParseIt w (parseL s.data.toList) (.returned (.tuple #[.slice A done.length c, .int .i64 0])) wr) := Lib.hid (by
                rw [HPL3.out, if_pos hz]
                exact ⟨A, c, by simp, HROW.out, by simpa using hcap, HB.out⟩)
              subst hz
              go_wp2_with fail
              refine HCK.out.mono ?_
              rintro e w4 ⟨rfl, hw4⟩
              rw [hw4]
              clear hw4 w4
              go_wp2_with fail
              go_ret2
              exact HF.out
            · have t3 : (ce != 0) = true := by rwa [bne_iff_ne]
              have HF := Lib.hid (ParseIt.err (g := parseL s.data.toList) (w := w) (w' := wr) (by rw [HPL3.out, if_neg hz]) HB.out)
              clear hz
              go_wp2_with fail
              refine HCK.out.mono ?_
              rintro e w4 ⟨rfl, hw4⟩
              rw [hw4]
              clear hw4 w4
              go_wp2_with fail
              go_ret2
              exact HF.out
      · have t2 : ((s[s.size - 1].toNat : Int) == 46) = false := by rw [beq_eq_false_iff_ne]; omega
        have ht : trimDot s.data.toList = s.data.toList := trim_dot_no (by omega) (by
          have := HSG.out (s.size - 1) (by omega)
          simp only [hsl]
          rw [this]
          intro e
          exact hd (by rw [e]; rfl))
        clear hd
        go_enter Tryd.func9, Tryd.ntmps9
        go_wp2_with fail
        clear HSG t2
        have hsz := hsl
        have htz := hl
        have HTL : Hid (s.data.toList = trimDot s.data.toList) := Lib.hid ht.symm
        clear ht
        go_loopw [4, 5, 6] (fun v f i wr => ∃ (fr k : Nat) (done : List (List UInt8)), f = .int .i64 fr ∧ i = .int .i64 k ∧ k ≤ s.size + 1 ∧ Hid (CutLoop s.data.toList w done fr k v wr)) (fun _ _ i _ => s.size + 1 - (intOf i).toNat)
        case atStart => exact ⟨0, 0, [], rfl, rfl, by omega, Lib.hid ⟨own_nil _ _ _ _, SplitAt.start _, Below.refl _ _⟩⟩
        case round =>
          obtain ⟨fr, k, done, rfl, rfl, hk, HC⟩ := hrel
          have hfr := HC.out.at_.fr_le
          have hdl := HC.out.at_.len
          rw [hsz] at hdl
          by_cases hle : k ≤ s.size
          · have hlow : ∀ W, Calls Tryd.prog 24 #[.string (s.extract fr k)] W fun e w' => e = .returned (.string ⟨(lowL ((s.data.toList.drop fr).take (k - fr))).toArray⟩) ∧ Below W.heap.size W w' := fun W => by
              have := rlower_any (s.extract fr k) W (by simp [ByteArray.size_extract]; omega)
              rwa [Lib.extract_data] at this
            by_cases hkl : k = s.size
            · subst hkl
              have HN : Hid (SplitAt s.data.toList (done ++ [(s.data.toList.drop fr).take (s.size - fr)]) (s.size + 1) (s.size + 1)) := Lib.hid (by
                have := HC.out.at_
                rw [← hsz] at this ⊢
                exact this.last)
              have HLOW := Lib.hid hlow
              obtain ⟨x, hx⟩ : ∃ x, x = (s.data.toList.drop fr).take (s.size - fr) := ⟨_, rfl⟩
              rw [← hx] at HN
              simp only [← hx] at HLOW
              obtain ⟨lv, hlv⟩ : ∃ lv, lv = ByteArray.mk (lowL x).toArray := ⟨_, rfl⟩
              simp only [← hlv] at HLOW
              have HST : Hid (labV ((done ++ [x]).map lowL) = labV (done.map lowL) ++ [.string lv]) := Lib.hid (by rw [hlv]; exact labV_low_snoc done x)
              clear hlow hx hlv
              go_wp2_with fail
              refine (HLOW.out _).mono ?_
              rintro e w2 ⟨rfl, hb2⟩
              have HB2 := Lib.hid (below_chain HC.out.below hb2)
              have HR2 := Lib.hid (own_kept (Kept.below hb2 (fun _ => False)) HC.out.row fun _ _ => id)
              have hsz2 := HB2.out.size
              clear hb2
              go_wp2_with (at_builtin; refine wpList_append_own _ rfl _ _ 23 rfl w.heap.size 9 i0 (.string ByteArray.empty) 1 16 Tryd.underlying23 hi hz0 hz1 hz2 rfl (by decide) u4 done.length (labV (done.map lowL)) rfl (HR2.out.alloc _) ⟨w2.heap.size, 0, none⟩ 1 1 [.string lv] rfl rfl (cell_one_new _ _ _) (fun x hx => by simp at hx; subst hx; rfl) (by unfold maxLen; omega) (by omega) (by simp; omega) ?_; intro v3 w3 hown3 hg3 _)
              have hb3 : Below w.heap.size w w3 := own_below (HR2.out.alloc (.cells #[.string lv] 9)) (HB2.out.alloc hsz2 _) (by simp; omega) hg3
              rw [← HST.out] at hown3
              have HN3 : Hid (CutLoop s.data.toList w (done ++ [x]) (s.size + 1) (s.size + 1) v3 w3) := Lib.hid ⟨by rw [List.length_append]; exact hown3, HN.out, hb3⟩
              clear hown3 hg3 hb3
              go_wp2_with fail
              go_roundw
              case rel => exact ⟨s.size + 1, s.size + 1, done ++ [x], by go_num, by go_num, by omega, HN3⟩
              case measure => (simp [intOf] <;> omega)
            · have hlt : k < s.size := by omega
              by_cases hd : s[k].toNat = 46
              · have t3 : ((s[k].toNat : Int) == 46) = true := by rw [hd]; rfl
                have HN : Hid (SplitAt s.data.toList (done ++ [(s.data.toList.drop fr).take (k - fr)]) (k + 1) (k + 1)) := Lib.hid (HC.out.at_.dot (by omega) (by rw [str_get s k hlt]; exact UInt8.toNat_inj.1 (by rw [hd]; rfl)))
                clear hd
                have HLOW := Lib.hid hlow
                obtain ⟨x, hx⟩ : ∃ x, x = (s.data.toList.drop fr).take (k - fr) := ⟨_, rfl⟩
                rw [← hx] at HN
                simp only [← hx] at HLOW
                obtain ⟨lv, hlv⟩ : ∃ lv, lv = ByteArray.mk (lowL x).toArray := ⟨_, rfl⟩
                simp only [← hlv] at HLOW
                have HST : Hid (labV ((done ++ [x]).map lowL) = labV (done.map lowL) ++ [.string lv]) := Lib.hid (by rw [hlv]; exact labV_low_snoc done x)
                clear hlow hx hlv
                go_wp2_with fail
                refine (HLOW.out _).mono ?_
                rintro e w2 ⟨rfl, hb2⟩
                have HB2 := Lib.hid (below_chain HC.out.below hb2)
                have HR2 := Lib.hid (own_kept (Kept.below hb2 (fun _ => False)) HC.out.row fun _ _ => id)
                have hsz2 := HB2.out.size
                clear hb2
                go_wp2_with (at_builtin; refine wpList_append_own _ rfl _ _ 23 rfl w.heap.size 9 i0 (.string ByteArray.empty) 1 16 Tryd.underlying23 hi hz0 hz1 hz2 rfl (by decide) u4 done.length (labV (done.map lowL)) rfl (HR2.out.alloc _) ⟨w2.heap.size, 0, none⟩ 1 1 [.string lv] rfl rfl (cell_one_new _ _ _) (fun x hx => by simp at hx; subst hx; rfl) (by unfold maxLen; omega) (by omega) (by simp; omega) ?_; intro v3 w3 hown3 hg3 _)
                have hb3 : Below w.heap.size w w3 := own_below (HR2.out.alloc (.cells #[.string lv] 9)) (HB2.out.alloc hsz2 _) (by simp; omega) hg3
                rw [← HST.out] at hown3
                have HN3 : Hid (CutLoop s.data.toList w (done ++ [x]) (k + 1) (k + 1) v3 w3) := Lib.hid ⟨by rw [List.length_append]; exact hown3, HN.out, hb3⟩
                clear hown3 hg3 hb3
                go_wp2_with fail
                go_roundw
                case rel => exact ⟨k + 1, k + 1, done ++ [x], by go_num, by go_num, by omega, HN3⟩
                case measure => (simp [intOf] <;> omega)
              · have t3 : ((s[k].toNat : Int) == 46) = false := by rw [beq_eq_false_iff_ne]; omega
                have HN : Hid (SplitAt s.data.toList done fr (k + 1)) := Lib.hid (HC.out.at_.on (by omega) (by rw [str_get s k hlt]; intro e; exact hd (by rw [e]; rfl)))
                clear hd hlow
                go_wp2_with fail
                go_roundw
                case rel => exact ⟨fr, k + 1, done, by go_num, by go_num, by omega, Lib.hid ⟨HC.out.row, HN.out, HC.out.below⟩⟩
                case measure => (simp [intOf] <;> omega)
          · have hall := HC.out.at_.all (by omega)
            obtain ⟨A, c, rfl, hcap, _, hrow⟩ := own_more HC.out.row
            have hdn : (done.map lowL).length = done.length := by simp
            rw [← hdn] at hcap
            have hck := rcheck_any (done.map lowL) A c wr hrow (by rw [wireL_low, ← hall, splitL_wire]; omega)
            rw [hdn] at hck hcap
            have HPL3 : Hid (parseL s.data.toList = if checkL (done.map lowL) = 0 then (done.map lowL, 0) else ([], checkL (done.map lowL))) := Lib.hid (by rw [HPL2.out, ← HTL.out, hall])
            obtain ⟨ce, hce⟩ : ∃ ce, ce = checkL (done.map lowL) := ⟨_, rfl⟩
            simp only [← hce] at hck HPL3
            have HCK := Lib.hid hck
            have HROW := Lib.hid hrow
            have HB := Lib.hid HC.out.below
            clear hck hrow hce hall HPL2
            by_cases hz : ce = 0
            · have HF : Hid (ParseIt w (parseL s.data.toList) (.returned (.tuple #[.slice A done.length c, .int .i64 0])) wr) := Lib.hid (by
                rw [HPL3.out, if_pos hz]
                exact ⟨A, c, by simp, HROW.out, by simpa using hcap, HB.out⟩)
              subst hz
              go_wp2_with fail
              refine HCK.out.mono ?_
              rintro e w4 ⟨rfl, hw4⟩
              rw [hw4]
              clear hw4 w4
              go_wp2_with fail
              go_ret2
              exact HF.out
            · have t3 : (ce != 0) = true := by rwa [bne_iff_ne]
              have HF := Lib.hid (ParseIt.err (g := parseL s.data.toList) (w := w) (w' := wr) (by rw [HPL3.out, if_neg hz]) HB.out)
              clear hz
              go_wp2_with fail
              refine HCK.out.mono ?_
              rintro e w4 ⟨rfl, hw4⟩
              rw [hw4]
              clear hw4 w4
              go_wp2_with fail
              go_ret2
              exact HF.out
    · have he : s.data.toList = [] := List.eq_nil_of_length_eq_zero (by omega)
      have ht : trimDot s.data.toList = s.data.toList := by rw [he]; rfl
      go_enter Tryd.func9, Tryd.ntmps9
      go_wp2_with fail
      clear HSG he
      have hsz := hsl
      have htz := hl
      have HTL : Hid (s.data.toList = trimDot s.data.toList) := Lib.hid ht.symm
      clear ht
      go_loopw [4, 5, 6] (fun v f i wr => ∃ (fr k : Nat) (done : List (List UInt8)), f = .int .i64 fr ∧ i = .int .i64 k ∧ k ≤ s.size + 1 ∧ Hid (CutLoop s.data.toList w done fr k v wr)) (fun _ _ i _ => s.size + 1 - (intOf i).toNat)
      case atStart => exact ⟨0, 0, [], rfl, rfl, by omega, Lib.hid ⟨own_nil _ _ _ _, SplitAt.start _, Below.refl _ _⟩⟩
      case round =>
        obtain ⟨fr, k, done, rfl, rfl, hk, HC⟩ := hrel
        have hfr := HC.out.at_.fr_le
        have hdl := HC.out.at_.len
        rw [hsz] at hdl
        by_cases hle : k ≤ s.size
        · have hlow : ∀ W, Calls Tryd.prog 24 #[.string (s.extract fr k)] W fun e w' => e = .returned (.string ⟨(lowL ((s.data.toList.drop fr).take (k - fr))).toArray⟩) ∧ Below W.heap.size W w' := fun W => by
            have := rlower_any (s.extract fr k) W (by simp [ByteArray.size_extract]; omega)
            rwa [Lib.extract_data] at this
          by_cases hkl : k = s.size
          · subst hkl
            have HN : Hid (SplitAt s.data.toList (done ++ [(s.data.toList.drop fr).take (s.size - fr)]) (s.size + 1) (s.size + 1)) := Lib.hid (by
              have := HC.out.at_
              rw [← hsz] at this ⊢
              exact this.last)
            have HLOW := Lib.hid hlow
            obtain ⟨x, hx⟩ : ∃ x, x = (s.data.toList.drop fr).take (s.size - fr) := ⟨_, rfl⟩
            rw [← hx] at HN
            simp only [← hx] at HLOW
            obtain ⟨lv, hlv⟩ : ∃ lv, lv = ByteArray.mk (lowL x).toArray := ⟨_, rfl⟩
            simp only [← hlv] at HLOW
            have HST : Hid (labV ((done ++ [x]).map lowL) = labV (done.map lowL) ++ [.string lv]) := Lib.hid (by rw [hlv]; exact labV_low_snoc done x)
            clear hlow hx hlv
            go_wp2_with fail
            refine (HLOW.out _).mono ?_
            rintro e w2 ⟨rfl, hb2⟩
            have HB2 := Lib.hid (below_chain HC.out.below hb2)
            have HR2 := Lib.hid (own_kept (Kept.below hb2 (fun _ => False)) HC.out.row fun _ _ => id)
            have hsz2 := HB2.out.size
            clear hb2
            go_wp2_with (at_builtin; refine wpList_append_own _ rfl _ _ 23 rfl w.heap.size 9 i0 (.string ByteArray.empty) 1 16 Tryd.underlying23 hi hz0 hz1 hz2 rfl (by decide) u4 done.length (labV (done.map lowL)) rfl (HR2.out.alloc _) ⟨w2.heap.size, 0, none⟩ 1 1 [.string lv] rfl rfl (cell_one_new _ _ _) (fun x hx => by simp at hx; subst hx; rfl) (by unfold maxLen; omega) (by omega) (by simp; omega) ?_; intro v3 w3 hown3 hg3 _)
            have hb3 : Below w.heap.size w w3 := own_below (HR2.out.alloc (.cells #[.string lv] 9)) (HB2.out.alloc hsz2 _) (by simp; omega) hg3
            rw [← HST.out] at hown3
            have HN3 : Hid (CutLoop s.data.toList w (done ++ [x]) (s.size + 1) (s.size + 1) v3 w3) := Lib.hid ⟨by rw [List.length_append]; exact hown3, HN.out, hb3⟩
            clear hown3 hg3 hb3
            go_wp2_with fail
            go_roundw
            case rel => exact ⟨s.size + 1, s.size + 1, done ++ [x], by go_num, by go_num, by omega, HN3⟩
            case measure => (simp [intOf] <;> omega)
          · exact absurd (show k < s.size by omega) (by omega)
        · have hall := HC.out.at_.all (by omega)
          obtain ⟨A, c, rfl, hcap, _, hrow⟩ := own_more HC.out.row
          have hdn : (done.map lowL).length = done.length := by simp
          rw [← hdn] at hcap
          have hck := rcheck_any (done.map lowL) A c wr hrow (by rw [wireL_low, ← hall, splitL_wire]; omega)
          rw [hdn] at hck hcap
          have HPL3 : Hid (parseL s.data.toList = if checkL (done.map lowL) = 0 then (done.map lowL, 0) else ([], checkL (done.map lowL))) := Lib.hid (by rw [HPL2.out, ← HTL.out, hall])
          obtain ⟨ce, hce⟩ : ∃ ce, ce = checkL (done.map lowL) := ⟨_, rfl⟩
          simp only [← hce] at hck HPL3
          have HCK := Lib.hid hck
          have HROW := Lib.hid hrow
          have HB := Lib.hid HC.out.below
          clear hck hrow hce hall HPL2
          by_cases hz : ce = 0
          · have HF : Hid (ParseIt w (parseL s.data.toList) (.returned (.tuple #[.slice A done.length c, .int .i64 0])) wr) := Lib.hid (by
              rw [HPL3.out, if_pos hz]
              exact ⟨A, c, by simp, HROW.out, by simpa using hcap, HB.out⟩)
            subst hz
            go_wp2_with fail
            refine HCK.out.mono ?_
            rintro e w4 ⟨rfl, hw4⟩
            rw [hw4]
            clear hw4 w4
            go_wp2_with fail
            go_ret2
            exact HF.out
          · have t3 : (ce != 0) = true := by rwa [bne_iff_ne]
            have HF := Lib.hid (ParseIt.err (g := parseL s.data.toList) (w := w) (w' := wr) (by rw [HPL3.out, if_neg hz]) HB.out)
            clear hz
            go_wp2_with fail
            refine HCK.out.mono ?_
            rintro e w4 ⟨rfl, hw4⟩
            rw [hw4]
            clear hw4 w4
            go_wp2_with fail
            go_ret2
            exact HF.out
end Go.Proofs.YtfnpjcfaabbejaaDoor
