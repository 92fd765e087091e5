/-
  Plain: the script of a printed text is the one that was printed, and the text of a parsed script is the one that was parsed. No program in sight. No condition.
-/
import Derived.Test.YtifmgmiaeoiidaaGreatDoorScrBD
namespace Go.Scrp
set_option linter.unusedVariables false
/-- A line of words without its end. -/
def lineB (deep : Nat) (ws : List (List UInt8)) : List UInt8 := List.replicate (deep - 1) 32 ++ Lib.join ws [32]
theorem lineT_eq (deep : Nat) (ws : List (List UInt8)) : lineT deep ws = lineB deep ws ++ [10] := rfl
mutual
def linesS (deep : Nat) : Opd → List (List UInt8)
  | .mk h l => if h.kind = 3 then lineB deep (wordsT h) :: (linesL (deep + 1) l ++ [lineB deep [[125]]]) else [lineB deep (wordsT h)]
def linesL (deep : Nat) : List Opd → List (List UInt8)
  | [] => []
  | o :: r => linesS deep o ++ linesL deep r
end
theorem linesL_nil (deep : Nat) : linesL deep [] = [] := by rw [linesL]
theorem linesL_cons (deep : Nat) (o : Opd) (r : List Opd) : linesL deep (o :: r) = linesS deep o ++ linesL deep r := by rw [linesL]
theorem linesS_view {deep : Nat} {h : Hd} {l : List Opd} (e : h.kind = 3) : linesS deep (.mk h l) = lineB deep (wordsT h) :: (linesL (deep + 1) l ++ [lineB deep [[125]]]) := by rw [linesS, if_pos e]
theorem linesS_plain {deep : Nat} {h : Hd} {l : List Opd} (e : h.kind ≠ 3) : linesS deep (.mk h l) = [lineB deep (wordsT h)] := by rw [linesS, if_neg e]
theorem linesL_append (deep : Nat) : ∀ a b : List Opd, linesL deep (a ++ b) = linesL deep a ++ linesL deep b
  | [], b => by rw [linesL_nil]; rfl
  | o :: a, b => by rw [List.cons_append, linesL_cons, linesL_cons, linesL_append deep a b, List.append_assoc]
/-- Lines as one text. -/
def flat : List (List UInt8) → List UInt8
  | [] => []
  | x :: r => x ++ [10] ++ flat r
theorem flat_append : ∀ a b : List (List UInt8), flat (a ++ b) = flat a ++ flat b
  | [], b => rfl
  | x :: a, b => by
    rw [List.cons_append, flat, flat, flat_append a b]
    simp
theorem flat_one (x : List UInt8) : flat [x] = x ++ [10] := by simp [flat]
theorem good_cons {deep : Nat} {h : Hd} {l r : List Opd} (e : (outL deep (.mk h l :: r)).2 = false) : badT deep h l.length = false ∧ (outS deep (.mk h l)).2 = false ∧ (outL deep r).2 = false := by
  cases hb : badT deep h l.length with
  | true =>
    rw [outL_bad hb] at e
    cases e
  | false =>
    rw [outL_good hb] at e
    have e : ((outS deep (.mk h l)).2 || (outL deep r).2) = false := e
    rw [Bool.or_eq_false_iff] at e
    exact ⟨rfl, e⟩
mutual
theorem outS_lines (deep : Nat) : ∀ o : Opd, (outS deep o).2 = false → (outS deep o).1 = flat (linesS deep o)
  | .mk h l => fun e => by
    by_cases hk : h.kind = 3
    · rw [outS_view hk] at e ⊢
      rw [linesS_view hk, flat, flat_append, flat_one, ← outL_lines (deep + 1) l e]
      simp [lineT_eq]
    · rw [outS_plain hk, linesS_plain hk, flat_one]
      rfl
theorem outL_lines (deep : Nat) : ∀ l : List Opd, (outL deep l).2 = false → (outL deep l).1 = flat (linesL deep l)
  | [] => fun _ => by rw [outL_nil, linesL_nil]; rfl
  | .mk h l :: r => fun e => by
    obtain ⟨h1, h2, h3⟩ := good_cons e
    rw [outL_good h1, linesL_cons, flat_append, ← outS_lines deep (.mk h l) h2, ← outL_lines deep r h3]
end
/-- No line has a line's end. -/
theorem lineB_no {deep : Nat} {ws : List (List UInt8)} (hw : ∀ x ∈ ws, ∀ c ∈ x, plainB c = true) : ∀ c ∈ lineB deep ws, c ≠ 10 := fun c hc => by
  rintro rfl
  rcases List.mem_append.1 hc with h | h
  · have := (List.mem_replicate.1 h).2
    cases this
  · rcases join_mem _ _ h with h | ⟨x, hx, h⟩
    · cases h
    · have := hw x hx _ h
      revert this
      decide
theorem lineB_head {deep : Nat} {ws : List (List UInt8)} (h0 : ws ≠ []) (hw : ∀ x ∈ ws, x ≠ [] ∧ ∀ c ∈ x, plainB c = true) : (Lib.join ws [32]).head? ≠ some 32 := by
  cases ws with
  | nil => exact absurd rfl h0
  | cons x r =>
    obtain ⟨h1, h2⟩ := hw x (by simp)
    cases x with
    | nil => exact absurd rfl h1
    | cons c x =>
      rw [Lib.join_cons, List.cons_append, List.head?_cons]
      intro e
      have e : c = 32 := by simpa using e
      have := h2 c (by simp)
      rw [e] at this
      revert this
      decide
theorem lineB_blk {deep : Nat} {ws : List (List UInt8)} (h0 : ws ≠ []) (hw : ∀ x ∈ ws, x ≠ [] ∧ ∀ c ∈ x, plainB c = true) : blk (lineB deep ws) = deep - 1 := blk_of (lineB_head (deep := deep) h0 hw) _
theorem lineB_drop {deep : Nat} {ws : List (List UInt8)} : (lineB deep ws).drop (deep - 1) = Lib.join ws [32] := List.drop_left' (by simp)
theorem lineB_sep {ws : List (List UInt8)} (h0 : ws ≠ []) (hw : ∀ x ∈ ws, x ≠ [] ∧ ∀ c ∈ x, plainB c = true) : sepL 32 (Lib.join ws [32]) = ws :=
  sep_join h0 fun s hs c hc => by
    rintro rfl
    have := (hw s hs).2 _ hc
    revert this
    decide
theorem closes_plain : ∀ x ∈ ([[125]] : List (List UInt8)), x ≠ [] ∧ ∀ c ∈ x, plainB c = true := fun x hx => by
  have : x = [125] := by simpa using hx
  subst this
  exact ⟨by simp, by decide⟩
mutual
theorem linesS_no (deep : Nat) : ∀ o : Opd, (outS deep o).2 = false → (match o with | .mk h l => badT deep h l.length = false) → ∀ x ∈ linesS deep o, ∀ c ∈ x, c ≠ 10
  | .mk h l => fun e hb x hx => by
    obtain ⟨_, h1, h2, _⟩ := bad_parts (h := h) (m := l.length) hb
    have hw := words_plain h1 h2
    by_cases hk : h.kind = 3
    · rw [linesS_view hk] at hx
      rw [outS_view hk] at e
      rcases List.mem_cons.1 hx with rfl | hx
      · exact lineB_no fun x hx => (hw x hx).2
      rcases List.mem_append.1 hx with hx | hx
      · exact linesL_no (deep + 1) l e x hx
      · have : x = lineB deep [[125]] := by simpa using hx
        subst this
        exact lineB_no fun x hx => (closes_plain x hx).2
    · rw [linesS_plain hk] at hx
      have : x = lineB deep (wordsT h) := by simpa using hx
      subst this
      exact lineB_no fun x hx => (hw x hx).2
theorem linesL_no (deep : Nat) : ∀ l : List Opd, (outL deep l).2 = false → ∀ x ∈ linesL deep l, ∀ c ∈ x, c ≠ 10
  | [] => fun _ x hx => by rw [linesL_nil] at hx; cases hx
  | .mk h l :: r => fun e x hx => by
    obtain ⟨h1, h2, h3⟩ := good_cons e
    rw [linesL_cons] at hx
    rcases List.mem_append.1 hx with hx | hx
    · exact linesS_no deep (.mk h l) h2 h1 x hx
    · exact linesL_no deep r h3 x hx
end
theorem sep_flat : ∀ L : List (List UInt8), (∀ x ∈ L, ∀ c ∈ x, c ≠ 10) → sepL 10 (flat L) = L ++ [[]]
  | [], _ => rfl
  | x :: L, h => by
    rw [flat, List.append_assoc, List.singleton_append, sep_part x _ (h x (by simp)), sep_flat L fun y hy => h y (List.mem_cons_of_mem _ hy)]
    rfl
theorem join_flat : ∀ L : List (List UInt8), Lib.join (L ++ [[]]) [10] = flat L
  | [] => by rw [List.nil_append, Lib.join_one]; rfl
  | [x] => by
    rw [List.cons_append, List.nil_append, Lib.join_cons, tail_cons, tail_nil, flat]
    simp [flat]
  | x :: y :: L => by
    have ih := join_flat (y :: L)
    rw [List.cons_append, Lib.join_cons] at ih
    rw [flat, ← ih, List.cons_append, List.cons_append, Lib.join_cons, tail_cons]
    simp
mutual
/-- Are all steps' fields as great as they may be? -/
def okS : Opd → Prop
  | .mk h l => h.Ok ∧ okL l
def okL : List Opd → Prop
  | [] => True
  | o :: r => okS o ∧ okL r
end
theorem okL_nil : okL [] := by rw [okL]; trivial
theorem okL_cons {h : Hd} {l r : List Opd} : okL (.mk h l :: r) ↔ (h.Ok ∧ okL l) ∧ okL r := by rw [okL, okS]
theorem line_is {L : List (List UInt8)} {k : Nat} {x : List UInt8} {r : List (List UInt8)} (h : L.drop k = x :: r) : k < L.length ∧ L.getD k [] = x ∧ L.drop (k + 1) = r := by
  have hk : k < L.length := by
    rcases Nat.lt_or_ge k L.length with h2 | h2
    · exact h2
    · rw [List.drop_eq_nil_of_le h2] at h
      cases h
  rw [List.drop_eq_getElem_cons hk] at h
  injection h with h1 h2
  exact ⟨hk, by rw [List.getD_eq_getElem?_getD, List.getElem?_eq_getElem hk, Option.getD_some, h1], h2⟩
theorem line_words {deep : Nat} {h : Hd} {m : Nat} (hd : 1 ≤ deep) (hok : h.Ok) (hb : badT deep h m = false) : ¬ shut deep (lineB deep (wordsT h)) ∧ lineP deep (lineB deep (wordsT h)) = some h := by
  obtain ⟨h20, h1, h2, h3⟩ := bad_parts hb
  have hw := words_plain h1 h2
  have hbl := lineB_blk (deep := deep) (words_ne h) hw
  constructor
  · intro hs
    have := shut_iff.1 hs
    omega
  · rw [line_eq _ hd, hbl, if_neg (by omega), lineB_drop, lineB_sep (words_ne h) hw]
    exact op_words hok hb
theorem shut_line {deep : Nat} (hd : 1 ≤ deep) : shut (deep + 1) (lineB deep [[125]]) := by
  refine ⟨by omega, ?_⟩
  rw [lineB, Lib.join_one]
  rfl
theorem goes : ∀ (n : Nat) (l : List Opd), cntL l < n → ∀ (L : List (List UInt8)) (deep k f : Nat) (out : List Opd) (rest : List (List UInt8)), (outL deep l).2 = false → okL l → 1 ≤ deep → L.drop k = linesL deep l ++ rest → L.length - k < f → k ≤ L.length →
    ∃ f', L.length - (k + (linesL deep l).length) < f' ∧ k + (linesL deep l).length ≤ L.length ∧ stp L f deep k out = stp L f' deep (k + (linesL deep l).length) (out ++ l)
  | 0, _, h => absurd h (by omega)
  | n + 1, l, hn => by
    intro L deep k f out rest hg hok hd hL hf hk
    induction l generalizing k f out with
    | nil => exact ⟨f, by rw [linesL_nil]; exact hf, by rw [linesL_nil]; exact hk, by rw [linesL_nil, List.append_nil]; rfl⟩
    | cons o r ih =>
      obtain ⟨h, sub⟩ := o
      obtain ⟨g1, g2, g3⟩ := good_cons hg
      obtain ⟨⟨ok1, ok2⟩, ok3⟩ := okL_cons.1 hok
      have hcn := cntL_cons (.mk h sub) r
      have hcs := cntS_sub (h := h) (l := sub)
      obtain ⟨ns, hl⟩ := line_words hd ok1 g1
      obtain ⟨f0, rfl⟩ : ∃ f0, f = f0 + 1 := ⟨f - 1, by omega⟩
      rw [linesL_cons] at hL ⊢
      by_cases hk3 : h.kind = 3
      · rw [linesS_view hk3] at hL ⊢
        rw [outS_view hk3] at g2
        rw [List.cons_append, List.cons_append] at hL
        obtain ⟨hkl, hx, hL1⟩ := line_is hL
        rw [List.append_assoc, List.append_assoc] at hL1
        obtain ⟨f1, e1, e2, e3⟩ := goes n sub (by omega) L (deep + 1) (k + 1) f0 [] _ g2 ok2 (by omega) hL1 (by omega) (by omega)
        have hL2 : L.drop (k + 1 + (linesL (deep + 1) sub).length) = lineB deep [[125]] :: (linesL deep r ++ rest) := by
          rw [← List.drop_drop, hL1, List.drop_left' rfl]
          rfl
        obtain ⟨hk2, hx2, hL3⟩ := line_is hL2
        obtain ⟨f2, rfl⟩ : ∃ f2, f1 = f2 + 1 := ⟨f1 - 1, by omega⟩
        have hsh : stp L (f2 + 1) (deep + 1) (k + 1 + (linesL (deep + 1) sub).length) ([] ++ sub) = .ok sub (k + 1 + (linesL (deep + 1) sub).length) := stp_shut (by omega) (by rw [hx2]; exact shut_line hd)
        have hv := stp_view (L := L) (f := f0) (deep := deep) (k := k) (out := out) (d := h) (by omega) (by rw [hx]; exact ns) (by rw [hx]; exact hl) hk3
        rw [e3, hsh] at hv
        obtain ⟨f3, a1, a2, a3⟩ := ih (by omega) (k + 1 + (linesL (deep + 1) sub).length + 1) f0 (out ++ [.mk h sub]) g3 ok3 hL3 (by omega) (by omega)
        have hlen : k + (lineB deep (wordsT h) :: (linesL (deep + 1) sub ++ [lineB deep [[125]]]) ++ linesL deep r).length = k + 1 + (linesL (deep + 1) sub).length + 1 + (linesL deep r).length := by
          simp
          omega
        rw [hlen]
        refine ⟨f3, a1, a2, ?_⟩
        rw [hv]
        show stp L f0 deep (k + 1 + (linesL (deep + 1) sub).length + 1) (out ++ [.mk h sub]) = _
        rw [a3, List.append_assoc]
        rfl
      · rw [linesS_plain hk3] at hL ⊢
        rw [List.cons_append, List.nil_append, List.cons_append] at hL
        obtain ⟨hkl, hx, hL1⟩ := line_is hL
        have hv := stp_one (L := L) (f := f0) (deep := deep) (k := k) (out := out) (d := h) (by omega) (by rw [hx]; exact ns) (by rw [hx]; exact hl) hk3
        have hsub : sub = [] := by
          obtain ⟨_, _, _, ho⟩ := bad_parts g1
          have := (own_parts ho).2.2.2.resolve_left hk3
          exact List.eq_nil_of_length_eq_zero this.1
        subst hsub
        obtain ⟨f3, a1, a2, a3⟩ := ih (by omega) (k + 1) f0 (out ++ [.mk h []]) g3 ok3 hL1 (by omega) (by omega)
        have hlen : k + ([lineB deep (wordsT h)] ++ linesL deep r).length = k + 1 + (linesL deep r).length := by
          simp
          omega
        rw [hlen]
        refine ⟨f3, a1, a2, ?_⟩
        rw [hv, a3, List.append_assoc]
        rfl
theorem parseL_bad {s : List UInt8} {ps L : List (List UInt8)} {n b : Nat} (hps : ps = sepL 10 s) (hn : n = ps.length - 1) (hL : L = ps.take n) (hst : stp L (n + 1) 1 0 [] = .bad b) : parseL s = if ps.getD n [] ≠ [] ∧ n < b then .bad (n + 1) else .bad b := by
  unfold parseL
  subst hps hn hL
  simp only [hst]
theorem parseL_ok {s : List UInt8} {ps L : List (List UInt8)} {n k : Nat} {out : List Opd} (hps : ps = sepL 10 s) (hn : n = ps.length - 1) (hL : L = ps.take n) (hst : stp L (n + 1) 1 0 [] = .ok out k) : parseL s = if ps.getD n [] ≠ [] then .bad (n + 1) else .ok out k := by
  unfold parseL
  subst hps hn hL
  simp only [hst]
/-- What is printed is parsed. -/
theorem parse_print {l : List Opd} (hg : (outL 1 l).2 = false) (hok : okL l) : ∃ k, parseL (outL 1 l).1 = .ok l k := by
  have hL := outL_lines 1 l hg
  have hsp := sep_flat (linesL 1 l) (linesL_no 1 l hg)
  rw [← hL] at hsp
  have hn : (sepL 10 (outL 1 l).1).length - 1 = (linesL 1 l).length := by
    rw [hsp]
    simp
  have ht : (linesL 1 l ++ [[]]).take (linesL 1 l).length = linesL 1 l := List.take_left' rfl
  obtain ⟨f', e1, e2, e3⟩ := goes (cntL l + 1) l (by omega) (linesL 1 l) 1 0 ((linesL 1 l).length + 1) [] [] hg hok (Nat.le_refl _) (by simp) (by omega) (Nat.zero_le _)
  obtain ⟨f2, rfl⟩ : ∃ f2, f' = f2 + 1 := ⟨f' - 1, by omega⟩
  have e4 := stp_end (L := linesL 1 l) (f := f2) (deep := 1) (k := 0 + (linesL 1 l).length) (out := [] ++ l) (by omega)
  rw [if_neg (by omega), List.nil_append] at e4
  rw [List.nil_append, e4] at e3
  refine ⟨0 + (linesL 1 l).length, ?_⟩
  have := parseL_ok (s := (outL 1 l).1) (ps := sepL 10 (outL 1 l).1) (L := linesL 1 l) (n := (linesL 1 l).length) (k := 0 + (linesL 1 l).length) (out := l) rfl hn.symm (by rw [hsp, ht]) e3
  rw [this, if_neg]
  rw [hsp]
  simp [List.getD_eq_getElem?_getD]
/-- What is read are the lines of what came of it. -/
theorem back : ∀ (f : Nat) (L : List (List UInt8)) (deep k k' : Nat) (out out' : List Opd), stp L f deep k out = .ok out' k' → k ≤ L.length → 1 ≤ deep →
    ∃ l, out' = out ++ l ∧ (outL deep l).2 = false ∧ L.drop k = linesL deep l ++ L.drop k' ∧ (deep = 1 → k' = L.length) ∧ (1 < deep → shut deep (L.getD k' []))
  | 0, L, deep, k, k', out, out', h, hk, hd => by simp [stp] at h
  | f + 1, L, deep, k, k', out, out', h, hk, hd => by
    by_cases h1 : L.length ≤ k
    · rw [stp_end h1] at h
      by_cases hd1 : 1 < deep
      · rw [if_pos hd1] at h
        cases h
      · rw [if_neg hd1] at h
        cases h
        exact ⟨[], by simp, by rw [outL_nil], by rw [linesL_nil]; rfl, fun _ => by omega, fun e => absurd e hd1⟩
    · by_cases h2 : shut deep (L.getD k [])
      · rw [stp_shut h1 h2] at h
        cases h
        exact ⟨[], by simp, by rw [outL_nil], by rw [linesL_nil]; rfl, fun e => by have := h2.1; omega, fun _ => h2⟩
      · cases h3 : lineP deep (L.getD k []) with
        | none =>
          rw [stp_wrong h1 h2 h3] at h
          cases h
        | some d =>
          have hkl : k < L.length := by omega
          have hLk : L.drop k = L.getD k [] :: L.drop (k + 1) := by
            rw [List.drop_eq_getElem_cons hkl, List.getD_eq_getElem?_getD, List.getElem?_eq_getElem hkl, Option.getD_some]
          have hlp := h3
          rw [line_eq _ hd] at hlp
          split at hlp
          · cases hlp
          · rename_i hc
            obtain ⟨hw, hbad⟩ := op_back hlp
            have hline : L.getD k [] = lineB deep (wordsT d) := by
              rw [hw, lineB, join_sep, ← show blk (L.getD k []) = deep - 1 by omega]
              exact blk_split _
            by_cases h4 : d.kind = 3
            · rw [stp_view h1 h2 h3 h4] at h
              cases h5 : stp L f (deep + 1) (k + 1) [] with
              | bad b => rw [h5] at h; cases h
              | ok sub k2 =>
                rw [h5] at h
                have hb := stp_ok h5 (by omega) (by omega)
                have hb2 := hb.2.2 (by omega)
                obtain ⟨l1, e1, e2, e3, _, e5⟩ := back f L (deep + 1) (k + 1) k2 [] sub h5 (by omega) (by omega)
                rw [List.nil_append] at e1
                subst e1
                obtain ⟨l2, a1, a2, a3, a4, a5⟩ := back f L deep (k2 + 1) k' (out ++ [.mk d sub]) out' h (by omega) hd
                have hbd := hbad deep sub.length (by omega) (fun e => absurd h4 e)
                refine ⟨.mk d sub :: l2, by rw [a1]; simp, ?_, ?_, a4, a5⟩
                · rw [outL_good hbd, outS_view h4]
                  simp [e2, a2]
                · have hLk2 : L.drop k2 = L.getD k2 [] :: L.drop (k2 + 1) := by
                    rw [List.drop_eq_getElem_cons hb2, List.getD_eq_getElem?_getD, List.getElem?_eq_getElem hb2, Option.getD_some]
                  have hs2 : L.getD k2 [] = lineB deep [[125]] := by
                    rw [(e5 (by omega)).2, lineB, Lib.join_one]
                    rfl
                  rw [hLk, hline, linesL_cons, linesS_view h4, e3, hLk2, a3, hs2]
                  simp
            · rw [stp_one h1 h2 h3 h4] at h
              obtain ⟨l2, a1, a2, a3, a4, a5⟩ := back f L deep (k + 1) k' (out ++ [.mk d []]) out' h (by omega) hd
              have hbd := hbad deep ([] : List Opd).length (by omega) (fun _ => rfl)
              refine ⟨.mk d [] :: l2, by rw [a1]; simp, ?_, ?_, a4, a5⟩
              · rw [outL_good hbd, outS_plain h4]
                simp [a2]
              · rw [hLk, hline, linesL_cons, linesS_plain h4, a3]
                simp
/-- What is parsed is printed to the same text. -/
theorem print_parse {s : List UInt8} {out : List Opd} {k : Nat} (h : parseL s = .ok out k) : outL 1 out = (s, false) := by
  obtain ⟨ps, hps⟩ : ∃ ps, ps = sepL 10 s := ⟨_, rfl⟩
  obtain ⟨n, hn⟩ : ∃ n, n = ps.length - 1 := ⟨_, rfl⟩
  obtain ⟨L, hL⟩ : ∃ L, L = ps.take n := ⟨_, rfl⟩
  have hp0 : 0 < ps.length := by
    obtain ⟨x, xs, e⟩ := sep_some (d := 10) s
    rw [hps, e]
    simp
  cases hst : stp L (n + 1) 1 0 [] with
  | bad b =>
    rw [parseL_bad hps hn hL hst] at h
    split at h <;> cases h
  | ok o q =>
    rw [parseL_ok hps hn hL hst] at h
    split at h
    · cases h
    · rename_i hl
      cases h
      obtain ⟨l, e1, e2, e3, e4, _⟩ := back (n + 1) L 1 0 k [] out hst (Nat.zero_le _) (Nat.le_refl _)
      rw [List.nil_append] at e1
      subst e1
      rw [e4 rfl, List.drop_length, List.append_nil, List.drop_zero] at e3
      have hl : ps.getD n [] = [] := Classical.not_not.1 hl
      have hpl : ps = L ++ [[]] := by
        have hnl : n < ps.length := by omega
        have h5 : ps.drop n = [ps.getD n []] := by
          rw [List.drop_eq_getElem_cons hnl, List.drop_eq_nil_of_le (by omega), List.getD_eq_getElem?_getD, List.getElem?_eq_getElem hnl, Option.getD_some]
        rw [hL, ← hl, ← h5, List.take_append_drop]
      have hj := join_sep (d := 10) s
      rw [← hps, hpl, join_flat, e3, ← outL_lines 1 out e2] at hj
      rw [← hj, ← e2]
/-- Where the first wrong line is. -/
theorem parse_where {s : List UInt8} {b : Nat} (h : parseL s = .bad b) : 1 ≤ b ∧ b ≤ s.length + 1 := by
  obtain ⟨ps, hps⟩ : ∃ ps, ps = sepL 10 s := ⟨_, rfl⟩
  obtain ⟨n, hn⟩ : ∃ n, n = ps.length - 1 := ⟨_, rfl⟩
  obtain ⟨L, hL⟩ : ∃ L, L = ps.take n := ⟨_, rfl⟩
  have hp0 : 0 < ps.length := by
    obtain ⟨x, xs, e⟩ := sep_some (d := 10) s
    rw [hps, e]
    simp
  have hpm : ps.length ≤ s.length + 1 := by rw [hps]; exact sep_many s
  have hLl : L.length = n := by rw [hL, List.length_take]; omega
  cases hst : stp L (n + 1) 1 0 [] with
  | bad b' =>
    rw [parseL_bad hps hn hL hst] at h
    have hb := stp_bad hst (Nat.zero_le _) (Nat.le_refl _)
    have hb2 := hb.2 (by omega)
    split at h <;> cases h <;> omega
  | ok o q =>
    rw [parseL_ok hps hn hL hst] at h
    split at h
    · cases h
      omega
    · cases h
end Go.Scrp
