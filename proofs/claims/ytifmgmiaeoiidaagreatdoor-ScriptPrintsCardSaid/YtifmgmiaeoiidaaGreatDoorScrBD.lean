/-
  Plain: what is printed is parsed, and what is parsed is printed to the same text. No program in sight. No condition.
-/
import Derived.Test.YtifmgmiaeoiidaaGreatDoorScrAB
import Derived.Test.YtifmgmiaeoiidaaGreatDoorScrQ
import Derived.Test.YtifmgmiaeoiidaaGreatDoorScrBB
import Derived.Test.YtifmgmiaeoiidaaGreatDoorScrBC
namespace Go.Scrp
theorem plainB_iff {c : UInt8} : plainB c = true ↔ 33 ≤ c.toNat ∧ c.toNat ≤ 126 := by simp [plainB]
theorem digB_all : ∀ n : Fin 16, plainB (digB n.val) = true ∧ digB n.val ≠ 44 := by decide +kernel
theorem digB_plain {n : Nat} (h : n < 16) : plainB (digB n) = true ∧ digB n ≠ 44 := digB_all ⟨n, h⟩
theorem hex_plain : ∀ (s : List UInt8), ∀ c ∈ hexL s, plainB c = true ∧ c ≠ 44
  | [], c, h => by cases h
  | x :: r, c, h => by
    have hx := UInt8.toNat_lt x
    rw [hexL] at h
    rcases List.mem_cons.1 h with rfl | h
    · exact digB_plain (by omega)
    rcases List.mem_cons.1 h with rfl | h
    · exact digB_plain (by omega)
    exact hex_plain r c h
theorem dec_plain (u : Nat) : ∀ c ∈ Lib.decDigits u, plainB c = true := fun c hc => by
  have h := List.all_eq_true.1 (dec_canon u u (Nat.le_refl _)).1.2.1 c hc
  have := isDig_iff.1 h
  exact plainB_iff.2 ⟨by omega, by omega⟩
theorem itoa_plain (v : Int) : ∀ c ∈ Lib.itoa v, plainB c = true := fun c hc => by
  unfold Lib.itoa at hc
  split at hc
  · rcases List.mem_cons.1 hc with rfl | hc
    · decide
    · exact dec_plain _ c hc
  · exact dec_plain _ c hc
theorem item_plain (x : List UInt8) : ∀ c ∈ itemL x, plainB c = true ∧ c ≠ 44 := fun c hc => by
  unfold itemL at hc
  split at hc
  · have : c = 45 := by simpa using hc
    subst this
    decide
  · exact hex_plain x c hc
theorem tail_mem {d : UInt8} : ∀ (l : List (List UInt8)), ∀ c ∈ Lib.joinTail [d] l, c = d ∨ ∃ x ∈ l, c ∈ x
  | [], c, h => by rw [tail_nil] at h; cases h
  | x :: r, c, h => by
    rw [tail_cons] at h
    rcases List.mem_append.1 h with h | h
    · rcases List.mem_append.1 h with h | h
      · exact .inl (by simpa using h)
      · exact .inr ⟨x, by simp, h⟩
    · rcases tail_mem r c h with h | ⟨y, hy, h⟩
      · exact .inl h
      · exact .inr ⟨y, List.mem_cons_of_mem _ hy, h⟩
theorem join_mem {d : UInt8} (l : List (List UInt8)) : ∀ c ∈ Lib.join l [d], c = d ∨ ∃ x ∈ l, c ∈ x := fun c h => by
  cases l with
  | nil => cases h
  | cons x r =>
    rw [Lib.join_cons] at h
    rcases List.mem_append.1 h with h | h
    · exact .inr ⟨x, by simp, h⟩
    · rcases tail_mem r c h with h | ⟨y, hy, h⟩
      · exact .inl h
      · exact .inr ⟨y, List.mem_cons_of_mem _ hy, h⟩
theorem set_plain (l : List (List UInt8)) : ∀ c ∈ setL l, plainB c = true := fun c hc => by
  unfold setL at hc
  split at hc
  · have : c = 46 := by simpa using hc
    subst this
    decide
  · rcases join_mem _ c hc with rfl | ⟨x, hx, hc⟩
    · decide
    · obtain ⟨y, _, rfl⟩ := List.mem_map.1 hx
      exact (item_plain y c hc).1
theorem word_plain (s : List UInt8) : ∀ c ∈ wordL s, plainB c = true := fun c hc => by
  unfold wordL at hc
  split at hc
  · rename_i h
    rw [plainW, Bool.and_eq_true] at h
    exact List.all_eq_true.1 h.1 c hc
  · rcases List.mem_cons.1 hc with rfl | hc
    · decide
    · exact (hex_plain s c hc).1
theorem word_some (s : List UInt8) : wordL s ≠ [] := by
  unfold wordL
  split
  · rename_i h
    intro e
    subst e
    simp [plainW, headOk] at h
  · simp
theorem dec_some (u : Nat) : Lib.decDigits u ≠ [] := (dec_canon u u (Nat.le_refl _)).1.1
theorem itoa_some (v : Int) : Lib.itoa v ≠ [] := by
  unfold Lib.itoa
  split
  · simp
  · exact dec_some _
theorem item_some (x : List UInt8) : itemL x ≠ [] := by
  unfold itemL
  split
  · simp
  · rename_i h
    intro e
    have := congrArg List.length e
    rw [hexL_length] at this
    simp only [List.length_nil] at this
    exact h (List.eq_nil_of_length_eq_zero (by omega))
theorem set_some (l : List (List UInt8)) : setL l ≠ [] := by
  unfold setL
  split
  · simp
  · rename_i h
    cases l with
    | nil => exact absurd rfl h
    | cons x r =>
      rw [List.map_cons, Lib.join_cons]
      intro e
      exact item_some x (List.append_eq_nil_iff.1 e).1
theorem end_how {h : Int} (e : endT h ≠ []) : h = 0 ∨ h = 1 := by
  unfold endT at e
  by_cases h0 : h = 0
  · exact .inl h0
  by_cases h1 : h = 1
  · exact .inr h1
  simp [h0, h1] at e
theorem spell_plain {k : Int} (h : (spellT k).1 ≠ []) : ∀ c ∈ (spellT k).1, plainB c = true := by
  rcases spell_kinds h with rfl | rfl | rfl | rfl | rfl | rfl | rfl | rfl <;> decide
theorem end_plain {h : Int} (e : endT h ≠ []) : ∀ c ∈ endT h, plainB c = true := by
  rcases end_how e with rfl | rfl <;> decide
theorem words_plain {h : Hd} (h1 : (spellT h.kind).1 ≠ []) (h2 : endT h.how ≠ []) : ∀ x ∈ wordsT h, x ≠ [] ∧ ∀ c ∈ x, plainB c = true := fun x hx => by
  unfold wordsT at hx
  rcases List.mem_append.1 hx with hx | hx
  · rcases List.mem_append.1 hx with hx | hx
    · have : x = (spellT h.kind).1 := by simpa using hx
      subst this
      exact ⟨h1, spell_plain h1⟩
    · split at hx
      · rcases List.mem_cons.1 hx with rfl | hx
        · exact ⟨word_some _, word_plain _⟩
        have : x = Lib.decDigits h.typ := by simpa using hx
        subst this
        exact ⟨dec_some _, dec_plain _⟩
      · cases hx
  · split at hx
    · rcases List.mem_cons.1 hx with rfl | hx
      · exact ⟨dec_some _, dec_plain _⟩
      have : x = setL h.recs := by simpa using hx
      subst this
      exact ⟨set_some _, set_plain _⟩
    · split at hx
      · have : x = Lib.decDigits h.n := by simpa using hx
        subst this
        exact ⟨dec_some _, dec_plain _⟩
      · split at hx
        · rcases List.mem_cons.1 hx with rfl | hx
          · exact ⟨h2, end_plain h2⟩
          rcases List.mem_cons.1 hx with rfl | hx
          · exact ⟨itoa_some _, itoa_plain _⟩
          have : x = [123] := by simpa using hx
          subst this
          exact ⟨by simp, by decide⟩
        · cases hx
theorem dig_val_all : ∀ n : Fin 256, valN (UInt8.ofNat n.val) < 16 → digB (valN (UInt8.ofNat n.val)) = UInt8.ofNat n.val := by decide +kernel
theorem dig_val {c : UInt8} (h : valN c < 16) : digB (valN c) = c := by
  have e : UInt8.ofNat c.toNat = c := by simp
  have := dig_val_all ⟨c.toNat, UInt8.toNat_lt c⟩
  simp only [e] at this
  exact this h
theorem hex_back : ∀ (s b : List UInt8), unhexL s = some b → hexL b = s
  | [], b, h => by
    rw [unhexL] at h
    cases h
    rfl
  | [_], b, h => by cases h
  | x :: y :: r, b, h => by
    rw [unhexL] at h
    split at h
    · rename_i hv
      obtain ⟨b', h1, rfl⟩ := Option.map_eq_some_iff.1 h
      have e : (UInt8.ofNat (16 * valN x + valN y)).toNat = 16 * valN x + valN y := by
        rw [UInt8.toNat_ofNat']
        omega
      rw [hexL, e, hex_back r b' h1, show (16 * valN x + valN y) / 16 = valN x by omega, show (16 * valN x + valN y) % 16 = valN y by omega, dig_val hv.1, dig_val hv.2]
    · cases h
theorem word_back {s x : List UInt8} (h : unwordL s = some x) : wordL x = s := by
  unfold unwordL at h
  split at h
  · rename_i hp
    cases h
    exact if_pos hp
  · split at h
    · cases h
    · split at h
      · rename_i hc
        split at h
        · rename_i b hb
          split at h
          · cases h
          · rename_i hp
            cases h
            rw [wordL, if_neg hp, hex_back _ _ hb, hc]
        · cases h
      · cases h
theorem item_back {x r : List UInt8} (h : itemU x = some r) : itemL r = x := by
  unfold itemU at h
  split at h
  · rename_i hx
    cases h
    rw [hx]
    rfl
  · split at h
    · rename_i b hb
      split at h
      · cases h
      · rename_i h0
        cases h
        rw [itemL, if_neg h0, hex_back _ _ hb]
    · cases h
theorem items_back : ∀ (l r : List (List UInt8)), unsetItems l = some r → r.map itemL = l
  | [], r, h => by
    rw [unsetItems] at h
    cases h
    rfl
  | x :: l, r, h => by
    rw [unsetItems] at h
    split at h
    · rename_i b hb
      obtain ⟨r', h1, rfl⟩ := Option.map_eq_some_iff.1 h
      rw [List.map_cons, item_back hb, items_back l r' h1]
    · cases h
theorem set_back {s : List UInt8} {r : List (List UInt8)} (h : unsetL s = some r) : setL r = s := by
  unfold unsetL at h
  split at h
  · rename_i hs
    cases h
    rw [hs]
    rfl
  · have h1 := items_back _ _ h
    have hne : r ≠ [] := by
      intro e
      subst e
      obtain ⟨x, xs, e⟩ := sep_some (d := 44) s
      rw [e] at h1
      cases h1
    rw [setL, if_neg hne, h1, join_sep]
theorem item_item (x : List UInt8) : itemU (itemL x) = some x := by
  unfold itemL
  split
  · rename_i h
    rw [h]
    rfl
  · rename_i h
    have hne : hexL x ≠ [45] := by
      intro e
      have := congrArg List.length e
      rw [hexL_length] at this
      simp at this
      omega
    rw [itemU, if_neg hne, unhex_hex]
    exact if_neg h
theorem items_items : ∀ l : List (List UInt8), unsetItems (l.map itemL) = some l
  | [] => rfl
  | x :: l => by
    rw [List.map_cons, unsetItems, item_item, items_items l]
    rfl
theorem unset_set (l : List (List UInt8)) : unsetL (setL l) = some l := by
  unfold setL
  split
  · rename_i h
    rw [h]
    rfl
  · rename_i h
    have hsj := sep_join (d := 44) (l := l.map itemL) (by simpa using h) (fun s hs c hc => by
      obtain ⟨y, _, rfl⟩ := List.mem_map.1 hs
      exact (item_plain y c hc).2)
    have hne : Lib.join (l.map itemL) [44] ≠ [46] := by
      intro e
      rw [e] at hsj
      have h46 : l.map itemL = [[46]] := by
        rw [← hsj]
        rfl
      have := items_items l
      rw [h46] at this
      cases this
    rw [unsetL, if_neg hne, hsj, items_items]
theorem num_dec {u most : Nat} (hm : most ≤ 18446744073709551615) (h : u ≤ most) : numL (Lib.decDigits u) most = some u := by
  have hc := dec_canon u u (Nat.le_refl _)
  rw [numL_of hm, if_pos ⟨hc.1, by rw [hc.2]; exact h⟩, hc.2]
theorem code_itoa {v : Int} (h : -9223372036854775808 ≤ v ∧ v ≤ 9223372036854775807) : codeL (Lib.itoa v) = some v := by
  by_cases hv : v < 0
  · obtain ⟨u, rfl⟩ : ∃ u : Nat, v = -(u : Int) := ⟨v.natAbs, by omega⟩
    rw [Lib.itoa_neg u (by omega), code_neg, num_dec (by omega) (by omega)]
    exact if_pos (by omega)
  · obtain ⟨u, rfl⟩ : ∃ u : Nat, v = (u : Int) := ⟨v.toNat, by omega⟩
    rw [Lib.itoa_nonneg, code_pos, num_dec (by omega) (by omega)]
    · rfl
    · intro e
      have := isDig_iff.1 (dec_head u 45 (by rw [e]; simp))
      have e45 : (45 : UInt8).toNat = 45 := rfl
      omega
theorem own_parts {h : Hd} {m : Nat} (ho : ownT h m = true) : (keyT h.kind = true ∨ (h.name = [] ∧ h.typ = 0)) ∧ (h.kind = 1 ∨ (h.recs = [] ∧ h.life = 0)) ∧ (cntT h.kind = true ∨ h.n = 0) ∧ (h.kind = 3 ∨ (m = 0 ∧ h.how = 0 ∧ h.code = 0)) := by
  unfold ownT at ho
  simp only [Bool.and_eq_true, Bool.or_eq_true, decide_eq_true_eq] at ho
  obtain ⟨⟨⟨h1, h2⟩, h3⟩, h4⟩ := ho
  exact ⟨h1, h2.imp id fun h => ⟨List.eq_nil_of_length_eq_zero h.1, h.2⟩, h3, h4.imp id fun h => ⟨h.1.1, h.1.2, h.2⟩⟩
theorem op_words {h : Hd} {deep m : Nat} (hok : h.Ok) (hb : badT deep h m = false) : opL (wordsT h) = some h := by
  obtain ⟨_, h1, h2, h3⟩ := bad_parts hb
  have ho := own_parts h3
  have hw := end_how h2
  obtain ⟨kd, nm, ty, rc, lf, n, hw', cd⟩ := h
  obtain ⟨k1, k2, k3, k4, k5, k6⟩ := hok
  dsimp only at *
  have hty := num_dec (u := ty) (most := 65535) (by omega) (by omega)
  have hlf := num_dec (u := lf) (most := mostL) (by unfold mostL; omega) (by unfold mostL; omega)
  have hn := num_dec (u := n) (most := mostL) (by unfold mostL; omega) (by unfold mostL; omega)
  have hcd := code_itoa k6
  have hnm := unword_word nm
  have hrc := unset_set rc
  rcases spell_kinds h1 with rfl | rfl | rfl | rfl | rfl | rfl | rfl | rfl
  · obtain ⟨_, _, g3, g4⟩ := ho
    have g3 : n = 0 := g3.resolve_left (by decide)
    have g4 := g4.resolve_left (by decide)
    obtain ⟨_, rfl, rfl⟩ := g4
    subst g3
    have e : wordsT ⟨1, nm, ty, rc, lf, 0, 0, 0⟩ = [[112, 117, 116], wordL nm, Lib.decDigits ty, Lib.decDigits lf, setL rc] := rfl
    rw [e]
    have hk : kindL [[112, 117, 116], wordL nm, Lib.decDigits ty, Lib.decDigits lf, setL rc] = 1 := (matchK_iff (by omega) (by omega)).1 rfl
    unfold opL
    rw [hk]
    simp [keyO, hnm, hty, hlf, hrc]
  · obtain ⟨_, g2, g3, g4⟩ := ho
    have g2 := g2.resolve_left (by decide)
    have g3 : n = 0 := g3.resolve_left (by decide)
    have g4 := g4.resolve_left (by decide)
    obtain ⟨_, rfl, rfl⟩ := g4
    obtain ⟨rfl, rfl⟩ := g2
    subst g3
    have e : wordsT ⟨2, nm, ty, [], 0, 0, 0, 0⟩ = [[103, 101, 116], wordL nm, Lib.decDigits ty] := rfl
    rw [e]
    have hk : kindL [[103, 101, 116], wordL nm, Lib.decDigits ty] = 2 := (matchK_iff (by omega) (by omega)).1 rfl
    unfold opL
    rw [hk]
    simp [keyO, hnm, hty]
  · obtain ⟨_, g2, g3, _⟩ := ho
    have g2 := g2.resolve_left (by decide)
    have g3 : n = 0 := g3.resolve_left (by decide)
    obtain ⟨rfl, rfl⟩ := g2
    subst g3
    have e : wordsT ⟨3, nm, ty, [], 0, 0, hw', cd⟩ = [[118, 105, 101, 119], wordL nm, Lib.decDigits ty, endT hw', Lib.itoa cd, [123]] := rfl
    rw [e]
    have hk : kindL [[118, 105, 101, 119], wordL nm, Lib.decDigits ty, endT hw', Lib.itoa cd, [123]] = 3 := (matchK_iff (by omega) (by omega)).1 rfl
    have hh : howL (endT hw') = hw' := by
      rcases hw with rfl | rfl <;> rfl
    unfold opL
    rw [hk]
    simp [keyO, hnm, hty, hcd, hh]
  · obtain ⟨_, g2, g3, g4⟩ := ho
    have g2 := g2.resolve_left (by decide)
    have g3 : n = 0 := g3.resolve_left (by decide)
    have g4 := g4.resolve_left (by decide)
    obtain ⟨_, rfl, rfl⟩ := g4
    obtain ⟨rfl, rfl⟩ := g2
    subst g3
    have e : wordsT ⟨4, nm, ty, [], 0, 0, 0, 0⟩ = [[100, 101, 108, 101, 116, 101], wordL nm, Lib.decDigits ty] := rfl
    rw [e]
    have hk : kindL [[100, 101, 108, 101, 116, 101], wordL nm, Lib.decDigits ty] = 4 := (matchK_iff (by omega) (by omega)).1 rfl
    unfold opL
    rw [hk]
    simp [keyO, hnm, hty]
  · obtain ⟨g1, g2, _, g4⟩ := ho
    have g1 := g1.resolve_left (by decide)
    have g2 := g2.resolve_left (by decide)
    have g4 := g4.resolve_left (by decide)
    obtain ⟨rfl, rfl⟩ := g1
    obtain ⟨_, rfl, rfl⟩ := g4
    obtain ⟨rfl, rfl⟩ := g2
    have e : wordsT ⟨5, [], 0, [], 0, n, 0, 0⟩ = [[116, 105, 99, 107], Lib.decDigits n] := rfl
    rw [e]
    have hk : kindL [[116, 105, 99, 107], Lib.decDigits n] = 5 := (matchK_iff (by omega) (by omega)).1 rfl
    unfold opL
    rw [hk]
    simp [hn]
  · obtain ⟨g1, g2, _, g4⟩ := ho
    have g1 := g1.resolve_left (by decide)
    have g2 := g2.resolve_left (by decide)
    have g4 := g4.resolve_left (by decide)
    obtain ⟨rfl, rfl⟩ := g1
    obtain ⟨_, rfl, rfl⟩ := g4
    obtain ⟨rfl, rfl⟩ := g2
    have e : wordsT ⟨6, [], 0, [], 0, n, 0, 0⟩ = [[115, 119, 101, 101, 112], Lib.decDigits n] := rfl
    rw [e]
    have hk : kindL [[115, 119, 101, 101, 112], Lib.decDigits n] = 6 := (matchK_iff (by omega) (by omega)).1 rfl
    unfold opL
    rw [hk]
    simp [hn]
  · obtain ⟨g1, g2, g3, g4⟩ := ho
    have g1 := g1.resolve_left (by decide)
    have g2 := g2.resolve_left (by decide)
    have g3 : n = 0 := g3.resolve_left (by decide)
    have g4 := g4.resolve_left (by decide)
    obtain ⟨rfl, rfl⟩ := g1
    obtain ⟨_, rfl, rfl⟩ := g4
    obtain ⟨rfl, rfl⟩ := g2
    subst g3
    rfl
  · obtain ⟨g1, g2, g3, g4⟩ := ho
    have g1 := g1.resolve_left (by decide)
    have g2 := g2.resolve_left (by decide)
    have g3 : n = 0 := g3.resolve_left (by decide)
    have g4 := g4.resolve_left (by decide)
    obtain ⟨rfl, rfl⟩ := g1
    obtain ⟨_, rfl, rfl⟩ := g4
    obtain ⟨rfl, rfl⟩ := g2
    subst g3
    rfl
/-- What a kind's words are. -/
theorem key_back {ws : List (List UInt8)} {k : List UInt8 × Nat} (h : keyO ws = some k) : wordL k.1 = ws.getD 1 [] ∧ Lib.decDigits k.2 = ws.getD 2 [] := by
  unfold keyO at h
  split at h
  · rename_i h1 h2
    cases h
    exact ⟨word_back h1, (num_v h2).2.2⟩
  · cases h
theorem bad_no {deep m : Nat} {h : Hd} (hd : deep ≤ 20) (h1 : (spellT h.kind).1 ≠ []) (h2 : endT h.how ≠ []) (h3 : ownT h m = true) : badT deep h m = false := by
  have hd : ¬ 20 < deep := by omega
  simp [badT, hd, h1, h2, h3]
theorem op_back {ws : List (List UInt8)} {h : Hd} (e : opL ws = some h) : wordsT h = ws ∧ ∀ deep m, deep ≤ 20 → (h.kind ≠ 3 → m = 0) → badT deep h m = false := by
  have h0 : kindL ws ≠ 0 := by
    intro h0
    unfold opL at e
    rw [h0] at e
    cases e
  obtain ⟨hlen, hfst⟩ := kind_many h0
  have h8 := kindL_le ws
  have hk : kindL ws = 1 ∨ kindL ws = 2 ∨ kindL ws = 3 ∨ kindL ws = 4 ∨ kindL ws = 5 ∨ kindL ws = 6 ∨ kindL ws = 7 ∨ kindL ws = 8 := by omega
  unfold opL at e
  rcases hk with hk | hk | hk | hk | hk | hk | hk | hk <;> rw [hk] at e hlen hfst
  · obtain ⟨a, b, d, f, g, rfl⟩ := list5 (l := ws) hlen
    have hfst : [112, 117, 116] = a := hfst
    simp only [if_true] at e
    split at e
    · rename_i k l r e1 e2 e3
      cases e
      have hkb := key_back e1
      have e : wordsT ⟨1, k.1, k.2, r, l, 0, 0, 0⟩ = [[112, 117, 116], wordL k.1, Lib.decDigits k.2, Lib.decDigits l, setL r] := rfl
      refine ⟨?_, fun deep m hd hm => ?_⟩
      · rw [e, hkb.1, hkb.2, (num_v e2).2.2, set_back e3, hfst]
        rfl
      · have hm : m = 0 := hm (show (1 : Int) ≠ 3 by decide)
        subst hm
        exact bad_no hd (show (spellT 1).1 ≠ [] by decide) (show endT 0 ≠ [] by decide) rfl
    · cases e
  · obtain ⟨a, b, d, rfl⟩ := list3 (l := ws) hlen
    have hfst : [103, 101, 116] = a := hfst
    obtain ⟨k, e1, rfl⟩ := Option.map_eq_some_iff.1 e
    have hkb := key_back e1
    have e : wordsT ⟨2, k.1, k.2, [], 0, 0, 0, 0⟩ = [[103, 101, 116], wordL k.1, Lib.decDigits k.2] := rfl
    refine ⟨?_, fun deep m hd hm => ?_⟩
    · rw [e, hkb.1, hkb.2, hfst]
      rfl
    · have hm : m = 0 := hm (show (2 : Int) ≠ 3 by decide)
      subst hm
      exact bad_no hd (show (spellT 2).1 ≠ [] by decide) (show endT 0 ≠ [] by decide) rfl
  · obtain ⟨a, b, d, f, g, i, rfl⟩ := list6 (l := ws) hlen
    have hfst : [118, 105, 101, 119] = a := hfst
    have e : (match keyO [a, b, d, f, g, i], codeL g with | some k, some c => if f = endT (howL f) ∧ i = [123] then some (⟨3, k.1, k.2, [], 0, 0, howL f, c⟩ : Hd) else none | _, _ => none) = some h := e
    split at e
    · rename_i k c e1 e2
      split at e
      · rename_i hc
        cases e
        have hkb := key_back e1
        have e : wordsT ⟨3, k.1, k.2, [], 0, 0, howL f, c⟩ = [[118, 105, 101, 119], wordL k.1, Lib.decDigits k.2, endT (howL f), Lib.itoa c, [123]] := rfl
        refine ⟨?_, fun deep m hd hm => ?_⟩
        · rw [e, hkb.1, hkb.2, hfst, ← hc.1, (code_v e2).2.2, hc.2]
          rfl
        · refine bad_no hd (show (spellT 3).1 ≠ [] by decide) ?_ ?_
          · show endT (howL f) ≠ []
            unfold howL
            split <;> decide
          · rfl
      · cases e
    · cases e
  · obtain ⟨a, b, d, rfl⟩ := list3 (l := ws) hlen
    have hfst : [100, 101, 108, 101, 116, 101] = a := hfst
    obtain ⟨k, e1, rfl⟩ := Option.map_eq_some_iff.1 e
    have hkb := key_back e1
    have e : wordsT ⟨4, k.1, k.2, [], 0, 0, 0, 0⟩ = [[100, 101, 108, 101, 116, 101], wordL k.1, Lib.decDigits k.2] := rfl
    refine ⟨?_, fun deep m hd hm => ?_⟩
    · rw [e, hkb.1, hkb.2, hfst]
      rfl
    · have hm : m = 0 := hm (show (4 : Int) ≠ 3 by decide)
      subst hm
      exact bad_no hd (show (spellT 4).1 ≠ [] by decide) (show endT 0 ≠ [] by decide) rfl
  · obtain ⟨a, b, rfl⟩ := list2 (l := ws) hlen
    have hfst : [116, 105, 99, 107] = a := hfst
    obtain ⟨k, e1, rfl⟩ := Option.map_eq_some_iff.1 e
    have e : wordsT ⟨5, [], 0, [], 0, k, 0, 0⟩ = [[116, 105, 99, 107], Lib.decDigits k] := rfl
    refine ⟨?_, fun deep m hd hm => ?_⟩
    · rw [e, (num_v e1).2.2, hfst]
      rfl
    · have hm : m = 0 := hm (show (5 : Int) ≠ 3 by decide)
      subst hm
      exact bad_no hd (show (spellT 5).1 ≠ [] by decide) (show endT 0 ≠ [] by decide) rfl
  · obtain ⟨a, b, rfl⟩ := list2 (l := ws) hlen
    have hfst : [115, 119, 101, 101, 112] = a := hfst
    obtain ⟨k, e1, rfl⟩ := Option.map_eq_some_iff.1 e
    have e : wordsT ⟨6, [], 0, [], 0, k, 0, 0⟩ = [[115, 119, 101, 101, 112], Lib.decDigits k] := rfl
    refine ⟨?_, fun deep m hd hm => ?_⟩
    · rw [e, (num_v e1).2.2, hfst]
      rfl
    · have hm : m = 0 := hm (show (6 : Int) ≠ 3 by decide)
      subst hm
      exact bad_no hd (show (spellT 6).1 ≠ [] by decide) (show endT 0 ≠ [] by decide) rfl
  · obtain ⟨a, rfl⟩ := list1 (l := ws) hlen
    have hfst : [99, 111, 109, 112, 97, 99, 116] = a := hfst
    cases e
    refine ⟨?_, fun deep m hd hm => ?_⟩
    · rw [← hfst]
      rfl
    · have hm : m = 0 := hm (by decide)
      subst hm
      exact bad_no hd (by decide) (by decide) rfl
  · obtain ⟨a, rfl⟩ := list1 (l := ws) hlen
    have hfst : [115, 116, 97, 116, 115] = a := hfst
    cases e
    refine ⟨?_, fun deep m hd hm => ?_⟩
    · rw [← hfst]
      rfl
    · have hm : m = 0 := hm (by decide)
      subst hm
      exact bad_no hd (by decide) (by decide) rfl
end Go.Scrp
