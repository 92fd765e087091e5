/-
  name.Check, Parse and Text (of NamF but for the reference's Same, NamP, NamG, Spl, Jon, NamA).
-/
import Derived.Test.YtimdedkejadnfaaGreatDoorWireA
import Derived.Test.YtimdedkejadnfaaGreatDoorWireRA
import Derived.Lib.SplitLaws
import Derived.Lib.Strings
import Derived.Lib.AppendStr
import Derived.Shelf.Strings.Split
import Derived.Shelf.Strings.Prefix
import Derived.Test.YtimdedkejadnfaaGreatDoorProg
import Derived.Shelf.Strings.OnBuilder
namespace Go.Wirep
open Go.Foldp
/-- Why a name may not be (0: it may). -/
def checkL (l : List (List UInt8)) : Int := if l.all (fun s => labelE s == 0) then (if 255 < wireL l then 21 else 0) else 20
theorem labelE_two (s : List UInt8) : labelE s = 0 ∨ labelE s = 20 := by
  unfold labelE
  split
  · exact .inr rfl
  · split
    · exact .inl rfl
    · exact .inr rfl
end Go.Wirep
namespace Go.Proofs.YtimdedkejadnfaaGreatDoor
open Go.RowKit Go.Foldp Go.Colm Go.Wirep
set_option linter.unusedVariables false
set_option linter.unusedSimpArgs false
set_option linter.unusedSectionVars false

theorem labs_ne {a b : List (List UInt8)} {k : Nat} (hk : k < a.length) (hk' : k < b.length) (h : a[k] ≠ b[k]) : (a == b) = false := by
  rw [beq_eq_false_iff_ne]
  rintro rfl
  exact h rfl
theorem labs_eq {a b : List (List UInt8)} (hl : a.length = b.length) (h : ∀ j, (hj : j < a.length) → (hj' : j < b.length) → a[j] = b[j]) : (a == b) = true := by
  rw [beq_iff_eq]
  exact List.ext_getElem hl h
theorem str_beq (s t : List UInt8) : ((ByteArray.mk s.toArray).toList == (ByteArray.mk t.toArray).toList) = decide (s = t) := by
  rw [ByteArray.toList_mk, ByteArray.toList_mk]
  rw [Bool.eq_iff_iff]
  simp

end Go.Proofs.YtimdedkejadnfaaGreatDoor
namespace Go.Wirep
open Go.Foldp

/-- A text, cut at its dots. -/
def splitL : List UInt8 → List (List UInt8)
  | [] => [[]]
  | c :: r => if c = 46 then [] :: splitL r else match splitL r with
    | [] => [[c]]
    | x :: xs => (c :: x) :: xs
theorem splitL_dot (r : List UInt8) : splitL (46 :: r) = [] :: splitL r := by rw [splitL, if_pos rfl]
theorem splitL_cons {c : UInt8} (h : c ≠ 46) {r x : List UInt8} {xs : List (List UInt8)} (e : splitL r = x :: xs) : splitL (c :: r) = (c :: x) :: xs := by rw [splitL, if_neg h, e]
theorem splitL_some : ∀ s : List UInt8, ∃ x xs, splitL s = x :: xs
  | [] => ⟨_, _, rfl⟩
  | c :: r => by
    obtain ⟨x, xs, e⟩ := splitL_some r
    by_cases h : c = 46
    · subst h
      exact ⟨_, _, splitL_dot r⟩
    · exact ⟨_, _, splitL_cons h e⟩
theorem splitL_part : ∀ (a r : List UInt8), (∀ c ∈ a, c ≠ 46) → splitL (a ++ 46 :: r) = a :: splitL r
  | [], r, _ => splitL_dot r
  | c :: a, r, h => splitL_cons (h c (List.mem_cons_self ..)) (splitL_part a r fun d hd => h d (List.mem_cons_of_mem _ hd))
theorem splitL_end : ∀ a : List UInt8, (∀ c ∈ a, c ≠ 46) → splitL a = [a]
  | [], _ => rfl
  | c :: a, h => splitL_cons (h c (List.mem_cons_self ..)) (splitL_end a fun d hd => h d (List.mem_cons_of_mem _ hd))
/-- No part has a dot. -/
theorem splitL_no_dot : ∀ (s : List UInt8), ∀ x ∈ splitL s, ∀ c ∈ x, c ≠ 46
  | [], x, hx, c, hc => by
    simp [splitL] at hx
    subst hx
    cases hc
  | d :: r, x, hx, c, hc => by
    obtain ⟨y, ys, e⟩ := splitL_some r
    by_cases h : d = 46
    · subst h
      rw [splitL_dot] at hx
      rcases List.mem_cons.1 hx with rfl | hx
      · cases hc
      · exact splitL_no_dot r x hx c hc
    · rw [splitL_cons h e] at hx
      rcases List.mem_cons.1 hx with rfl | hx
      · rcases List.mem_cons.1 hc with rfl | hc
        · exact h
        · exact splitL_no_dot r y (by rw [e]; exact List.mem_cons_self ..) c hc
      · exact splitL_no_dot r x (by rw [e]; exact List.mem_cons_of_mem _ hx) c hc
theorem lib_split : ∀ s : List UInt8, Lib.split s [46] = splitL s
  | [] => by
    rw [Lib.split, Lib.count_miss (by simp [Lib.index])]
    rfl
  | c :: r => by
    have ih := lib_split r
    unfold Lib.split at ih ⊢
    by_cases h : c = 46
    · subst h
      have hix : Lib.index (46 :: r) [46] = 0 := by rw [Lib.index]; simp [List.isPrefixOf]
      rw [Lib.count_cons_eq, Nat.add_comm, Lib.splitK, hix, splitL_dot, ← ih]
      simp
    · rw [Lib.count_cons_ne c 46 r h]
      have hp : ([46] : List UInt8).isPrefixOf (c :: r) = false := by simp [List.isPrefixOf]; exact fun e => h e.symm
      have hix : Lib.index (c :: r) [46] = if Lib.index r [46] == -1 then -1 else Lib.index r [46] + 1 := by rw [Lib.index, hp]; simp
      by_cases hm : Lib.index r [46] = -1
      · rw [Lib.count_miss hm] at ih ⊢
        rw [Lib.splitK] at ih ⊢
        rw [splitL_cons h ih.symm]
      · have hge := Lib.index_ge r [46]
        obtain ⟨j, hj⟩ : ∃ j : Nat, Lib.index r [46] = j := ⟨(Lib.index r [46]).toNat, by omega⟩
        rw [Lib.count_hit (by simp) hj, Nat.add_comm, Lib.splitK] at ih ⊢
        rw [hix]
        rw [hj] at ih ⊢
        have e1 : (((j : Int) == -1) = false) := by rw [beq_eq_false_iff_ne]; omega
        have e2 : (((j : Int) + 1 == -1) = false) := by rw [beq_eq_false_iff_ne]; omega
        have e3 : ((j : Int) + 1).toNat = j + 1 := by omega
        simp only [e1, e2, e3, Bool.false_eq_true, if_false, Int.toNat_natCast, List.length_cons, List.length_nil, Nat.add_zero, Nat.zero_add] at ih ⊢
        rw [splitL_cons h ih.symm]
        simp
theorem low_dot_all : ∀ n : Fin 256, (lowB (UInt8.ofNat n.val) = 46 ↔ UInt8.ofNat n.val = 46) := by decide +kernel
theorem low_dot (c : UInt8) : lowB c = 46 ↔ c = 46 := by
  have := low_dot_all ⟨c.toNat, UInt8.toNat_lt c⟩
  simpa using this
theorem splitL_low : ∀ s : List UInt8, splitL (lowL s) = (splitL s).map lowL
  | [] => rfl
  | c :: r => by
    obtain ⟨x, xs, e⟩ := splitL_some r
    have ih := splitL_low r
    have e0 : lowL (c :: r) = lowB c :: lowL r := rfl
    rw [e0]
    by_cases h : c = 46
    · subst h
      rw [(low_dot 46).2 rfl, splitL_dot, splitL_dot, ih]
      rfl
    · rw [e] at ih
      rw [splitL_cons (fun e => h ((low_dot c).1 e)) ih, splitL_cons h e]
      rfl
/-- What is cut is joined again. -/
theorem join_split : ∀ s : List UInt8, Lib.join (splitL s) [46] = s
  | [] => by simp [splitL, Lib.join_one]
  | c :: r => by
    obtain ⟨x, xs, e⟩ := splitL_some r
    have ih := join_split r
    rw [e] at ih
    by_cases h : c = 46
    · subst h
      rw [splitL_dot, e, Lib.join_cons, tail_cons]
      rw [Lib.join_cons] at ih
      simp [← ih]
    · rw [splitL_cons h e]
      rw [Lib.join_cons] at ih ⊢
      rw [List.cons_append, ih]
theorem split_tail : ∀ r : List (List UInt8), (∀ s ∈ r, ∀ c ∈ s, c ≠ 46) → ∀ x : List UInt8, (∀ c ∈ x, c ≠ 46) → splitL (x ++ Lib.joinTail [46] r) = x :: r
  | [], _, x, hx => by rw [tail_nil, List.append_nil, splitL_end x hx]
  | y :: r, h, x, hx => by
    rw [tail_cons, List.append_assoc, List.singleton_append, splitL_part x _ hx, split_tail r (fun s hs => h s (List.mem_cons_of_mem _ hs)) y (h y (List.mem_cons_self ..))]
/-- What is joined is cut again. -/
theorem split_join {l : List (List UInt8)} (hne : l ≠ []) (h : ∀ s ∈ l, ∀ c ∈ s, c ≠ 46) : splitL (Lib.join l [46]) = l := by
  rcases l with _ | ⟨x, r⟩
  · exact absurd rfl hne
  · rw [Lib.join_cons]
    exact split_tail r (fun s hs => h s (List.mem_cons_of_mem _ hs)) x (h x (List.mem_cons_self ..))

/-- A dot at the end is taken off. -/
def trimDot (s : List UInt8) : List UInt8 := Lib.trimSuffix s [46]
theorem trimDot_le (s : List UInt8) : (trimDot s).length ≤ s.length := Lib.trimSuffix_le _ _
/-- A text's labels, or the error (0: none). -/
def parseL (s : List UInt8) : List (List UInt8) × Int :=
  if s = [46] then ([], 0) else if checkL (splitL (lowL (trimDot s))) = 0 then (splitL (lowL (trimDot s)), 0) else ([], checkL (splitL (lowL (trimDot s))))
/-- A name's text, or the error. -/
def textL (l : List (List UInt8)) : List UInt8 × Int := if checkL l = 0 then (if l = [] then ([46], 0) else (Lib.join l [46], 0)) else ([], checkL l)
theorem checkL_labels {l : List (List UInt8)} (h : checkL l = 0) : ∀ s ∈ l, labelE s = 0 := by
  unfold checkL at h
  split at h
  · rename_i ha
    rw [List.all_eq_true] at ha
    intro s hs
    simpa using ha s hs
  · cases h
theorem checkL_wire {l : List (List UInt8)} (h : checkL l = 0) : wireL l ≤ 255 := by
  unfold checkL at h
  split at h
  · split at h
    · cases h
    · omega
  · cases h
theorem checkL_mk {l : List (List UInt8)} (h1 : ∀ s ∈ l, labelE s = 0) (h2 : wireL l ≤ 255) : checkL l = 0 := by
  unfold checkL
  rw [if_pos (by rw [List.all_eq_true]; intro s hs; simpa using h1 s hs), if_neg (by omega)]
theorem wireL_low : ∀ l : List (List UInt8), wireL (l.map lowL) = wireL l
  | [] => rfl
  | s :: r => by simp only [List.map_cons, wireL, lowL_length, wireL_low r]
theorem checkL_low {l : List (List UInt8)} (h : checkL l = 0) : checkL (l.map lowL) = 0 := by
  refine checkL_mk (fun s hs => ?_) (by rw [wireL_low]; exact checkL_wire h)
  obtain ⟨x, hx, rfl⟩ := List.mem_map.1 hs
  exact labelE_low (checkL_labels h x hx)
theorem labels_no_dot {l : List (List UInt8)} (h : checkL l = 0) : ∀ s ∈ l, ∀ c ∈ s, c ≠ 46 := fun s hs c hc => by
  have h1 := (labelE_len (checkL_labels h s hs)).2.2
  rw [List.all_eq_true] at h1
  have h2 := h1 c hc
  unfold okB at h2
  rintro rfl
  simp at h2
/-- The text of labels ends with no dot, and is no dot. -/
theorem join_last {l : List (List UInt8)} (hne : l ≠ []) (h : checkL l = 0) : ∃ a c, Lib.join l [46] = a ++ [c] ∧ c ≠ 46 := by
  have hnd := labels_no_dot h
  have hlen := fun s hs => (labelE_len (checkL_labels h s hs)).1
  clear h
  induction l with
  | nil => exact absurd rfl hne
  | cons x r ih =>
    rcases r with _ | ⟨y, r⟩
    · rw [Lib.join_one]
      have h1 := hlen x (List.mem_cons_self ..)
      have hx : x ≠ [] := by rintro rfl; simp at h1
      exact ⟨x.dropLast, x.getLast hx, (List.dropLast_concat_getLast hx).symm, hnd x (List.mem_cons_self ..) _ (List.getLast_mem hx)⟩
    · obtain ⟨a, c, e, hc⟩ := ih (by simp) (fun s hs => hnd s (List.mem_cons_of_mem _ hs)) (fun s hs => hlen s (List.mem_cons_of_mem _ hs))
      refine ⟨x ++ [46] ++ a, c, ?_, hc⟩
      rw [Lib.join_cons] at e ⊢
      rw [tail_cons]
      simp only [List.append_assoc] at e ⊢
      rw [e]
theorem trim_none {a : List UInt8} {c : UInt8} (h : c ≠ 46) : trimDot (a ++ [c]) = a ++ [c] := by
  unfold trimDot Lib.trimSuffix
  rw [if_neg]
  unfold Lib.hasSuffix
  simp
  exact fun e => h e.symm
theorem low_join (l : List (List UInt8)) : lowL (Lib.join l [46]) = Lib.join (l.map lowL) [46] := by
  rcases l with _ | ⟨x, r⟩
  · rfl
  · rw [Lib.join_cons, List.map_cons, Lib.join_cons, low_append, low_tail]
/-- What is printed is parsed, with small letters. -/
theorem parse_text {l : List (List UInt8)} (h : checkL l = 0) : parseL (textL l).1 = (l.map lowL, 0) := by
  rw [textL, if_pos h]
  by_cases hne : l = []
  · subst hne
    rfl
  · rw [if_neg hne]
    obtain ⟨a, c, e, hc⟩ := join_last hne h
    have hns : Lib.join l [46] ≠ [46] := by
      rw [e]
      intro e2
      rcases a with _ | ⟨d, a⟩
      · simp at e2
        exact hc e2
      · simp at e2
    have htr : trimDot (Lib.join l [46]) = Lib.join l [46] := by rw [e]; exact trim_none hc
    have hsp : splitL (lowL (trimDot (Lib.join l [46]))) = l.map lowL := by
      rw [htr, splitL_low, split_join hne (labels_no_dot h)]
    show parseL (Lib.join l [46]) = _
    rw [parseL, if_neg hns, hsp, if_pos (checkL_low h)]
/-- What is parsed: small letters, no error in it. -/
theorem parse_ok {s : List UInt8} (h : (parseL s).2 = 0) : checkL (parseL s).1 = 0 ∧ (parseL s).1.map lowL = (parseL s).1 ∧ (textL (parseL s).1).1.length ≤ s.length := by
  unfold parseL at h ⊢
  split
  · rename_i e
    subst e
    exact ⟨rfl, rfl, by decide⟩
  · rename_i e
    rw [if_neg e] at h
    split
    · rename_i hc
      refine ⟨hc, ?_, ?_⟩
      · rw [splitL_low, List.map_map]
        apply List.map_congr_left
        intro x _
        exact lowL_lowL x
      · obtain ⟨x, xs, es⟩ := splitL_some (lowL (trimDot s))
        have hj := join_split (lowL (trimDot s))
        have hle := trimDot_le s
        rw [textL, if_pos hc, if_neg (by rw [es]; simp)]
        show (Lib.join (splitL (lowL (trimDot s))) [46]).length ≤ _
        rw [hj, lowL_length]
        exact hle
    · rename_i hc
      rw [if_neg hc] at h
      exact absurd h hc

/-! ### How many labels two names share, from the end -/
def comL : List (List UInt8) → List (List UInt8) → Nat
  | x :: a, y :: b => if lowL x = lowL y then comL a b + 1 else 0
  | _, _ => 0
theorem comL_nil_left (b : List (List UInt8)) : comL [] b = 0 := by rw [comL]; simp
theorem comL_nil_right (a : List (List UInt8)) : comL a [] = 0 := by rw [comL]; simp
theorem comL_cons (x y : List UInt8) (a b : List (List UInt8)) : comL (x :: a) (y :: b) = if lowL x = lowL y then comL a b + 1 else 0 := by rw [comL]
theorem comL_le : ∀ a b : List (List UInt8), comL a b ≤ a.length ∧ comL a b ≤ b.length
  | [], b => by rw [comL_nil_left]; simp
  | x :: a, [] => by rw [comL_nil_right]; simp
  | x :: a, y :: b => by
    have := comL_le a b
    rw [comL_cons]
    split
    · simp
      omega
    · simp
theorem comL_comm : ∀ a b : List (List UInt8), comL a b = comL b a
  | [], b => by rw [comL_nil_left, comL_nil_right]
  | x :: a, [] => by rw [comL_nil_left, comL_nil_right]
  | x :: a, y :: b => by
    rw [comL_cons, comL_cons, comL_comm a b]
    by_cases h : lowL x = lowL y
    · rw [if_pos h, if_pos h.symm]
    · rw [if_neg h, if_neg (fun e => h e.symm)]
theorem comL_step {a b : List (List UInt8)} {k : Nat} (ha : k < a.length) (hb : k < b.length) (h : comL a b = k + comL (a.drop k) (b.drop k)) (e : lowL a[k] = lowL b[k]) : comL a b = (k + 1) + comL (a.drop (k + 1)) (b.drop (k + 1)) := by
  rw [h, List.drop_eq_getElem_cons ha, List.drop_eq_getElem_cons hb, comL_cons, if_pos e]
  omega
theorem comL_stop {a b : List (List UInt8)} {k : Nat} (ha : k < a.length) (hb : k < b.length) (h : comL a b = k + comL (a.drop k) (b.drop k)) (e : ¬ lowL a[k] = lowL b[k]) : comL a b = k := by
  rw [h, List.drop_eq_getElem_cons ha, List.drop_eq_getElem_cons hb, comL_cons, if_neg e]
  rfl
theorem comL_end {a b : List (List UInt8)} {k : Nat} (hk : ¬ (k < a.length ∧ k < b.length)) (h : comL a b = k + comL (a.drop k) (b.drop k)) : comL a b = k := by
  rw [h]
  by_cases ha : k < a.length
  · rw [show b.drop k = [] from List.drop_eq_nil_of_le (by omega), comL_nil_right]
    rfl
  · rw [show a.drop k = [] from List.drop_eq_nil_of_le (by omega), comL_nil_left]
    rfl
theorem comL_low : ∀ a : List (List UInt8), comL (a.map lowL) a = a.length
  | [] => rfl
  | x :: a => by rw [List.map_cons, comL_cons, if_pos (lowL_lowL x), comL_low a]; rfl
def sharedL (a b : List (List UInt8)) : Nat := comL a.reverse b.reverse
theorem sharedL_comm (a b : List (List UInt8)) : sharedL a b = sharedL b a := comL_comm _ _
theorem sharedL_le (a b : List (List UInt8)) : sharedL a b ≤ a.length ∧ sharedL a b ≤ b.length := by
  have := comL_le a.reverse b.reverse
  rw [List.length_reverse, List.length_reverse] at this
  exact this
theorem sharedL_low (a : List (List UInt8)) : sharedL (a.map lowL) a = a.length := by
  rw [sharedL, ← List.map_reverse, comL_low, List.length_reverse]
end Go.Wirep
namespace Go.Proofs.YtimdedkejadnfaaGreatDoor
open Go.RowKit Go.Foldp Go.Colm Go.Wirep
set_option linter.unusedVariables false

/-- The first error of labels. -/
def firstL (l : List (List UInt8)) : Int := if l.all (fun s => labelE s == 0) then 0 else 20
theorem firstL_bad {l : List (List UInt8)} {k : Nat} (hk : k < l.length) (h : labelE l[k] ≠ 0) : firstL l = 20 := by
  unfold firstL
  rw [if_neg]
  intro ha
  rw [List.all_eq_true] at ha
  have := ha l[k] (List.getElem_mem _)
  simp at this
  exact h this
theorem firstL_ok {l : List (List UInt8)} (h : ∀ j, (hj : j < l.length) → labelE l[j] = 0) : firstL l = 0 := by
  unfold firstL
  rw [if_pos]
  rw [List.all_eq_true]
  intro s hs
  obtain ⟨j, hj, rfl⟩ := List.getElem_of_mem hs
  simp [h j hj]
theorem label_lab {W : World} {s : List UInt8} (h : s.length ≤ 70368744177664) : Calls Tryz.prog 111 #[.string ⟨s.toArray⟩] W fun e w' => e = .returned (.int .i64 (labelE s)) ∧ Below W.heap.size W w' :=
  label_is ⟨s.toArray⟩ W (by show s.toArray.size ≤ _; simp only [List.size_toArray]; omega)

set_option maxHeartbeats 1000000 in
theorem first_any (l : List (List UInt8)) (A : Option Addr) (c : Nat) (w : World) (hr : RowV w A (labV l)) (hl : l.length ≤ 9223372036854775807) (hsz : ∀ s ∈ l, s.length ≤ 70368744177664) :
    Calls Tryz.prog 110 #[.slice A l.length c, .func (.func 111) #[] #[]] w fun e w' => e = .returned (.int .i64 (firstL l)) ∧ Below w.heap.size w w' := by
  have HR := Lib.hid hr
  have HSZ := Lib.hid hsz
  clear hr hsz
  go_enter Tryz.func110, Tryz.ntmps110
  go_wp2_with fail
  go_loopw [10] (fun i wr => ∃ k : Nat, k ≤ l.length ∧ i = .int .i64 k ∧ Hid (∀ j, j < k → (hj : j < l.length) → labelE l[j] = 0) ∧ Below w.heap.size w wr) (fun i _ => l.length - (intOf i).toNat)
  case atStart => exact ⟨0, Nat.zero_le _, rfl, Lib.hid (by intro j hj; omega), Below.refl _ _⟩
  case round =>
    obtain ⟨k, hk, rfl, HO, hbw⟩ := hrel
    by_cases hlt : k < l.length
    · obtain ⟨b, off, rfl, hc⟩ := labV_at (HR.out.below hbw) hlt
      have hlab := fun W => label_lab (W := W) (HSZ.out l[k] (List.getElem_mem _))
      obtain ⟨le, hle⟩ : ∃ le, le = labelE l[k] := ⟨_, rfl⟩
      simp only [← hle] at hlab
      obtain ⟨sk, hsk⟩ : ∃ s, s = ByteArray.mk l[k].toArray := ⟨_, rfl⟩
      rw [← hsk] at hc
      simp only [← hsk] at hlab
      have HLAB := Lib.hid hlab
      by_cases h0 : le = 0
      · have HO2 : Hid (∀ j, j < k + 1 → (hj : j < l.length) → labelE l[j] = 0) := Lib.hid (by
          intro j hj hj1
          rcases Nat.lt_or_ge j k with h | h
          · exact HO.out j h hj1
          · have : j = k := by omega
            subst this
            exact hle ▸ h0)
        subst h0
        clear hlab hle hsk
        go_wp2_with fail
        refine (HLAB.out _).mono ?_
        rintro e w2 ⟨rfl, hb2⟩
        go_wp2_with fail
        go_roundw
        case rel => exact ⟨k + 1, by omega, by go_num, HO2, below_chain hbw hb2⟩
        case measure => simp [intOf]; omega
      · have t1 : (le != 0) = true := by rwa [bne_iff_ne]
        have h20 : le = 20 := by
          rcases labelE_two l[k] with h | h
          · exact absurd (hle.trans h) h0
          · exact hle.trans h
        have HF : Hid (firstL l = le) := Lib.hid (by rw [h20]; exact firstL_bad hlt (hle ▸ h0))
        clear hlab hle hsk h20 h0
        go_wp2_with fail
        refine (HLAB.out _).mono ?_
        rintro e w2 ⟨rfl, hb2⟩
        go_wp2_with fail
        go_ret
        exact ⟨ret_int HF.out.symm, below_chain hbw hb2⟩
    · have HF := Lib.hid (firstL_ok fun j hj => HO.out j (by omega) hj)
      go_wp2_with fail
      go_ret
      exact ⟨ret_int HF.out.symm, hbw⟩

set_option maxHeartbeats 1000000 in
theorem check_any (l : List (List UInt8)) (A : Option Addr) (c : Nat) (w : World) (hr : RowV w A (labV l)) (hl : wireL l < 1099511627776) (hsz : ∀ s ∈ l, s.length ≤ 70368744177664) :
    Calls Tryz.prog 58 #[.slice A l.length c] w fun e w' => e = .returned (.int .i64 (checkL l)) ∧ Below w.heap.size w w' := by
  have hlen := wireL_len l
  have hf := first_any l A c w hr (by omega) hsz
  have hck : checkL l = if firstL l = 0 then (if 255 < wireL l then 21 else 0) else 20 := by
    unfold checkL firstL
    split <;> simp
  have h2 : firstL l = 0 ∨ firstL l = 20 := by
    unfold firstL
    split
    · exact .inl rfl
    · exact .inr rfl
  have hw := fun W (hb : Below w.heap.size w W) => wire_any l A c W (hr.below hb) hl
  obtain ⟨fl, hfl⟩ : ∃ f, f = firstL l := ⟨_, rfl⟩
  obtain ⟨WL, hWL⟩ : ∃ f, f = wireL l := ⟨_, rfl⟩
  rw [← hfl] at hf h2
  rw [← hfl, ← hWL] at hck
  simp only [← hWL] at hw
  have HF := Lib.hid hf
  have HW := Lib.hid hw
  have HCK := Lib.hid hck
  clear hf hw hck hfl hWL hr hlen
  rcases h2 with rfl | rfl
  · by_cases h3 : 255 < WL
    all_goals
      go_enter Tryz.func58, Tryz.ntmps58
      go_wp2_with fail
      refine HF.out.mono ?_
      rintro e w2 ⟨rfl, hb2⟩
      go_wp2_with fail
      refine (HW.out _ hb2).mono ?_
      rintro e w3 ⟨rfl, rfl⟩
      go_wp2_with fail
      go_ret
      refine ⟨ret_int ?_, hb2⟩
      rw [HCK.out]
      simp [h3]
  · go_enter Tryz.func58, Tryz.ntmps58
    go_wp2_with fail
    refine HF.out.mono ?_
    rintro e w2 ⟨rfl, hb2⟩
    go_wp2_with fail
    go_ret
    refine ⟨ret_int ?_, hb2⟩
    rw [HCK.out]
    simp

end Go.Proofs.YtimdedkejadnfaaGreatDoor
namespace Go.Proofs.YtimdedkejadnfaaGreatDoor
open Go.Shelf
def splRen : Go.Shelf.Ren := ⟨fun | 138 => 166 | 143 => 167 | 146 => 55 | 195 => 215 | 197 => 216 | 217 => 244 | 218 => 217 | 219 => 218 | 221 => 104 | 224 => 246 | 225 => 245 | 260 => 243 | 266 => 255 | 267 => 247 | 268 => 165 | 314 => 256 | n => n, fun | 0 => 0 | 3 => 3 | 4 => 4 | 5 => 5 | 9 => 9 | 21 => 21 | 31 => 67 | 46 => 268 | 51 => 131 | 105 => 310 | 119 => 341 | 138 => 343 | 139 => 344 | 146 => 345 | n => n, fun | 1 => 1 | 3 => 2 | 4 => 3 | n => n⟩
theorem splLays : Go.Proofs.Lays.n146 Tryz.prog splRen := {
  mixed := by kernel_rfl
  f138 := Tryz.func166.trans (congrArg some (by kernel_rfl))
  f143 := Tryz.func167.trans (congrArg some (by kernel_rfl))
  f146 := Tryz.func55.trans (congrArg some (by kernel_rfl))
  f195 := Tryz.func215.trans (congrArg some (by kernel_rfl))
  f197 := Tryz.func216.trans (congrArg some (by kernel_rfl))
  f217 := Tryz.func244.trans (congrArg some (by kernel_rfl))
  f218 := Tryz.func217.trans (congrArg some (by kernel_rfl))
  f219 := Tryz.func218.trans (congrArg some (by kernel_rfl))
  f221 := Tryz.func104.trans (congrArg some (by kernel_rfl))
  f224 := Tryz.func246.trans (congrArg some (by kernel_rfl))
  f225 := Tryz.func245.trans (congrArg some (by kernel_rfl))
  f260 := Tryz.func243.trans (congrArg some (by kernel_rfl))
  f266 := Tryz.func255.trans (congrArg some (by kernel_rfl))
  f267 := Tryz.func247.trans (congrArg some (by kernel_rfl))
  f268 := Tryz.func165.trans (congrArg some (by kernel_rfl))
  f314 := Tryz.func256.trans (congrArg some (by kernel_rfl))
  t0 := Tryz.underlying0
  a0 := Tryz.isAgg0
  z0 := Tryz.sizeOf0
  v0 := Tryz.zeroValue0
  t3 := Tryz.underlying3
  a3 := Tryz.isAgg3
  z3 := Tryz.sizeOf3
  v3 := Tryz.zeroValue3
  t4 := Tryz.underlying4
  a4 := Tryz.isAgg4
  z4 := Tryz.sizeOf4
  v4 := Tryz.zeroValue4
  t5 := Tryz.underlying5
  a5 := Tryz.isAgg5
  z5 := Tryz.sizeOf5
  v5 := Tryz.zeroValue5
  t9 := Tryz.underlying9
  a9 := Tryz.isAgg9
  z9 := Tryz.sizeOf9
  v9 := Tryz.zeroValue9
  t21 := Tryz.underlying21
  a21 := Tryz.isAgg21
  z21 := Tryz.sizeOf21
  v21 := Tryz.zeroValue21
  t31 := Tryz.underlying67
  a31 := Tryz.isAgg67
  z31 := Tryz.sizeOf67
  v31 := Tryz.zeroValue67
  t46 := Tryz.underlying268
  a46 := Tryz.isAgg268
  z46 := Tryz.sizeOf268
  v46 := Tryz.zeroValue268
  t51 := Tryz.underlying131
  a51 := Tryz.isAgg131
  z51 := Tryz.sizeOf131
  v51 := Tryz.zeroValue131
  t105 := Tryz.underlying310
  a105 := Tryz.isAgg310
  z105 := Tryz.sizeOf310
  v105 := Tryz.zeroValue310
  t119 := Tryz.underlying341
  a119 := Tryz.isAgg341
  z119 := Tryz.sizeOf341
  t138 := Tryz.underlying343
  a138 := Tryz.isAgg343
  z138 := Tryz.sizeOf343
  v138 := Tryz.zeroValue343
  t139 := Tryz.underlying344
  a139 := Tryz.isAgg344
  z139 := Tryz.sizeOf344
  v139 := Tryz.zeroValue344
  t146 := Tryz.underlying345
  a146 := Tryz.isAgg345
  z146 := Tryz.sizeOf345
  v146 := Tryz.zeroValue345
  g1 := by kernel_rfl
  g3 := by kernel_rfl
  g4 := by kernel_rfl }
def triRen : Go.Shelf.Ren := ⟨fun | 102 => 57 | 207 => 170 | 209 => 109 | n => n, fun | 3 => 3 | 4 => 4 | 9 => 9 | n => n, fun  | n => n⟩
theorem triLays : Go.Proofs.Lays.n102 Tryz.prog triRen := {
  mixed := by kernel_rfl
  f102 := Tryz.func57.trans (congrArg some (by kernel_rfl))
  f207 := Tryz.func170.trans (congrArg some (by kernel_rfl))
  f209 := Tryz.func109.trans (congrArg some (by kernel_rfl))
  t3 := Tryz.underlying3
  a3 := Tryz.isAgg3
  z3 := Tryz.sizeOf3
  v3 := Tryz.zeroValue3
  t4 := Tryz.underlying4
  a4 := Tryz.isAgg4
  z4 := Tryz.sizeOf4
  v4 := Tryz.zeroValue4
  t9 := Tryz.underlying9
  a9 := Tryz.isAgg9
  z9 := Tryz.sizeOf9
  v9 := Tryz.zeroValue9 }
open Go.RowKit in
theorem split_any (s sep : ByteArray) (m : Int) (w : World) (hs : s.size < 4294967281) (hm : w.cell? ⟨1, 0, none⟩ = some (.int .i64 m)) (h1 : 1 ≤ sep.size) :
    Calls Tryz.prog 55 #[.string s, .string sep] w fun e w' =>
      e = .returned (.slice (some ⟨w.heap.size, 0, none⟩) (Lib.countB s sep + 1) (Lib.countB s sep + 1)) ∧ w' = w.alloc (.cells ((Lib.splitB sep 0 (Lib.countB s sep) s).map Value.string).toArray 9) :=
  Any.strings_Split splLays (by kernel_rfl) s sep m w hs hm h1
open Go.RowKit in
theorem trim_any (s suffix : ByteArray) (w : World) (hs : s.size ≤ 9223372036854775807) :
    Calls Tryz.prog 57 #[.string s, .string suffix] w fun e w' => e = .returned (.string ⟨(Lib.trimSuffix s.data.toList suffix.data.toList).toArray⟩) ∧ w' = w :=
  Any.strings_TrimSuffix triLays s suffix w hs
end Go.Proofs.YtimdedkejadnfaaGreatDoor
namespace Go.Proofs.YtimdedkejadnfaaGreatDoor
open Go.Shelf
def joiRen : Go.Shelf.Ren := ⟨fun | 156 => 115 | 165 => 105 | 166 => 174 | 169 => 108 | 240 => 168 | 241 => 169 | 276 => 219 | 277 => 220 | n => n, fun | 0 => 0 | 3 => 3 | 4 => 4 | 5 => 5 | 9 => 9 | 20 => 20 | 31 => 67 | 37 => 31 | 70 => 218 | 72 => 220 | 75 => 222 | 76 => 276 | 80 => 225 | 127 => 271 | 164 => 313 | n => n, fun  | n => n⟩
theorem joiLays : Go.Proofs.Lays.n156 Tryz.prog joiRen := {
  mixed := by kernel_rfl
  f156 := Tryz.func115.trans (congrArg some (by kernel_rfl))
  f165 := Tryz.func105.trans (congrArg some (by kernel_rfl))
  f166 := Tryz.func174.trans (congrArg some (by kernel_rfl))
  f169 := Tryz.func108.trans (congrArg some (by kernel_rfl))
  f240 := Tryz.func168.trans (congrArg some (by kernel_rfl))
  f241 := Tryz.func169.trans (congrArg some (by kernel_rfl))
  f276 := Tryz.func219.trans (congrArg some (by kernel_rfl))
  f277 := Tryz.func220.trans (congrArg some (by kernel_rfl))
  t0 := Tryz.underlying0
  a0 := Tryz.isAgg0
  z0 := Tryz.sizeOf0
  v0 := Tryz.zeroValue0
  t3 := Tryz.underlying3
  a3 := Tryz.isAgg3
  z3 := Tryz.sizeOf3
  v3 := Tryz.zeroValue3
  t4 := Tryz.underlying4
  a4 := Tryz.isAgg4
  z4 := Tryz.sizeOf4
  v4 := Tryz.zeroValue4
  t9 := Tryz.underlying9
  a9 := Tryz.isAgg9
  z9 := Tryz.sizeOf9
  v9 := Tryz.zeroValue9
  t20 := Tryz.underlying20
  a20 := Tryz.isAgg20
  z20 := Tryz.sizeOf20
  v20 := Tryz.zeroValue20
  t31 := Tryz.underlying67
  a31 := Tryz.isAgg67
  z31 := Tryz.sizeOf67
  v31 := Tryz.zeroValue67
  t37 := Tryz.underlying31
  a37 := Tryz.isAgg31
  z37 := Tryz.sizeOf31
  v37 := Tryz.zeroValue31
  t70 := Tryz.underlying218
  a70 := Tryz.isAgg218
  z70 := Tryz.sizeOf218
  v70 := Tryz.zeroValue218
  t72 := Tryz.underlying220
  a72 := Tryz.isAgg220
  z72 := Tryz.sizeOf220
  v72 := Tryz.zeroValue220
  t75 := Tryz.underlying222
  a75 := Tryz.isAgg222
  z75 := Tryz.sizeOf222
  v75 := Tryz.zeroValue222
  t76 := Tryz.underlying276
  a76 := Tryz.isAgg276
  z76 := Tryz.sizeOf276
  v76 := Tryz.zeroValue276
  t127 := Tryz.underlying271
  a127 := Tryz.isAgg271
  z127 := Tryz.sizeOf271
  v127 := Tryz.zeroValue271
  t164 := Tryz.underlying313
  a164 := Tryz.isAgg313
  z164 := Tryz.sizeOf313
  v164 := Tryz.zeroValue313 }
theorem joiExtra : Builder.Extra Tryz.prog joiRen := {
  sizeBuilder := by kernel_rfl
  liesBuilder := by kernel_rfl
  t5 := Tryz.underlying5
  a5 := Tryz.isAgg5
  z5 := Tryz.sizeOf5
  v5 := Tryz.zeroValue5
  infoByte := by kernel_rfl
  cellsByte := by kernel_rfl
  sizeByte := by kernel_rfl
  neB5 := by decide }
open Go.RowKit in
theorem join_any (bk o c : Nat) (xs : List ByteArray) (sep : ByteArray) (w : World) (hcells : ∀ (j : Nat) x, xs[j]? = some x → w.cell? ⟨bk, o + j, none⟩ = some (.string x)) (hbk : bk < w.heap.size) (hN : xs.length ≤ 140737488355328) (hcap : xs.length ≤ c)
    (hlen : (Lib.join (xs.map (·.data.toList)) sep.data.toList).length ≤ 140737488355328) :
    Calls Tryz.prog 115 #[.slice (some ⟨bk, o, none⟩) xs.length c, .string sep] w fun e w' => e = .returned (.string ⟨(Lib.join (xs.map (·.data.toList)) sep.data.toList).toArray⟩) ∧ Below w.heap.size w w' :=
  Any.strings_Join joiLays joiExtra bk o c xs sep w hcells hbk hN hcap hlen
open Go.RowKit in
theorem join_none (sep : ByteArray) (w : World) : Calls Tryz.prog 115 #[.slice none 0 0, .string sep] w fun e w' => e = .returned (.string ByteArray.empty) ∧ w' = w :=
  Any.strings_Join_none joiLays joiExtra none 0 sep w
end Go.Proofs.YtimdedkejadnfaaGreatDoor
namespace Go.Wirep
open Go.Foldp
theorem splitL_wire : ∀ s : List UInt8, wireL (splitL s) = s.length + 2
  | [] => rfl
  | c :: r => by
    obtain ⟨x, xs, e⟩ := splitL_some r
    have ih := splitL_wire r
    by_cases h : c = 46
    · subst h
      rw [splitL_dot]
      simp only [wireL, List.length_nil, List.length_cons]
      omega
    · rw [splitL_cons h e]
      rw [e] at ih
      simp only [wireL, List.length_cons] at ih ⊢
      omega
theorem wireL_mem : ∀ {l : List (List UInt8)} {s : List UInt8}, s ∈ l → s.length < wireL l
  | x :: r, s, h => by
    rcases List.mem_cons.1 h with rfl | h
    · simp only [wireL]
      omega
    · have := wireL_mem h
      simp only [wireL]
      omega
theorem joinTail_len : ∀ r : List (List UInt8), (Lib.joinTail [46] r).length + 1 ≤ wireL r
  | [] => by simp [Lib.joinTail, wireL]
  | s :: r => by
    have := joinTail_len r
    rw [tail_cons]
    simp only [wireL, List.length_append, List.length_cons, List.length_nil]
    omega
theorem join_len : ∀ l : List (List UInt8), (Lib.join l [46]).length ≤ wireL l
  | [] => by simp [Lib.join_nil]
  | s :: r => by
    have := joinTail_len r
    rw [Lib.join_cons]
    simp only [wireL, List.length_append]
    omega
end Go.Wirep
namespace Go.Proofs.YtimdedkejadnfaaGreatDoor
open Go.RowKit Go.Foldp Go.Colm Go.Wirep
set_option linter.unusedVariables false

/-- internal/bytealg.MaxLen holds some number. -/
def MaxL (w : World) : Prop := ∃ m : Int, w.cell? ⟨1, 0, none⟩ = some (.int .i64 m)
theorem MaxL.below {w w' : World} (h : MaxL w) (hb : Below w.heap.size w w') : MaxL w' := by
  obtain ⟨m, hm⟩ := h
  exact ⟨m, (hb.cell (lt_of_cell hm)).trans hm⟩

set_option maxRecDepth 100000 in
set_option maxHeartbeats 1000000 in
theorem rcheck_any (l : List (List UInt8)) (A : Option Addr) (c : Nat) (w : World) (hr : RowV w A (labV l)) (hl : wireL l < 1099511627776) :
    Calls Tryz.prog 132 #[.slice A l.length c] w fun e w' => e = .returned (.int .i64 (checkL l)) ∧ w' = w := by
  have HR := Lib.hid hr
  have hlen := wireL_len l
  have HW := Lib.hid (rwire_any l A c w hr hl)
  have hck : checkL l = if firstL l = 0 then (if 255 < wireL l then 21 else 0) else 20 := by
    unfold checkL firstL
    split <;> simp
  have HLB : Hid (∀ k, (hk : k < l.length) → ∀ W, Calls Tryz.prog 139 #[.string ⟨l[k].toArray⟩] W fun e w' => e = .returned (.int .i64 (labelE l[k])) ∧ W = w') := Lib.hid fun k hk W => by
    have h1 := wireL_mem (List.getElem_mem hk)
    have := rlabel_any ⟨l[k].toArray⟩ W (by rw [str_size]; omega)
    simpa using this
  have HCK := Lib.hid hck
  clear hr hck
  go_enter Tryz.func132, Tryz.ntmps132
  go_wp2_with fail
  go_loop [3] (fun i => ∃ k : Nat, k ≤ l.length ∧ i = .int .i64 k ∧ Hid (∀ j, j < k → (hj : j < l.length) → labelE l[j] = 0)) (fun i => l.length - (intOf i).toNat)
  case atStart => exact ⟨0, Nat.zero_le _, rfl, Lib.hid (by intro j hj; omega)⟩
  case round =>
    obtain ⟨k, hk, rfl, HO⟩ := hrel
    by_cases hlt : k < l.length
    · obtain ⟨b, off, rfl, hc⟩ := labV_at HR.out hlt
      have hlab := HLB.out k hlt
      obtain ⟨le, hle⟩ : ∃ le, le = labelE l[k] := ⟨_, rfl⟩
      simp only [← hle] at hlab
      obtain ⟨sk, hsk⟩ : ∃ s, s = ByteArray.mk l[k].toArray := ⟨_, rfl⟩
      rw [← hsk] at hc
      simp only [← hsk] at hlab
      have HLAB := Lib.hid hlab
      by_cases h0 : le = 0
      · have HO2 : Hid (∀ j, j < k + 1 → (hj : j < l.length) → labelE l[j] = 0) := Lib.hid (by
          intro j hj hj1
          rcases Nat.lt_or_ge j k with h | h
          · exact HO.out j h hj1
          · have : j = k := by omega
            subst this
            exact hle ▸ h0)
        subst h0
        clear hlab hle hsk
        go_wp2_with fail
        refine (HLAB.out _).mono ?_
        rintro e w2 ⟨rfl, rfl⟩
        go_wp2_with fail
        go_round
        case rel => exact ⟨k + 1, by omega, by go_num, HO2⟩
        case measure => simp [intOf]; omega
      · have t1 : (le != 0) = true := by rwa [bne_iff_ne]
        have HF : Hid (checkL l = 20) := Lib.hid (by rw [HCK.out, firstL_bad hlt (hle ▸ h0)]; rfl)
        clear hlab hle hsk h0
        go_wp2_with fail
        refine (HLAB.out _).mono ?_
        rintro e w2 ⟨rfl, rfl⟩
        go_wp2_with fail
        go_ret
        exact ⟨ret_int HF.out.symm, rfl⟩
    · have HF : Hid (firstL l = 0) := Lib.hid (firstL_ok fun j hj => HO.out j (by omega) hj)
      obtain ⟨WL, hWL⟩ : ∃ f, f = wireL l := ⟨_, rfl⟩
      have HCW : Hid (checkL l = if 255 < WL then 21 else 0) := Lib.hid (by rw [HCK.out, HF.out, hWL]; rfl)
      rw [← hWL] at HW
      clear hWL hlen
      by_cases h3 : 255 < WL
      all_goals
        go_wp2_with fail
        refine HW.out.mono ?_
        rintro e w3 ⟨rfl, rfl⟩
        go_wp2_with fail
        go_ret
        refine ⟨ret_int ?_, rfl⟩
        rw [HCW.out]
        simp [h3]

/-- What comes of parsing. -/
def ParseIt (w : World) (g : List (List UInt8) × Int) (e : Ending) (w' : World) : Prop :=
  ∃ A c, e = .returned (.tuple #[.slice A g.1.length c, .int .i64 g.2]) ∧ RowV w' A (labV g.1) ∧ g.1.length ≤ c ∧ Below w.heap.size w w' ∧ ∀ a, A = some a → w.heap.size ≤ a.block
theorem ParseIt.err {w w' : World} {g : List (List UInt8) × Int} {x : Int} (h : g = ([], x)) (hb : Below w.heap.size w w') : ParseIt w g (.returned (.tuple #[.slice none 0 0, .int .i64 x])) w' := by
  subst h
  exact ⟨none, 0, rfl, RowV.nil _ _, Nat.le_refl _, hb, fun a h => by cases h⟩
theorem bytes_eq (b : ByteArray) : (⟨b.data.toList.toArray⟩ : ByteArray) = b := by
  obtain ⟨a⟩ := b
  simp
theorem split_parts (t : List UInt8) (W : World) (hm : MaxL W) (ht : t.length < 4294967281) :
    Calls Tryz.prog 55 #[.string ⟨t.toArray⟩, .string ⟨#[46]⟩] W fun e w' => ∃ A c, e = .returned (.slice A (splitL t).length c) ∧ RowV w' A (labV (splitL t)) ∧ (splitL t).length ≤ c ∧ Below W.heap.size W w' ∧ ∀ a, A = some a → W.heap.size ≤ a.block := by
  obtain ⟨m, hm⟩ := hm
  refine (split_any ⟨t.toArray⟩ ⟨#[46]⟩ m W (by rw [str_size]; omega) hm (by decide)).mono ?_
  rintro e w' ⟨rfl, rfl⟩
  have hd := Lib.splitB_data ⟨#[46]⟩ 0 (Lib.countB ⟨t.toArray⟩ ⟨#[46]⟩) ⟨t.toArray⟩
  have hcb : Lib.countB ⟨t.toArray⟩ ⟨#[46]⟩ = Lib.count t [46] := by simp [Lib.countB]
  have hs : Lib.splitK ([46] : List UInt8) 0 (Lib.count t [46]) t = splitL t := lib_split t
  have hd2 : (Lib.splitB ⟨#[46]⟩ 0 (Lib.countB ⟨t.toArray⟩ ⟨#[46]⟩) ⟨t.toArray⟩).map (·.data.toList) = splitL t := by
    rw [hd, hcb]
    exact hs
  have hlen := Lib.splitB_all ⟨#[46]⟩ (by decide) 0 _ ⟨t.toArray⟩ rfl
  have hl2 : (splitL t).length = Lib.countB ⟨t.toArray⟩ ⟨#[46]⟩ + 1 := by rw [← hd2, List.length_map, hlen]
  refine ⟨_, _, by rw [hl2], ?_, by omega, (Below.refl _ _).alloc (Nat.le_refl _) _, fun a h => by cases h; exact Nat.le_refl _⟩
  have hrow := RowV.new W 9 ((Lib.splitB ⟨#[46]⟩ 0 (Lib.countB ⟨t.toArray⟩ ⟨#[46]⟩) ⟨t.toArray⟩).map Value.string).toArray
  have he : labV (splitL t) = ((Lib.splitB ⟨#[46]⟩ 0 (Lib.countB ⟨t.toArray⟩ ⟨#[46]⟩) ⟨t.toArray⟩).map Value.string).toArray.toList := by
    rw [← hd2, labV, List.map_map]
    simp
  rw [he]
  exact hrow

set_option maxRecDepth 100000 in
set_option maxHeartbeats 2000000 in
theorem parse_any (l : List UInt8) (w : World) (hm : MaxL w) (hl : l.length ≤ 100000) :
    Calls Tryz.prog 19 #[.string ⟨l.toArray⟩] w (ParseIt w (parseL l)) := by
  have hsz := str_size l
  have htr := fun W => trim_any ⟨l.toArray⟩ ⟨#[46]⟩ W (by omega)
  have hlt := trimDot_le l
  have hll := lowL_length (trimDot l)
  have hlo := fun W => lower_any ⟨(trimDot l).toArray⟩ W (by rw [str_size]; omega)
  have hsp := fun W hm => split_parts (lowL (trimDot l)) W hm (by omega)
  have hw := splitL_wire (lowL (trimDot l))
  have heq : ((ByteArray.mk l.toArray).toList == [46]) = decide (l = [46]) := by
    rw [ByteArray.toList_mk, Bool.eq_iff_iff]
    simp
  have htr2 : ∀ W, Calls Tryz.prog 57 #[.string ⟨l.toArray⟩, .string ⟨#[46]⟩] W fun e w' => e = .returned (.string ⟨(trimDot l).toArray⟩) ∧ w' = W := fun W => by simpa [trimDot] using htr W
  have hlo2 : ∀ W, Calls Tryz.prog 56 #[.string ⟨(trimDot l).toArray⟩] W fun e w' => e = .returned (.string ⟨(lowL (trimDot l)).toArray⟩) ∧ Below W.heap.size W w' := fun W => by simpa using hlo W
  have hpl : parseL l = if l = [46] then ([], 0) else if checkL (splitL (lowL (trimDot l))) = 0 then (splitL (lowL (trimDot l)), 0) else ([], checkL (splitL (lowL (trimDot l)))) := rfl
  obtain ⟨ps, hps⟩ : ∃ ps, ps = splitL (lowL (trimDot l)) := ⟨_, rfl⟩
  simp only [← hps] at hsp hw hpl
  have hck : ∀ A c W, RowV W A (labV ps) → Calls Tryz.prog 58 #[.slice A ps.length c] W fun e w' => e = .returned (.int .i64 (checkL ps)) ∧ Below W.heap.size W w' := fun A c W hr => check_any ps A c W hr (by omega) (fun s hs => by have := wireL_mem hs; omega)
  obtain ⟨ce, hce⟩ : ∃ ce, ce = checkL ps := ⟨_, rfl⟩
  simp only [← hce] at hck hpl
  obtain ⟨sv, hsv⟩ : ∃ sv, sv = ByteArray.mk l.toArray := ⟨_, rfl⟩
  obtain ⟨tv, htv⟩ : ∃ tv, tv = ByteArray.mk (trimDot l).toArray := ⟨_, rfl⟩
  obtain ⟨lv, hlv⟩ : ∃ lv, lv = ByteArray.mk (lowL (trimDot l)).toArray := ⟨_, rfl⟩
  simp only [← hsv] at htr2 heq
  simp only [← htv] at htr2 hlo2
  simp only [← hlv] at hlo2 hsp
  rw [← hsv]
  have HTR := Lib.hid htr2
  have HLO := Lib.hid hlo2
  have HSP := Lib.hid hsp
  have HCK := Lib.hid hck
  have HPL := Lib.hid hpl
  have HM := Lib.hid hm
  clear htr htr2 hlo hlo2 hsp hck hpl hm hsv htv hlv hps hce hw hlt hll hsz
  by_cases h46 : l = [46]
  · have t1 : (sv.toList == [46]) = true := by rw [heq, decide_eq_true h46]
    have HF := Lib.hid (ParseIt.err (g := parseL l) (w := w) (by rw [HPL.out, if_pos h46]) (Below.refl _ w))
    clear heq h46
    go_enter Tryz.func19, Tryz.ntmps19
    go_wp2_with fail
    go_ret2
    exact HF.out
  · have t1 : (sv.toList == [46]) = false := by rw [heq, decide_eq_false h46]
    have HPL2 : Hid (parseL l = if ce = 0 then (ps, 0) else ([], ce)) := Lib.hid (by rw [HPL.out, if_neg h46])
    clear heq h46 HPL
    go_enter Tryz.func19, Tryz.ntmps19
    go_wp2_with fail
    refine (HTR.out _).mono ?_
    rintro e w1 ⟨rfl, hw1⟩
    rw [hw1]
    clear hw1 w1
    go_wp2_with fail
    refine (HLO.out _).mono ?_
    rintro e w2 ⟨rfl, hb2⟩
    have HB2 := Lib.hid hb2
    clear hb2
    go_wp2_with fail
    refine (HSP.out _ (HM.out.below HB2.out)).mono ?_
    rintro e w3 ⟨A3, c3, rfl, hr3, hc3, hb3, hA3⟩
    have HA3 : Hid (∀ a, A3 = some a → w.heap.size ≤ a.block) := Lib.hid fun a h => Nat.le_trans HB2.out.size (hA3 a h)
    clear hA3
    have HR3 := Lib.hid hr3
    have HB3 := Lib.hid (below_chain HB2.out hb3)
    clear hr3 hb3
    go_wp2_with fail
    refine (HCK.out _ _ _ HR3.out).mono ?_
    rintro e w4 ⟨rfl, hb4⟩
    have HR4 := Lib.hid (HR3.out.below hb4)
    have HB4 := Lib.hid (below_chain HB3.out hb4)
    clear hb4
    by_cases h0 : ce = 0
    · have HF : Hid (ParseIt w (parseL l) (.returned (.tuple #[.slice A3 ps.length c3, .int .i64 0])) w4) := Lib.hid (by
        rw [HPL2.out, if_pos h0]
        exact ⟨A3, c3, rfl, HR4.out, hc3, HB4.out, HA3.out⟩)
      subst h0
      go_wp2_with fail
      go_ret2
      exact HF.out
    · have t2 : (ce != 0) = true := by rwa [bne_iff_ne]
      have HF := Lib.hid (ParseIt.err (g := parseL l) (w := w) (w' := w4) (by rw [HPL2.out, if_neg h0]) HB4.out)
      clear h0
      go_wp2_with fail
      go_ret2
      exact HF.out

/-- What comes of a text. -/
def TextIt (w : World) (g : List UInt8 × Int) (e : Ending) (w' : World) : Prop :=
  e = .returned (.tuple #[.string ⟨g.1.toArray⟩, .int .i64 g.2]) ∧ Below w.heap.size w w'
theorem TextIt.mk {w w' : World} {g : List UInt8 × Int} {x : Int} {s : List UInt8} (h : g = (s, x)) (hb : Below w.heap.size w w') : TextIt w g (.returned (.tuple #[.string ⟨s.toArray⟩, .int .i64 x])) w' := by
  subst h
  exact ⟨rfl, hb⟩

set_option maxRecDepth 100000 in
set_option maxHeartbeats 2000000 in
theorem text_any (l : List (List UInt8)) (A : Option Addr) (c : Nat) (w : World) (hr : RowV w A (labV l)) (hcap : l.length ≤ c) (hl : wireL l < 1099511627776) :
    Calls Tryz.prog 62 #[.slice A l.length c] w (TextIt w (textL l)) := by
  have hlen := wireL_len l
  have hck := check_any l A c w hr hl (fun s hs => by have := wireL_mem hs; omega)
  have htx : textL l = if checkL l = 0 then (if l = [] then ([46], 0) else (Lib.join l [46], 0)) else ([], checkL l) := rfl
  have hjl := join_len l
  have hj : l ≠ [] → ∀ W, Below w.heap.size w W → Calls Tryz.prog 115 #[.slice A l.length c, .string ⟨#[46]⟩] W fun e w' => e = .returned (.string ⟨(Lib.join l [46]).toArray⟩) ∧ Below W.heap.size W w' := fun hne W hb => by
    have h0 : 0 < l.length := List.length_pos_iff.2 hne
    have hrW := hr.below hb
    obtain ⟨bk, o, e, hc0⟩ := labV_at hrW h0
    have := join_any bk o c (l.map fun s => ⟨s.toArray⟩) ⟨#[46]⟩ W (fun j x hx => by
      obtain ⟨s, hs, rfl⟩ := List.mem_map.1 (List.mem_of_getElem? hx)
      rw [List.getElem?_map] at hx
      obtain ⟨y, hy, e2⟩ := Option.map_eq_some_iff.1 hx
      obtain ⟨hjl, rfl⟩ := List.getElem?_eq_some_iff.1 hy
      obtain ⟨b2, o2, e3, hc2⟩ := labV_at hrW hjl
      rw [e] at e3
      cases e3
      rw [hc2, e2]) (lt_of_cell hc0) (by rw [List.length_map]; omega) (by rw [List.length_map]; exact hcap) (by
      rw [List.map_map]
      have : ((fun x : ByteArray => x.data.toList) ∘ fun s : List UInt8 => (⟨s.toArray⟩ : ByteArray)) = id := by funext s; simp
      rw [this, List.map_id]
      show (Lib.join l [46]).length ≤ _
      omega)
    rw [List.length_map, List.map_map] at this
    have h2 : ((fun x : ByteArray => x.data.toList) ∘ fun s : List UInt8 => (⟨s.toArray⟩ : ByteArray)) = id := by funext s; simp
    rw [h2, List.map_id] at this
    rw [e]
    exact this
  obtain ⟨jl, hjv⟩ : ∃ jl, jl = Lib.join l [46] := ⟨_, rfl⟩
  simp only [← hjv] at hj htx
  obtain ⟨ce, hce⟩ : ∃ ce, ce = checkL l := ⟨_, rfl⟩
  simp only [← hce] at hck htx
  have HCK := Lib.hid hck
  have HTX := Lib.hid htx
  have HJ := Lib.hid hj
  clear hr hck htx hj hjl hjv hce hlen
  go_enter Tryz.func62, Tryz.ntmps62
  go_wp2_with fail
  refine HCK.out.mono ?_
  rintro e w2 ⟨rfl, hb2⟩
  have HB2 := Lib.hid hb2
  clear hb2
  by_cases h0 : ce = 0
  · by_cases hne : l = []
    · have HF := Lib.hid (TextIt.mk (g := textL l) (w := w) (w' := w2) (s := [46]) (x := 0) (by rw [HTX.out, if_pos h0, if_pos hne]) HB2.out)
      subst h0
      subst hne
      go_wp2_with fail
      go_ret2
      exact HF.out
    · have hlp : 0 < l.length := List.length_pos_iff.2 hne
      have HF := Lib.hid (fun (w' : World) (hb : Below w.heap.size w w') => TextIt.mk (g := textL l) (w := w) (w' := w') (s := jl) (x := 0) (by rw [HTX.out, if_pos h0, if_neg hne]) hb)
      have HJ2 := Lib.hid (HJ.out hne w2 HB2.out)
      subst h0
      clear hne
      go_wp2_with fail
      refine HJ2.out.mono ?_
      rintro e w3 ⟨rfl, hb3⟩
      go_wp2_with fail
      go_ret2
      exact HF.out _ (below_chain HB2.out hb3)
  · have t2 : (ce != 0) = true := by rwa [bne_iff_ne]
    have HF := Lib.hid (TextIt.mk (g := textL l) (w := w) (w' := w2) (s := []) (x := ce) (by rw [HTX.out, if_neg h0]) HB2.out)
    clear h0
    go_wp2_with fail
    go_ret2
    exact HF.out
end Go.Proofs.YtimdedkejadnfaaGreatDoor
