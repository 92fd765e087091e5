/-
  Texts cut at a byte, in plain Lean; and strings.Split of them. Fewer than 4294967281 bytes.
-/
import Derived.Test.YtifmgmiaeoiidaaGreatDoorScrM
import Derived.Test.YtifmgmiaeoiidaaGreatDoorSpt
import Derived.Lib.SplitLaws
import Derived.Lib.Strings
namespace Go.Scrp
theorem tail_nil (sep : List UInt8) : Lib.joinTail sep [] = [] := rfl
theorem tail_cons (sep x : List UInt8) (r : List (List UInt8)) : Lib.joinTail sep (x :: r) = sep ++ x ++ Lib.joinTail sep r := by simp [Lib.joinTail]
/-- A text, cut at a byte. -/
def sepL (d : UInt8) : List UInt8 → List (List UInt8)
  | [] => [[]]
  | c :: r => if c = d then [] :: sepL d r else match sepL d r with
    | [] => [[c]]
    | x :: xs => (c :: x) :: xs
variable {d : UInt8}
theorem sep_dot (r : List UInt8) : sepL d (d :: r) = [] :: sepL d r := by rw [sepL, if_pos rfl]
theorem sep_cons {c : UInt8} (h : c ≠ d) {r x : List UInt8} {xs : List (List UInt8)} (e : sepL d r = x :: xs) : sepL d (c :: r) = (c :: x) :: xs := by rw [sepL, if_neg h, e]
theorem sep_some : ∀ s : List UInt8, ∃ x xs, sepL d s = x :: xs
  | [] => ⟨_, _, rfl⟩
  | c :: r => by
    obtain ⟨x, xs, e⟩ := sep_some r
    by_cases h : c = d
    · subst h
      exact ⟨_, _, sep_dot r⟩
    · exact ⟨_, _, sep_cons h e⟩
theorem sep_part : ∀ (a r : List UInt8), (∀ c ∈ a, c ≠ d) → sepL d (a ++ d :: r) = a :: sepL d r
  | [], r, _ => sep_dot r
  | c :: a, r, h => sep_cons (h c (List.mem_cons_self ..)) (sep_part a r fun q hq => h q (List.mem_cons_of_mem _ hq))
theorem sep_end : ∀ a : List UInt8, (∀ c ∈ a, c ≠ d) → sepL d a = [a]
  | [], _ => rfl
  | c :: a, h => sep_cons (h c (List.mem_cons_self ..)) (sep_end a fun q hq => h q (List.mem_cons_of_mem _ hq))
/-- No part has a dot. -/
theorem sep_no : ∀ (s : List UInt8), ∀ x ∈ sepL d s, ∀ c ∈ x, c ≠ d
  | [], x, hx, c, hc => by
    simp [sepL] at hx
    subst hx
    cases hc
  | q :: r, x, hx, c, hc => by
    obtain ⟨y, ys, e⟩ := sep_some (d := d) r
    have ih := sep_no r
    by_cases h : q = d
    · subst h
      rw [sep_dot] at hx
      rcases List.mem_cons.1 hx with rfl | hx
      · cases hc
      · exact ih x hx c hc
    · rw [sep_cons h e] at hx
      rcases List.mem_cons.1 hx with rfl | hx
      · rcases List.mem_cons.1 hc with rfl | hc
        · exact h
        · exact ih y (by rw [e]; exact List.mem_cons_self ..) c hc
      · exact ih x (by rw [e]; exact List.mem_cons_of_mem _ hx) c hc
theorem sep_len : ∀ (s : List UInt8), ∀ x ∈ sepL d s, x.length ≤ s.length
  | [], x, hx => by
    simp [sepL] at hx
    subst hx
    simp
  | q :: r, x, hx => by
    obtain ⟨y, ys, e⟩ := sep_some (d := d) r
    have ih := sep_len r
    by_cases h : q = d
    · subst h
      rw [sep_dot] at hx
      rcases List.mem_cons.1 hx with rfl | hx
      · simp
      · have := ih x hx
        simp
        omega
    · rw [sep_cons h e] at hx
      rcases List.mem_cons.1 hx with rfl | hx
      · have := ih y (by rw [e]; exact List.mem_cons_self ..)
        simp
        omega
      · have := ih x (by rw [e]; exact List.mem_cons_of_mem _ hx)
        simp
        omega
theorem sep_many : ∀ (s : List UInt8), (sepL d s).length ≤ s.length + 1
  | [] => by simp [sepL]
  | q :: r => by
    obtain ⟨y, ys, e⟩ := sep_some (d := d) r
    have ih := sep_many r
    by_cases h : q = d
    · subst h
      rw [sep_dot]
      simp
      omega
    · rw [sep_cons h e]
      rw [e] at ih
      simp at ih ⊢
      omega
theorem lib_sep : ∀ s : List UInt8, Lib.split s [d] = sepL d s
  | [] => by
    rw [Lib.split, Lib.count_miss (by simp [Lib.index])]
    rfl
  | c :: r => by
    have ih := lib_sep r
    unfold Lib.split at ih ⊢
    by_cases h : c = d
    · subst h
      have hix : Lib.index (c :: r) [c] = 0 := by rw [Lib.index]; simp [List.isPrefixOf]
      rw [Lib.count_cons_eq, Nat.add_comm, Lib.splitK, hix, sep_dot, ← ih]
      simp
    · rw [Lib.count_cons_ne c d r h]
      have hp : ([d] : List UInt8).isPrefixOf (c :: r) = false := by simp [List.isPrefixOf]; exact fun e => h e.symm
      have hix : Lib.index (c :: r) [d] = if Lib.index r [d] == -1 then -1 else Lib.index r [d] + 1 := by rw [Lib.index, hp]; simp
      by_cases hm : Lib.index r [d] = -1
      · rw [Lib.count_miss hm] at ih ⊢
        rw [Lib.splitK] at ih ⊢
        rw [sep_cons h ih.symm]
      · have hge := Lib.index_ge r [d]
        obtain ⟨j, hj⟩ : ∃ j : Nat, Lib.index r [d] = j := ⟨(Lib.index r [d]).toNat, by omega⟩
        rw [Lib.count_hit (by simp) hj, Nat.add_comm, Lib.splitK] at ih ⊢
        rw [hix]
        rw [hj] at ih ⊢
        have e1 : (((j : Int) == -1) = false) := by rw [beq_eq_false_iff_ne]; omega
        have e2 : (((j : Int) + 1 == -1) = false) := by rw [beq_eq_false_iff_ne]; omega
        have e3 : ((j : Int) + 1).toNat = j + 1 := by omega
        simp only [e1, e2, e3, Bool.false_eq_true, if_false, Int.toNat_natCast, List.length_cons, List.length_nil, Nat.add_zero, Nat.zero_add] at ih ⊢
        rw [sep_cons h ih.symm]
        simp
/-- What is cut is joined again. -/
theorem join_sep : ∀ s : List UInt8, Lib.join (sepL d s) [d] = s
  | [] => by simp [sepL, Lib.join_one]
  | c :: r => by
    obtain ⟨x, xs, e⟩ := sep_some (d := d) r
    have ih := join_sep r
    rw [e] at ih
    by_cases h : c = d
    · subst h
      rw [sep_dot, e, Lib.join_cons, tail_cons]
      rw [Lib.join_cons] at ih
      simp [← ih]
    · rw [sep_cons h e]
      rw [Lib.join_cons] at ih ⊢
      rw [List.cons_append, ih]
theorem sep_tail : ∀ r : List (List UInt8), (∀ s ∈ r, ∀ c ∈ s, c ≠ d) → ∀ x : List UInt8, (∀ c ∈ x, c ≠ d) → sepL d (x ++ Lib.joinTail [d] r) = x :: r
  | [], _, x, hx => by rw [tail_nil, List.append_nil, sep_end x hx]
  | y :: r, h, x, hx => by
    rw [tail_cons, List.append_assoc, List.singleton_append, sep_part x _ hx, sep_tail r (fun s hs => h s (List.mem_cons_of_mem _ hs)) y (h y (List.mem_cons_self ..))]
/-- What is joined is cut again. -/
theorem sep_join {l : List (List UInt8)} (hne : l ≠ []) (h : ∀ s ∈ l, ∀ c ∈ s, c ≠ d) : sepL d (Lib.join l [d]) = l := by
  rcases l with _ | ⟨x, r⟩
  · exact absurd rfl hne
  · rw [Lib.join_cons]
    exact sep_tail r (fun s hs => h s (List.mem_cons_of_mem _ hs)) x (h x (List.mem_cons_self ..))

end Go.Scrp
namespace Go.Proofs.YtifmgmiaeoiidaaGreatDoor
open Go.RowKit Go.Colm Go.Scrp
set_option linter.unusedVariables false

/-- internal/bytealg.MaxLen holds some number. -/
def MaxL (w : World) : Prop := ∃ m : Int, w.cell? ⟨0, 0, none⟩ = some (.int .i64 m)
theorem MaxL.below {w w' : World} (h : MaxL w) (hb : Below w.heap.size w w') : MaxL w' := by
  obtain ⟨m, hm⟩ := h
  exact ⟨m, (hb.cell (lt_of_cell hm)).trans hm⟩

theorem split_parts (d : UInt8) (t : List UInt8) (W : World) (hm : MaxL W) (ht : t.length < 4294967281) :
    Calls Tryz.prog 32 #[.string ⟨t.toArray⟩, .string ⟨#[d]⟩] W fun e w' => ∃ A c, e = .returned (.slice A (sepL d t).length c) ∧ RowV w' A (txtV (sepL d t)) ∧ (sepL d t).length ≤ c ∧ Below W.heap.size W w' := by
  obtain ⟨m, hm⟩ := hm
  refine (split_any ⟨t.toArray⟩ ⟨#[d]⟩ m W (by rw [str_size]; omega) hm (by show 1 ≤ 1; omega)).mono ?_
  rintro e w' ⟨rfl, rfl⟩
  have hd := Lib.splitB_data ⟨#[d]⟩ 0 (Lib.countB ⟨t.toArray⟩ ⟨#[d]⟩) ⟨t.toArray⟩
  have hcb : Lib.countB ⟨t.toArray⟩ ⟨#[d]⟩ = Lib.count t [d] := by simp [Lib.countB]
  have hs : Lib.splitK ([d] : List UInt8) 0 (Lib.count t [d]) t = sepL d t := lib_sep t
  have hd2 : (Lib.splitB ⟨#[d]⟩ 0 (Lib.countB ⟨t.toArray⟩ ⟨#[d]⟩) ⟨t.toArray⟩).map (·.data.toList) = sepL d t := by
    rw [hd, hcb]
    exact hs
  have hlen := Lib.splitB_all ⟨#[d]⟩ (by show 1 ≤ 1; omega) 0 _ ⟨t.toArray⟩ rfl
  have hl2 : (sepL d t).length = Lib.countB ⟨t.toArray⟩ ⟨#[d]⟩ + 1 := by rw [← hd2, List.length_map, hlen]
  refine ⟨_, _, by rw [hl2], ?_, by omega, (Below.refl _ _).alloc (Nat.le_refl _) _⟩
  have hrow := RowV.new W 9 ((Lib.splitB ⟨#[d]⟩ 0 (Lib.countB ⟨t.toArray⟩ ⟨#[d]⟩) ⟨t.toArray⟩).map Value.string).toArray
  have he : txtV (sepL d t) = ((Lib.splitB ⟨#[d]⟩ 0 (Lib.countB ⟨t.toArray⟩ ⟨#[d]⟩) ⟨t.toArray⟩).map Value.string).toArray.toList := by
    rw [← hd2, txtV, List.map_map]
    simp
  rw [he]
  exact hrow
end Go.Proofs.YtifmgmiaeoiidaaGreatDoor
