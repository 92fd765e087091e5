/-
  What layer lend's do carries through its loop: what came so far, and what memory it leaves; within of any book. No condition but sizes.
-/
import Derived.Test.YtopmcjpnfnfjiaaLendG
namespace Go.Lendp
open Go.RowKit Go.Colm

theorem StpsAt.get {N : Nat → Prop} {w : World} {A : Option Addr} : ∀ (l : List Stp) (i k : Nat) (hk : k < l.length), StpsAt N w A i l → ∃ b off, A = some ⟨b, off, none⟩ ∧ N b ∧ StpAt N w b (off + (i + k) * 3) l[k]
  | [], _, _, hk, _ => absurd hk (by simp)
  | s :: r, i, 0, _, h => (stpsAt_cons.1 h).1
  | s :: r, i, k + 1, hk, h => by
    have g := StpsAt.get r (i + 1) k (by simpa using hk) (stpsAt_cons.1 h).2
    rw [show i + (k + 1) = i + 1 + k by omega]
    simpa using g

/-- What came of the first k steps: the notes acc, p lent at most; the rest is done as it stands. -/
def Sofar (nb : Bool) (d deep : Nat) (l : List Stp) (k : Nat) (acc : List Int) (p : Nat) : Prop :=
  doL nb d deep l = (acc ++ (doL nb d deep (l.drop k)).1, max p (doL nb d deep (l.drop k)).2.1, (doL nb d deep (l.drop k)).2.2) ∧ acc.length + cntL (l.drop k) ≤ cntL l
theorem cntL_cons (s : Stp) (r : List Stp) : cntL (s :: r) = cntS s + cntL r := by rw [cntL]
theorem Sofar.start (nb : Bool) (d deep : Nat) (l : List Stp) : Sofar nb d deep l 0 [] 0 := by simp [Sofar]
theorem Sofar.on {nb : Bool} {d deep : Nat} {l : List Stp} {k : Nat} {acc : List Int} {p : Nat} (h : Sofar nb d deep l k acc p) (hd : ¬ 50 < deep) (hk : k < l.length) (e : (doS nb d deep l[k]).2.2 = none) :
    Sofar nb d deep l (k + 1) (acc ++ (doS nb d deep l[k]).1) (max p (doS nb d deep l[k]).2.1) := by
  have hl := doS_len nb d deep l[k]
  unfold Sofar at h ⊢
  rw [List.drop_eq_getElem_cons hk, doL_on hd e, cntL_cons] at h
  refine ⟨h.1.trans ?_, ?_⟩
  · simp only [List.append_assoc, Nat.max_assoc]
  · simp only [List.length_append]
    have := h.2
    omega
theorem Sofar.fail {nb : Bool} {d deep : Nat} {l : List Stp} {k : Nat} {acc : List Int} {p : Nat} {c : Int} (h : Sofar nb d deep l k acc p) (hd : ¬ 50 < deep) (hk : k < l.length) (e : (doS nb d deep l[k]).2.2 = some c) :
    doL nb d deep l = (acc ++ (doS nb d deep l[k]).1, max p (doS nb d deep l[k]).2.1, some c) := by
  unfold Sofar at h
  rw [List.drop_eq_getElem_cons hk, doL_fail hd e] at h
  exact h.1
theorem Sofar.done {nb : Bool} {d deep : Nat} {l : List Stp} {k : Nat} {acc : List Int} {p : Nat} (h : Sofar nb d deep l k acc p) (hk : l.length ≤ k) : doL nb d deep l = (acc, p, none) := by
  unfold Sofar at h
  rw [List.drop_eq_nil_of_le hk, doL] at h
  simpa using h.1
theorem cntL_get : ∀ (l : List Stp) (k : Nat) (hk : k < l.length), cntS l[k] ≤ cntL l
  | s :: r, 0, _ => by rw [cntL_cons]; simp
  | s :: r, k + 1, hk => by
    have := cntL_get r k (by simpa using hk)
    rw [cntL_cons]
    simp only [List.getElem_cons_succ]
    omega
theorem cntL_drop : ∀ (l : List Stp) (k : Nat) (hk : k < l.length), cntS l[k] + cntL (l.drop (k + 1)) ≤ cntL l
  | s :: r, 0, _ => by rw [cntL_cons]; simp
  | s :: r, k + 1, hk => by
    have := cntL_drop r k (by simpa using hk)
    rw [cntL_cons]
    simp only [List.getElem_cons_succ, List.drop_succ_cons]
    omega
theorem cntL_length : ∀ l : List Stp, l.length ≤ cntL l
  | [] => by simp
  | s :: r => by
    have := cntL_length r
    cases s
    rw [cntL_cons, cntS, List.length_cons]
    omega
theorem doS_1 {nb : Bool} {d deep : Nat} {c : Int} {l : List Stp} : doS nb d deep (.mk 1 c l) = ([if nb then 0 else (d : Int)], 0, none) := by rw [doS, if_pos rfl]
theorem doS_2 {nb : Bool} {d deep : Nat} {c : Int} {l : List Stp} : doS nb d deep (.mk 2 c l) = ((doL nb (d + 1) (deep + 1) l).1, max (d + 1) (doL nb (d + 1) (deep + 1) l).2.1, (doL nb (d + 1) (deep + 1) l).2.2) := by
  rw [doS, if_neg (by decide), if_pos rfl]
theorem doS_3 {nb : Bool} {d deep : Nat} {c : Int} {l : List Stp} : doS nb d deep (.mk 3 c l) = ([], 0, some c) := by
  rw [doS, if_neg (by decide), if_neg (by decide), if_pos rfl]
theorem doS_4 {nb : Bool} {d deep : Nat} {c : Int} {l : List Stp} : doS nb d deep (.mk 4 c l) = ((doL nb (d + 1) (deep + 1) l).1 ++ (doL nb (d + 1) (deep + 1) l).2.2.toList, max (d + 1) (doL nb (d + 1) (deep + 1) l).2.1, none) := by
  rw [doS, if_neg (by decide), if_neg (by decide), if_neg (by decide), if_pos rfl]
theorem doS_0 {nb : Bool} {d deep : Nat} {k c : Int} {l : List Stp} (h1 : k ≠ 1) (h2 : k ≠ 2) (h3 : k ≠ 3) (h4 : k ≠ 4) : doS nb d deep (.mk k c l) = ([], 0, none) := by
  rw [doS, if_neg h1, if_neg h2, if_neg h3, if_neg h4]
end Go.Lendp
namespace Go.Colm
theorem Kept.on {S S' : Nat → Prop} {w w' w'' : World} (h : Kept S w w') (k : Kept S' w' w'') (hs : ∀ k, k < w.heap.size → S' k → S k) : Kept S w w'' :=
  ⟨k.os.trans h.os, k.tape.trans h.tape, k.output.trans h.output, Nat.le_trans h.size k.size, fun i hi hn => (k.block i (Nat.lt_of_lt_of_le hi h.size) fun e => hn (hs i hi e)).trans (h.block i hi hn)⟩
end Go.Colm
namespace Go.Proofs.Ytopmcjpnfnfjiaa
open Go.RowKit Go.Colm Go.Lendp
set_option linter.unusedVariables false

theorem Book.kept {S : Nat → Prop} {w w' : World} {bp : Option Nat} {d m : Nat} (hk : Kept S w w') (h : Book bp w d m) (hs : ∀ b, bp = some b → ¬ S b) : Book bp w' d m := fun b e => hk.whole (h b e) (hs b e)
theorem Book.le {w : World} {bp : Option Nat} {d m m' : Nat} (h : Book bp w d m) (e : m = m') : Book bp w d m' := e ▸ h
theorem own_at {w : World} {base : Nat} {e : TypeId} {size : Nat} {v : Value} {n : Nat} {xs : List Value} (h : w.ownsRow base e size v n xs) {k : Nat} (hk : v.ownBlock = some k) : k < w.heap.size := by
  rcases h.2 with ⟨rfl, _⟩ | ⟨g, cap, cur, rfl, hb, hg, _⟩
  · simp [Value.ownBlock] at hk
  · have e1 : g = k := by simpa [Value.ownBlock] using hk
    subst e1
    exact Whole.lt (t := e) (cs := cur) hg

/-- What do's loop holds: what came so far, and that all but the teller, its notes and its book is as it was. -/
def Carry (tb B : Nat) (bp : Option Nat) (v : Value) (ns : List Int) (d m : Nat) (w : World) (acc : List Int) (p : Nat) (w' : World) : Prop :=
  ∃ v', Teller tb B bp v' (ns ++ acc) w' ∧ Book bp w' d (max m p) ∧ Kept (doS_ tb bp v) w w' ∧ (v'.ownBlock = v.ownBlock ∨ ∃ k, w.heap.size ≤ k ∧ v'.ownBlock = some k)
theorem Carry.start {tb B : Nat} {bp : Option Nat} {v : Value} {ns : List Int} {d m : Nat} {w : World} (ht : Teller tb B bp v ns w) (hb : Book bp w d m) : Carry tb B bp v ns d m w [] 0 w :=
  ⟨v, by simpa using ht, hb.le (by omega), Kept.refl _ _, .inl rfl⟩
/-- Something more is done, with the notes' row as it is by then. -/
theorem Carry.more {tb B : Nat} {bp : Option Nat} {v v1 : Value} {ns : List Int} {d m : Nat} {w w1 w2 : World} {acc acc2 : List Int} {p p2 : Nat}
    (k1 : Kept (doS_ tb bp v) w w1) (o1 : v1.ownBlock = v.ownBlock ∨ ∃ k, w.heap.size ≤ k ∧ v1.ownBlock = some k) (h : Carry tb B bp v1 (ns ++ acc) d (max m p) w1 acc2 p2 w2) : Carry tb B bp v ns d m w (acc ++ acc2) (max p p2) w2 := by
  obtain ⟨v2, t2, b2, k2, o2⟩ := h
  refine ⟨v2, by rwa [← List.append_assoc], b2.le (by omega), k1.on k2 ?_, ?_⟩
  · rintro k hk (h | h | h)
    · exact .inl h
    · exact .inr (.inl h)
    · rcases o1 with o | ⟨j, hj, o⟩
      · exact .inr (.inr (o ▸ h))
      · rw [o] at h
        cases h
        omega
  · rcases o2 with o | ⟨j, hj, o⟩
    · rw [o]
      exact o1
    · exact .inr ⟨j, Nat.le_trans k1.size hj, o⟩
/-- Ahead of it something was laid that touches none of the teller's blocks. -/
theorem Carry.ahead {tb B : Nat} {bp : Option Nat} {v : Value} {ns : List Int} {d m : Nat} {w w1 w2 : World} {acc : List Int} {p : Nat} (k : Kept (fun _ => False) w w1) (h : Carry tb B bp v ns d m w1 acc p w2) : Carry tb B bp v ns d m w acc p w2 := by
  obtain ⟨v2, t2, b2, k2, o2⟩ := h
  refine ⟨v2, t2, b2, (k.mono fun _ _ h => h.elim).trans k2, ?_⟩
  rcases o2 with o | ⟨j, hj, o⟩
  · exact .inl o
  · exact .inr ⟨j, Nat.le_trans k.size hj, o⟩
/-- Behind it something was laid. -/
theorem Carry.behind {tb B : Nat} {bp : Option Nat} {v : Value} {ns : List Int} {d m : Nat} {w w1 w2 : World} {acc : List Int} {p : Nat} (h : Carry tb B bp v ns d m w acc p w1) (k : Kept (fun _ => False) w1 w2) : Carry tb B bp v ns d m w acc p w2 := by
  obtain ⟨v2, t2, b2, k2, o2⟩ := h
  exact ⟨v2, t2.kept k id fun _ _ => id, b2.kept k fun _ _ => id, k2.trans (k.mono fun _ _ h => h.elim), o2⟩
theorem doPost_iff {tb B : Nat} {bp : Option Nat} {v : Value} {ns : List Int} {d m : Nat} {r : Came} {w : World} {e : Ending} {w' : World} : DoPost tb B bp v ns d m r w e w' ↔ e = endOf r.2.2 ∧ Carry tb B bp v ns d m w r.1 r.2.1 w' := Iff.rfl

theorem within_any (tb B : Nat) (bp : Option Nat) (v : Value) (ns : List Int) (d m : Nat) (A : Option Addr) (n cp deep : Nat) (r : Came) (w : World) (ht : Teller tb B bp v ns w) (hbk : Book bp w d m) (hd : d < 4611686018427387903) (hbB : ∀ b, bp = some b → b < B) (hBt : B ≤ tb)
    (h : ∀ W, Kept (lendS bp) w W → Book bp W (d + 1) (max m (d + 1)) →
      Calls Try.prog 24 #[.pointer (some ⟨tb, 0, none⟩), .slice A n cp, .int .i64 deep] W (DoPost tb B bp v ns (d + 1) (max m (d + 1)) r W)) :
    Calls Try.prog 27 #[.pointer (some ⟨tb, 0, none⟩), .slice A n cp, .int .i64 deep] w (DoPost tb B bp v ns d m (r.1, max (d + 1) r.2.1, r.2.2) w) := by
  rcases bp with _ | b
  · refine within_nil tb B v ns d m A n cp deep r w ht ?_
    rintro W rfl
    refine (h W (Kept.refl _ _) (Book.none_ _ _ _)).mono ?_
    rintro e w' ⟨he, v', a1, _, a3, a4⟩
    exact ⟨he, v', a1, Book.none_ _ _ _, a3, a4⟩
  · exact within_some tb B b v ns d m A n cp deep r w ht hbk hd (hbB b rfl) hBt fun W hk hw => h W hk (Book.of hw)

end Go.Proofs.Ytopmcjpnfnfjiaa
