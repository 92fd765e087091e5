/-
  What comes of the teller's do and within, said of memory; within, given what do does. No condition but sizes.
-/
import Derived.Test.YtopmcjpnfnfjiaaLendD
import Derived.Test.YtopmcjpnfnfjiaaLendE
namespace Go.Proofs.Ytopmcjpnfnfjiaa
open Go.RowKit Go.Colm Go.Lendp
set_option linter.unusedVariables false

/-- How steps end. -/
def endOf (o : Option Int) : Ending := match o with
  | none => .returned (.tuple #[])
  | some c => .panicked [{ v := failV c, recovered := false }]
/-- What of memory may turn while steps are done. -/
def doS_ (tb : Nat) (bp : Option Nat) (v : Value) : Nat → Prop := fun k => k = tb ∨ bp = some k ∨ v.ownBlock = some k
def DoPost (tb B : Nat) (bp : Option Nat) (v : Value) (ns : List Int) (d m : Nat) (r : Came) (w : World) (e : Ending) (w' : World) : Prop :=
  e = endOf r.2.2 ∧ ∃ v', Teller tb B bp v' (ns ++ r.1) w' ∧ Book bp w' d (max m r.2.1) ∧ Kept (doS_ tb bp v) w w' ∧ (v'.ownBlock = v.ownBlock ∨ ∃ k, w.heap.size ≤ k ∧ v'.ownBlock = some k)

set_option maxHeartbeats 400000 in
theorem close_nil_d (u : FrameMode) (w : World) : CallsD Try.prog 20 #[.pointer none] u w fun e u' w' => u' = u ∧ (e = .returned (.int .i64 1) ∧ w' = w) := by
  go_enter_d Try.func20, Try.ntmps20
  go_wp2
  go_ret
  exact ⟨rfl, rfl⟩

set_option maxHeartbeats 800000 in
theorem close_some_d (u : FrameMode) (b d m : Nat) (w : World) (h : Whole w b 48 #[.int .i64 ((d + 1 : Nat) : Int), .int .i64 (m : Int)]) (hd : d < 4611686018427387904) :
    CallsD Try.prog 20 #[.pointer (some ⟨b, 0, none⟩)] u w fun e u' w' => u' = u ∧ (e = .returned (.int .i64 0) ∧ Kept (lendS (some b)) w w' ∧ Whole w' b 48 #[.int .i64 (d : Int), .int .i64 (m : Int)]) := by
  have c0 : w.cell? ⟨b, 0, none⟩ = some (.int .i64 ((d + 1 : Nat) : Int)) := h.cell 0
  have f0 := h.frozen 0
  have t0 : (((d + 1 : Nat) : Int) == 0) = false := by rw [beq_eq_false_iff_ne]; omega
  have H := Lib.hid h
  clear h
  go_enter_d Try.func20, Try.ntmps20
  go_wp2
  go_ret
  exact ⟨rfl, kept1 _ _ _ _, whole1 H.out (.int .i64 (d : Int))⟩

set_option maxHeartbeats 1000000 in
theorem within_nil (tb B : Nat) (v : Value) (ns : List Int) (d m : Nat) (A : Option Addr) (n cp deep : Nat) (r : Came) (w : World) (ht : Teller tb B none v ns w)
    (h : ∀ W, W = w → Calls Try.prog 24 #[.pointer (some ⟨tb, 0, none⟩), .slice A n cp, .int .i64 deep] W (DoPost tb B none v ns (d + 1) m r W)) :
    Calls Try.prog 27 #[.pointer (some ⟨tb, 0, none⟩), .slice A n cp, .int .i64 deep] w (DoPost tb B none v ns d m (r.1, max (d + 1) r.2.1, r.2.2) w) := by
  have c0 : w.cell? ⟨tb, 0, none⟩ = some (.pointer none) := ht.1.cell 0
  have H := Lib.hid h
  have HT := Lib.hid ht
  clear h ht
  go_enter_defers Try.func27, Try.ntmps27
  go_wp2_with fail
  refine (open_nil _).mono ?_
  rintro e w1 ⟨rfl, rfl⟩
  go_wp2_with fail
  obtain ⟨ns', p, o⟩ := r
  rcases o with _ | c
  · refine (H.out _ rfl).mono ?_
    rintro e w2 ⟨rfl, hpost⟩
    have HP := Lib.hid hpost
    clear hpost
    unfold endOf
    go_wp2_with fail
    refine leaves_cons (f := 20) (args := #[.pointer none]) (by simp) (by simp [go_sem]) ?_
    refine (close_nil_d _ _).mono ?_
    rintro e u' w'' ⟨rfl, rfl, rfl⟩
    simp [Leaves, settle, results, Try.results27, go_sem]
    obtain ⟨v', a1, a2, a3, a4⟩ := HP.out
    exact ⟨rfl, v', a1, Book.none_ _ _ _, a3, a4⟩
  · refine (H.out _ rfl).mono ?_
    rintro e w2 ⟨rfl, hpost⟩
    have HP := Lib.hid hpost
    clear hpost
    unfold endOf
    go_wp2_with fail
    refine leaves_cons (f := 20) (args := #[.pointer none]) (by simp) (by simp [go_sem]) ?_
    refine (close_nil_d _ _).mono ?_
    rintro e u' w'' ⟨rfl, rfl, rfl⟩
    simp [Leaves, settle, go_sem]
    obtain ⟨v', a1, a2, a3, a4⟩ := HP.out
    exact ⟨rfl, v', a1, Book.none_ _ _ _, a3, a4⟩

theorem own_kept {S : Nat → Prop} {w w' : World} {base : Nat} {e : TypeId} {size : Nat} {v : Value} {n : Nat} {xs : List Value} (hk : Kept S w w') (h : w.ownsRow base e size v n xs) (hs : ∀ k, v.ownBlock = some k → ¬ S k) : w'.ownsRow base e size v n xs := by
  refine ⟨h.1, ?_⟩
  rcases h.2 with h0 | ⟨g, cap, cur, rfl, hb, hg, rest⟩
  · exact .inl h0
  · refine .inr ⟨g, cap, cur, rfl, hb, (hk.block g ?_ (hs g rfl)).trans hg, rest⟩
    exact Whole.lt (t := e) (cs := cur) hg
theorem Teller.kept {S : Nat → Prop} {tb B : Nat} {bp : Option Nat} {v : Value} {ns : List Int} {w w' : World} (hk : Kept S w w') (h : Teller tb B bp v ns w) (ht : ¬ S tb) (hs : ∀ k, v.ownBlock = some k → ¬ S k) : Teller tb B bp v ns w' :=
  ⟨hk.whole h.1 ht, own_kept hk h.2 hs⟩
theorem own_from {w : World} {base : Nat} {e : TypeId} {size : Nat} {v : Value} {n : Nat} {xs : List Value} (h : w.ownsRow base e size v n xs) {k : Nat} (hk : v.ownBlock = some k) : base ≤ k := by
  rcases h.2 with ⟨rfl, _⟩ | ⟨g, cap, cur, rfl, hb, _⟩
  · simp [Value.ownBlock] at hk
  · have : g = k := by simpa [Value.ownBlock] using hk
    omega

/-- Behind Close: what do has left, and the book as it was ahead of Open. -/
theorem within_end {tb B b : Nat} {v : Value} {ns : List Int} {d m : Nat} {r : Came} {w w1 w2 w3 : World} {e : Ending} (hbB : b < B) (hBt : B ≤ tb) (how : ∀ k, v.ownBlock = some k → B ≤ k)
    (k1 : Kept (lendS (some b)) w w1) (h : ∃ v', Teller tb B (some b) v' (ns ++ r.1) w2 ∧ Book (some b) w2 (d + 1) (max (max m (d + 1)) r.2.1) ∧ Kept (doS_ tb (some b) v) w1 w2 ∧ (v'.ownBlock = v.ownBlock ∨ ∃ k, w1.heap.size ≤ k ∧ v'.ownBlock = some k))
    (k3 : Kept (lendS (some b)) w2 w3) (b3 : Whole w3 b 48 #[.int .i64 (d : Int), .int .i64 ((max (max m (d + 1)) r.2.1 : Nat) : Int)]) (he : e = endOf r.2.2) :
    DoPost tb B (some b) v ns d m (r.1, max (d + 1) r.2.1, r.2.2) w e w3 := by
  obtain ⟨v', t2, b2, k2, a2⟩ := h
  refine ⟨he, v', t2.kept k3 ?_ ?_, ?_, ?_, ?_⟩
  · intro h
    cases h
    omega
  · intro k hk h
    cases h
    have := own_from t2.2 hk
    omega
  · refine Book.of ?_
    rw [show max m (max (d + 1) r.2.1) = max (max m (d + 1)) r.2.1 by omega]
    exact b3
  · exact ((k1.mono fun k _ h => .inr (.inl h)).trans k2).trans (k3.mono fun k _ h => .inr (.inl h))
  · rcases a2 with h | ⟨k, hk, h⟩
    · exact .inl h
    · exact .inr ⟨k, Nat.le_trans k1.size hk, h⟩

set_option maxHeartbeats 1600000 in
theorem within_some (tb B b : Nat) (v : Value) (ns : List Int) (d m : Nat) (A : Option Addr) (n cp deep : Nat) (r : Came) (w : World) (ht : Teller tb B (some b) v ns w) (hbk : Book (some b) w d m) (hd : d < 4611686018427387903) (hbB : b < B) (hBt : B ≤ tb)
    (h : ∀ W, Kept (lendS (some b)) w W → Whole W b 48 #[.int .i64 ((d + 1 : Nat) : Int), .int .i64 ((max m (d + 1) : Nat) : Int)] →
      Calls Try.prog 24 #[.pointer (some ⟨tb, 0, none⟩), .slice A n cp, .int .i64 deep] W (DoPost tb B (some b) v ns (d + 1) (max m (d + 1)) r W)) :
    Calls Try.prog 27 #[.pointer (some ⟨tb, 0, none⟩), .slice A n cp, .int .i64 deep] w (DoPost tb B (some b) v ns d m (r.1, max (d + 1) r.2.1, r.2.2) w) := by
  have c0 : w.cell? ⟨tb, 0, none⟩ = some (.pointer (some ⟨b, 0, none⟩)) := ht.1.cell 0
  have how : ∀ k, v.ownBlock = some k → B ≤ k := fun k hk => own_from ht.2 hk
  have hne : ¬ lendS (some b) tb := fun h => by
    have h' : b = tb := by simpa [lendS] using h
    omega
  have hw0 := hbk b rfl
  have H := Lib.hid h
  have HT := Lib.hid ht
  have HW := Lib.hid hw0
  have How := Lib.hid how
  clear h ht hbk hw0 how
  go_enter_defers Try.func27, Try.ntmps27
  go_wp2_with fail
  refine (open_some b d m _ HW.out (by omega)).mono ?_
  rintro e w1 ⟨rfl, hk1, hb1⟩
  have c1 : w1.cell? ⟨tb, 0, none⟩ = some (.pointer (some ⟨b, 0, none⟩)) := hk1.cell c0 hne
  have HK1 := Lib.hid hk1
  have HB1 := Lib.hid hb1
  clear hk1 hb1
  go_wp2_with fail
  obtain ⟨ns', p, o⟩ := r
  rcases o with _ | c
  all_goals
    refine (H.out w1 HK1.out HB1.out).mono ?_
    rintro e w2 ⟨rfl, hpost⟩
    have hb2 : Whole w2 b 48 #[.int .i64 ((d + 1 : Nat) : Int), .int .i64 ((max (max m (d + 1)) p : Nat) : Int)] := by
      obtain ⟨v', _, a2, _⟩ := hpost
      exact a2 b rfl
    have HP := Lib.hid hpost
    have HB2 := Lib.hid hb2
    clear hpost hb2
    unfold endOf
    go_wp2_with fail
    refine leaves_cons (f := 20) (args := #[.pointer (some ⟨b, 0, none⟩)]) (by simp) (by simp [go_sem]) ?_
    refine (close_some_d _ b d _ _ HB2.out (by omega)).mono ?_
    rintro e u' w3 ⟨rfl, rfl, hk3, hb3⟩
    simp [Leaves, settle, results, Try.results27, go_sem]
    exact within_end (d := d) (m := m) (r := (ns', p, _)) hbB hBt How.out HK1.out HP.out hk3 hb3 rfl

end Go.Proofs.Ytopmcjpnfnfjiaa
