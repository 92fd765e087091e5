/-
  What layer lend's do calls in a round: Depth and note, within, caught; each with the teller's notes carried on. No condition but sizes.
-/
import Derived.Test.YtopmcjpnfnfjiaaLendH
namespace Go.Proofs.Ytopmcjpnfnfjiaa
open Go.RowKit Go.Colm Go.Lendp
set_option linter.unusedVariables false

theorem depth_any (bp : Option Nat) (d m : Nat) (w : World) (h : Book bp w d m) : Calls Try.prog 16 #[bptr bp] w fun e w' => e = .returned (.int .i64 (if bp.isNone then 0 else (d : Int))) ∧ w' = w := by
  rcases bp with _ | b
  · exact depth_nil w
  · exact depth_some b d m w (h b rfl)

theorem note_carry (tb B : Nat) (bp : Option Nat) (v : Value) (ns : List Int) (n : Int) (d m : Nat) (w : World) (ht : Teller tb B bp v ns w) (hb : Book bp w d m) (hBt : B ≤ tb) (hbB : ∀ b, bp = some b → b < B) (hl : ns.length < 1099511627776) :
    Calls Try.prog 26 #[.pointer (some ⟨tb, 0, none⟩), .int .i64 n] w fun e w' => e = .returned (.tuple #[]) ∧ Carry tb B bp v ns d m w [n] 0 w' := by
  have hlt := ht.1.lt
  refine (note_any tb B bp v ns n w ht (by omega) hl).mono ?_
  rintro e w' ⟨rfl, v', t', k', o'⟩
  refine ⟨rfl, v', t', ?_, k'.mono ?_, o'⟩
  · refine (Book.kept k' hb ?_).le (by omega)
    rintro b hb' (rfl | h)
    · have := hbB b hb'
      omega
    · have := hbB b hb'
      have := own_from ht.2 h
      omega
  · rintro k _ (h | h)
    · exact .inl h
    · exact .inr (.inr h)

/-- do is done rightly at these steps, whatever the world. -/
def DoOK (N : Nat → Prop) (tb B : Nat) (bp : Option Nat) (l : List Stp) : Prop :=
  ∀ (v : Value) (ns : List Int) (d m : Nat) (A : Option Addr) (cp deep : Nat) (w : World), Teller tb B bp v ns w → Book bp w d m → StpsAt N w A 0 l → ns.length + cntL l < 1099511627776 → d ≤ deep → deep ≤ 51 →
    Calls Try.prog 24 #[.pointer (some ⟨tb, 0, none⟩), .slice A l.length cp, .int .i64 (deep : Int)] w (DoPost tb B bp v ns d m (doL bp.isNone d deep l) w)

theorem within_carry {N : Nat → Prop} {tb B : Nat} {bp : Option Nat} {l : List Stp} (H : DoOK N tb B bp l) (hBt : B ≤ tb) (hbB : ∀ b, bp = some b → b < B) (hN : ∀ k, N k → k < B ∧ bp ≠ some k)
    (v : Value) (ns : List Int) (d m : Nat) (A : Option Addr) (cp deep : Nat) (w : World) (ht : Teller tb B bp v ns w) (hb : Book bp w d m) (hs : StpsAt N w A 0 l) (hc : ns.length + cntL l < 1099511627776) (hd : d ≤ deep) (hdeep : deep ≤ 50) :
    Calls Try.prog 27 #[.pointer (some ⟨tb, 0, none⟩), .slice A l.length cp, .int .i64 ((deep + 1 : Nat) : Int)] w fun e w' =>
      e = endOf (doL bp.isNone (d + 1) (deep + 1) l).2.2 ∧ Carry tb B bp v ns d m w (doL bp.isNone (d + 1) (deep + 1) l).1 (max (d + 1) (doL bp.isNone (d + 1) (deep + 1) l).2.1) w' := by
  refine (within_any tb B bp v ns d m A l.length cp (deep + 1) (doL bp.isNone (d + 1) (deep + 1) l) w ht hb (by omega) hbB hBt ?_).mono fun e w' h => h
  intro W hk hbW
  have hno : ¬ lendS bp tb := fun h => by
    have := hbB tb h
    omega
  refine H v ns (d + 1) (max m (d + 1)) A cp (deep + 1) W (ht.kept hk hno ?_) hbW (hs.kept hk fun k hk h => (hN k hk).2 h) hc (by omega) (by omega)
  intro k hk h
  have := hbB k h
  have := own_from ht.2 hk
  omega

/-- What do's closure finds: the teller's pointer at p3, the step's slice at p7, the depth at p5. -/
theorem kept_carry {N : Nat → Prop} {tb B : Nat} {bp : Option Nat} {l : List Stp} (H : DoOK N tb B bp l) (hBt : B ≤ tb) (hbB : ∀ b, bp = some b → b < B) (hN : ∀ k, N k → k < B ∧ bp ≠ some k)
    (v : Value) (ns : List Int) (d m : Nat) (A : Option Addr) (cp deep p3 p7 p5 : Nat) (w : World) (ht : Teller tb B bp v ns w) (hb : Book bp w d m) (hs : StpsAt N w A 0 l) (hc : ns.length + cntL l < 1099511627776) (hd : d ≤ deep) (hdeep : deep ≤ 50)
    (h3 : w.cell? ⟨p3, 0, none⟩ = some (.pointer (some ⟨tb, 0, none⟩))) (h7 : w.cell? ⟨p7, 2, none⟩ = some (.slice A l.length cp)) (h5 : w.cell? ⟨p5, 0, none⟩ = some (.int .i64 (deep : Int))) :
    Calls Try.prog 22 #[.func (.func 28) #[] #[.pointer (some ⟨p3, 0, none⟩), .pointer (some ⟨p7, 0, none⟩), .pointer (some ⟨p5, 0, none⟩)]] w fun e w' =>
      e = .returned (.tuple #[.agg #[.int .i64 ((doL bp.isNone (d + 1) (deep + 1) l).2.2.getD 0)], .bool (doL bp.isNone (d + 1) (deep + 1) l).2.2.isSome]) ∧
      Carry tb B bp v ns d m w (doL bp.isNone (d + 1) (deep + 1) l).1 (max (d + 1) (doL bp.isNone (d + 1) (deep + 1) l).2.1) w' := by
  have kW : Kept (fun _ => False) w (caughtW w) := ((Kept.refl _ w).alloc _).alloc _
  have hf : Whole (caughtW w) w.heap.size 53 #[.int .i64 0] := Kept.whole ((Kept.refl (fun _ => False) _).alloc _) (Whole.new w 53 #[.int .i64 0]) id
  have hg : Whole (caughtW w) (w.heap.size + 1) 4 #[.bool false] := by
    have h := Whole.new (w.alloc (.cells #[.int .i64 0] 53)) 4 #[.bool false]
    rw [World.size_alloc] at h
    exact h
  have hlt := ht.1.lt
  have hW := within_carry H hBt hbB hN v ns d m A cp deep (caughtW w) (ht.kept kW id fun _ _ => id) (hb.kept kW fun _ _ => id) (hs.kept kW fun _ _ => id) hc hd hdeep
  have hdo := do1_any p3 p7 p5 tb A l.length cp deep _ (caughtW w) _ (kW.cell h3 id) (kW.cell h7 id) (kW.cell h5 id) (by omega) hW
  have hbl : ∀ b, bp = some b → b < w.heap.size := fun b e => (hb b e).lt
  have hvl : ∀ k, v.ownBlock = some k → k < w.heap.size := fun k e => own_at ht.2 e
  have hfin : ∀ w2 w', Carry tb B bp v ns d m (caughtW w) (doL bp.isNone (d + 1) (deep + 1) l).1 (max (d + 1) (doL bp.isNone (d + 1) (deep + 1) l).2.1) w2 → Kept (fun k => k = w.heap.size ∨ k = w.heap.size + 1) w2 w' →
      Carry tb B bp v ns d m w (doL bp.isNone (d + 1) (deep + 1) l).1 (max (d + 1) (doL bp.isNone (d + 1) (deep + 1) l).2.1) w' := by
    rintro w2 w' ⟨v2, t2, b2, k2, o2⟩ k3
    have hsz : (caughtW w).heap.size = w.heap.size + 2 := by simp [caughtW]
    refine ⟨v2, t2.kept k3 ?_ ?_, b2.kept k3 ?_, ((kW.mono fun _ _ h => h.elim).trans k2).on k3 ?_, ?_⟩
    · omega
    · rintro k hk h
      rcases o2 with o | ⟨j, hj, o⟩
      · rw [o] at hk
        have := hvl k hk
        omega
      · rw [o] at hk
        cases hk
        omega
    · rintro b hb' h
      have := hbl b hb'
      omega
    · rintro k hk h
      omega
    · rcases o2 with o | ⟨j, hj, o⟩
      · exact .inl o
      · exact .inr ⟨j, by omega, o⟩
  have hkeep : ∀ w2, Carry tb B bp v ns d m (caughtW w) (doL bp.isNone (d + 1) (deep + 1) l).1 (max (d + 1) (doL bp.isNone (d + 1) (deep + 1) l).2.1) w2 → Whole w2 w.heap.size 53 #[.int .i64 0] ∧ Whole w2 (w.heap.size + 1) 4 #[.bool false] := by
    rintro w2 ⟨v2, t2, b2, k2, o2⟩
    have hn : ∀ j, w.heap.size ≤ j → ¬ doS_ tb bp v j := by
      rintro j hj (h | h | h)
      · omega
      · have := hbl j h
        omega
      · have := hvl j h
        omega
    exact ⟨k2.whole hf (hn _ (by omega)), k2.whole hg (hn _ (by omega))⟩
  rcases eo : (doL bp.isNone (d + 1) (deep + 1) l).2.2 with _ | c
  · refine (caught_ret3 _ _ _ w _ (hdo.mono fun e w' h => ⟨h.1.trans (by rw [eo]; rfl), h.2, hkeep w' h.2⟩)).mono ?_
    rintro e w' ⟨rfl, w2, hR, hk⟩
    exact ⟨rfl, hfin w2 w' hR hk⟩
  · refine (caught_pan3 _ _ _ c w _ (hdo.mono fun e w' h => ⟨h.1.trans (by rw [eo]; rfl), h.2, hkeep w' h.2⟩)).mono ?_
    rintro e w' ⟨rfl, w2, hR, hk⟩
    exact ⟨rfl, hfin w2 w' hR hk⟩

end Go.Proofs.Ytopmcjpnfnfjiaa
