/-
  The walk of given: steps of the document's kind made anew as the program's. Fewer than 2^40 steps.
-/
import Derived.Test.YtopmcjpnfnfjiaaLendH
import Derived.Deep.AppendLies
import Derived.Deep.RegionHeld3
namespace Go.Lendp
open Go.RowKit Go.Colm
set_option linter.unusedVariables false

mutual
theorem StpAt.turn {N N' : Nat → Prop} {w w' : World} (hk : ∀ b off v, N b → w.cell? ⟨b, off, none⟩ = some v → N' b ∧ w'.cell? ⟨b, off, none⟩ = some v) (b off : Nat) (hb : N b) : ∀ s : Stp, StpAt N w b off s → N' b ∧ StpAt N' w' b off s
  | .mk k c l => fun h => by
    obtain ⟨h1, h2, A, cp, h3, h4⟩ := stpAt_mk.1 h
    exact ⟨(hk _ _ _ hb h1).1, stpAt_mk.2 ⟨(hk _ _ _ hb h1).2, (hk _ _ _ hb h2).2, A, cp, (hk _ _ _ hb h3).2, StpsAt.turn hk A 0 l h4⟩⟩
theorem StpsAt.turn {N N' : Nat → Prop} {w w' : World} (hk : ∀ b off v, N b → w.cell? ⟨b, off, none⟩ = some v → N' b ∧ w'.cell? ⟨b, off, none⟩ = some v) (A : Option Addr) (i : Nat) : ∀ l : List Stp, StpsAt N w A i l → StpsAt N' w' A i l
  | [] => fun _ => stpsAt_nil
  | s :: r => fun h => by
    obtain ⟨⟨b, off, e, hb, hs⟩, hr⟩ := stpsAt_cons.1 h
    have g := StpAt.turn hk b _ hb s hs
    exact stpsAt_cons.2 ⟨⟨b, off, e, g.1, g.2⟩, StpsAt.turn hk A (i + 1) r hr⟩
end
theorem StpsAt.imp {N N' : Nat → Prop} {w : World} (hn : ∀ k, N k → k < w.heap.size → N' k) {A : Option Addr} {i : Nat} {l : List Stp} (h : StpsAt N w A i l) : StpsAt N' w A i l :=
  StpsAt.turn (fun b off v hb hc => ⟨hn b hb (lt_of_cell hc), hc⟩) A i l h

/-- A row's cells, three a step. -/
def Laid (N : Nat → Prop) (w : World) : List Stp → List Value → Prop
  | [], xs => xs = []
  | .mk k c l :: r, xs => ∃ A cp ys, xs = .int .i64 k :: .int .i64 c :: .slice A l.length cp :: ys ∧ StpsAt N w A 0 l ∧ Laid N w r ys
theorem Laid.length {N : Nat → Prop} {w : World} : ∀ {l : List Stp} {xs : List Value}, Laid N w l xs → xs.length = l.length * 3
  | [], _, h => by
    have h : _ = [] := h
    simp [h]
  | .mk k c l :: r, _, ⟨A, cp, ys, e, _, h⟩ => by
    have := Laid.length h
    simp [e, this]
    omega
theorem Laid.turn {N N' : Nat → Prop} {w w' : World} (hk : ∀ b off v, N b → w.cell? ⟨b, off, none⟩ = some v → N' b ∧ w'.cell? ⟨b, off, none⟩ = some v) : ∀ {l : List Stp} {xs : List Value}, Laid N w l xs → Laid N' w' l xs
  | [], _, h => h
  | .mk k c l :: r, _, ⟨A, cp, ys, e, hs, h⟩ => ⟨A, cp, ys, e, StpsAt.turn hk A 0 l hs, Laid.turn hk h⟩
theorem Laid.snoc {N : Nat → Prop} {w : World} {k c : Int} {sub : List Stp} {A : Option Addr} {cp : Nat} (hs : StpsAt N w A 0 sub) : ∀ {l : List Stp} {xs : List Value}, Laid N w l xs → Laid N w (l ++ [.mk k c sub]) (xs ++ [.int .i64 k, .int .i64 c, .slice A sub.length cp])
  | [], _, h => by
    have h : _ = [] := h
    rw [h]
    exact ⟨A, cp, [], rfl, hs, rfl⟩
  | .mk k' c' l' :: r, _, ⟨A', cp', ys, e, hs', h⟩ => by
    rw [e]
    exact ⟨A', cp', _, rfl, hs', Laid.snoc hs h⟩
theorem Laid.steps {N : Nat → Prop} {w : World} {g : Nat} (hg : N g) : ∀ {l : List Stp} {ys : List Value} (i : Nat), Laid N w l ys → (∀ j u, ys[j]? = some u → w.cell? ⟨g, i * 3 + j, none⟩ = some u) → StpsAt N w (some ⟨g, 0, none⟩) i l
  | [], _, _, _, _ => stpsAt_nil
  | .mk k c l :: r, _, i, ⟨A, cp, ys, e, hs, h⟩, hc => by
    subst e
    refine stpsAt_cons.2 ⟨⟨g, 0, rfl, hg, stpAt_mk.2 ⟨?_, ?_, A, cp, ?_, hs⟩⟩, Laid.steps hg (i + 1) h ?_⟩
    · have := hc 0 _ rfl
      simpa using this
    · have := hc 1 _ rfl
      simpa using this
    · have := hc 2 _ rfl
      simpa using this
    · intro j u hu
      have := hc (j + 3) u (by simpa using hu)
      rw [show (i + 1) * 3 + j = i * 3 + (j + 3) by omega]
      exact this
theorem own_cells3 {w : World} {base : Nat} {e : TypeId} {v : Value} {n : Nat} {xs : List Value} (h : w.ownsRow base e 3 v n xs) (hn : 0 < n) : ∃ g c, v = .slice (some ⟨g, 0, none⟩) n c ∧ base ≤ g ∧ v.ownBlock = some g ∧ ∀ j u, xs[j]? = some u → w.cell? ⟨g, j, none⟩ = some u := by
  rcases h.2 with ⟨_, h0⟩ | ⟨g, cap, cur, rfl, hb, hg, _, _, _, ht⟩
  · omega
  · refine ⟨g, cap, rfl, hb, rfl, fun j u hu => ?_⟩
    have hj : j < xs.length := (List.getElem?_eq_some_iff.1 hu).1
    have hl := h.1
    rw [← ht, List.getElem?_take_of_lt (by omega)] at hu
    simp only [World.cell?, hg]
    simpa using hu
theorem own_slice {w : World} {base : Nat} {e : TypeId} {size : Nat} {v : Value} {n : Nat} {xs : List Value} (h : w.ownsRow base e size v n xs) : ∃ A c, v = .slice A n c := by
  rcases h.2 with ⟨rfl, rfl⟩ | ⟨g, cap, cur, rfl, _⟩
  · exact ⟨_, _, rfl⟩
  · exact ⟨_, _, rfl⟩
end Go.Lendp
namespace Go.Proofs.Ytopmcjpnfnfjiaa
open Go.RowKit Go.Colm Go.Lendp
set_option linter.unusedVariables false

theorem one3 (a b : Int) (A : Option Addr) (n c : Nat) : ∀ u ∈ [Value.int .i64 a, .int .i64 b, .slice A n c], u.oneCell' = true := by
  intro u hu
  simp at hu
  rcases hu with rfl | rfl | rfl <;> rfl
theorem step_info : (Try.prog.info? 42).map (fun i => (i.zero, i.size, i.bytes)) = some (some (.agg #[.int .i64 0, .int .i64 0, .slice none 0 0]), 3, 40) := by kernel_rfl

/-- given makes these steps anew, wherever they lie. -/
def GivenOK (l : List Stp) : Prop := ∀ (N : Nat → Prop) (A : Option Addr) (cp : Nat) (w : World), StpsAt N w A 0 l →
  Calls Try.prog 12 #[.slice A l.length cp] w fun e w' => ∃ A' c', e = .returned (.slice A' l.length c') ∧ StpsAt (fun k => w.heap.size ≤ k) w' A' 0 l ∧ Below w.heap.size w w'

/-- The loop of given: k steps were made. -/
def GivenAt (l : List Stp) (w : World) (v : Value) (k : Nat) (wr : World) : Prop :=
  ∃ xs, wr.ownsRow w.heap.size 42 3 v k xs ∧ Laid (fun j => w.heap.size ≤ j ∧ v.ownBlock ≠ some j) wr (l.take k) xs ∧ Below w.heap.size w wr

theorem given_grow {l : List Stp} {w wr w2 w3 : World} {k : Nat} {v : Value} {xs : List Value} {kk c : Int} {sub : List Stp} {A2 : Option Addr} {c2 g cap : Nat} {o : Obj} (hlt : k < l.length) (hek : l[k] = .mk kk c sub)
    (hrow : wr.ownsRow w.heap.size 42 3 v k xs) (hlaid : Laid (fun j => w.heap.size ≤ j ∧ v.ownBlock ≠ some j) wr (l.take k) xs) (hbw : Below w.heap.size w wr)
    (hst2 : StpsAt (fun k => wr.heap.size ≤ k) w2 A2 0 sub) (hb2 : Below wr.heap.size wr w2)
    (hown3 : w3.ownsRow w.heap.size 42 3 (.slice (some ⟨g, 0, none⟩) (k + 1) cap) (k + 1) (xs ++ [.int .i64 kk, .int .i64 c, .slice A2 sub.length c2])) (hg3 : (w2.alloc o).grownBy w3 v.ownBlock) (hat3 : v.ownBlock = some g ∨ g = (w2.alloc o).heap.size) :
    GivenAt l w (.slice (some ⟨g, 0, none⟩) (k + 1) cap) (k + 1) w3 := by
  have hk3 := Kept.grown hg3
  have hka : Kept (fun _ => False) w2 (w2.alloc o) := (Kept.refl _ _).alloc _
  have hvl : ∀ j, v.ownBlock = some j → j < wr.heap.size := fun j e => own_at hrow e
  have hsz : wr.heap.size ≤ w2.heap.size := hb2.size
  have hsw : w.heap.size ≤ wr.heap.size := hbw.size
  have hgs : (w2.alloc o).heap.size = w2.heap.size + 1 := by simp
  have hown : (Value.slice (some ⟨g, 0, none⟩) (k + 1) cap).ownBlock = some g := rfl
  refine ⟨_, hown3, ?_, ?_⟩
  · rw [List.take_succ_eq_append_getElem hlt, hek]
    refine Laid.snoc (StpsAt.turn ?_ _ _ _ hst2) (Laid.turn ?_ hlaid)
    · intro b off u hb hc
      have hb2l := lt_of_cell hc
      simp only at hb2l
      refine ⟨⟨by omega, ?_⟩, hk3.cell (hka.cell hc id) ?_⟩
      · rw [hown]
        intro e
        cases e
        rcases hat3 with h | h
        · have := hvl _ h
          omega
        · omega
      · intro h
        have := hvl _ h
        simp only at this
        omega
    · rintro b off u ⟨hb1, hb3⟩ hc
      have hb2l := lt_of_cell hc
      simp only at hb2l
      refine ⟨⟨hb1, ?_⟩, hk3.cell (hka.cell ((hb2.cell hb2l).trans hc) id) hb3⟩
      rw [hown]
      intro e
      cases e
      rcases hat3 with h | h
      · exact hb3 h
      · omega
  · have hb4 : Below w.heap.size w (w2.alloc o) := (below_chain hbw hb2).alloc (by omega) o
    exact hb4.grown hg3 (by omega) fun j e => own_from hrow e

theorem given_end {l : List Stp} {w wr : World} {v : Value} (h : GivenAt l w v l.length wr) : ∃ A' c', v = .slice A' l.length c' ∧ StpsAt (fun k => w.heap.size ≤ k) wr A' 0 l ∧ Below w.heap.size w wr := by
  obtain ⟨xs, hrow, hlaid, hbw⟩ := h
  rw [List.take_length] at hlaid
  rcases Nat.eq_zero_or_pos l.length with h0 | h0
  · obtain ⟨A, c, e⟩ := own_slice hrow
    have hl : l = [] := List.eq_nil_of_length_eq_zero h0
    subst hl
    exact ⟨A, c, e, stpsAt_nil, hbw⟩
  · obtain ⟨g, c, e, hg, _, hc⟩ := own_cells3 hrow h0
    refine ⟨_, c, e, Laid.steps hg 0 (Laid.turn (fun b off u hb hc => ⟨hb.1, hc⟩) hlaid) fun j u hu => ?_, hbw⟩
    rw [Nat.zero_mul, Nat.zero_add]
    exact hc j u hu

set_option maxHeartbeats 2000000 in
theorem given_step {l : List Stp} (H : ∀ k (hk : k < l.length) kk c sub, l[k] = .mk kk c sub → GivenOK sub) (hlen : l.length < 1099511627776) : GivenOK l := by
  intro N A cp w hs
  obtain ⟨i0, hi, hz0, hz1, hz2⟩ := info_parts step_info
  have HH := Lib.hid H
  have HS := Lib.hid hs
  have hG0 : GivenAt l w (.slice none 0 0) 0 w := ⟨[], own_nil _ _ _ _, rfl, Below.refl _ _⟩
  clear H hs
  go_enter Try.func12, Try.ntmps12
  go_wp2_with fail
  go_loopw [3, 4] (fun v i wr => ∃ k : Nat, k ≤ l.length ∧ i = .int .i64 k ∧ Hid (GivenAt l w v k wr)) (fun _ i _ => l.length - (intOf i).toNat)
  case atStart => exact ⟨0, Nat.zero_le _, rfl, Lib.hid hG0⟩
  case round =>
    obtain ⟨k, hk, rfl, hgv⟩ := hrel
    obtain ⟨xs, hrow, hlaid, hbw⟩ := hgv.out
    by_cases hlt : k < l.length
    · obtain ⟨b, off, rfl, hbN, hst⟩ := HS.out.get l 0 k hlt
      rw [Nat.zero_add] at hst
      rcases hek : l[k] with ⟨kk, c, sub⟩
      rw [hek] at hst
      obtain ⟨s0, s1, A', cp', s2, hsub⟩ := stpAt_mk.1 hst
      have hok := HH.out k hlt kk c sub hek
      have hblt : b < w.heap.size := lt_of_cell s0
      have hkeep : ∀ W, Below w.heap.size w W → W.cell? ⟨b, off + k * 3, none⟩ = some (.int .i64 kk) ∧ W.cell? ⟨b, off + k * 3 + 1, none⟩ = some (.int .i64 c) ∧ W.cell? ⟨b, off + k * 3 + 2, none⟩ = some (.slice A' sub.length cp') :=
        fun W h => ⟨(h.cell hblt).trans s0, (h.cell hblt).trans s1, (h.cell hblt).trans s2⟩
      have hS0 : Below w.heap.size w wr.drew ∧ wr.drew.cell? ⟨b, off + k * 3, none⟩ = some (.int .i64 kk) ∧ wr.drew.cell? ⟨b, off + k * 3 + 1, none⟩ = some (.int .i64 c) ∧ wr.drew.cell? ⟨b, off + k * 3 + 2, none⟩ = some (.slice A' sub.length cp') := ⟨hbw.drew, hkeep _ hbw.drew⟩
      have hsubW : StpsAt N wr.drew A' 0 sub := hsub.kept (S := fun _ => False) (Kept.below hbw.drew _) (fun _ _ => id) 
      have hcall : Calls Try.prog 12 #[.slice A' sub.length cp'] wr.drew fun e w' => ∃ A2 c2, e = .returned (.slice A2 sub.length c2) ∧ StpsAt (fun k => wr.heap.size ≤ k) w' A2 0 sub ∧ Below wr.heap.size wr w' ∧ Below w.heap.size w w' ∧ w.heap.size ≤ w'.heap.size ∧ ∀ o, w.heap.size ≤ (w'.alloc o).heap.size := (hok N A' cp' wr.drew hsubW).mono (by
        rintro e w' ⟨A2, c2, e1, h2, h3⟩
        have h4 : Below wr.heap.size wr w' := ⟨h3.os, h3.tape, h3.output, h3.size, h3.block⟩
        exact ⟨A2, c2, e1, h2, h4, below_chain hbw h4, Nat.le_trans hbw.size h4.size, fun o => by
          have := hbw.size
          have := h4.size
          simp
          omega⟩)
      have hrowk : ∀ W, Below wr.heap.size wr W → W.ownsRow w.heap.size 42 3 u3 k xs := fun W h => own_kept (Kept.below h (fun _ => False)) hrow fun _ _ => id
      obtain ⟨Av, cv, hv⟩ := own_slice hrow
      have HROW := Lib.hid hrow
      have HROWK := Lib.hid hrowk
      have HLAID := Lib.hid hlaid
      have HEK := Lib.hid hek
      have HCALL := Lib.hid hcall
      have HKEEP := Lib.hid hkeep
      have HV := Lib.hid hv
      clear hrow hrowk hlaid hek hcall hok hsub hsubW hst hkeep hgv s0 s1 s2
      subst hv
      go_wp2_with fail
      go_region_held3 (fun W => Below w.heap.size w W ∧ W.cell? ⟨b, off + k * 3, none⟩ = some (.int .i64 kk) ∧ W.cell? ⟨b, off + k * 3 + 1, none⟩ = some (.int .i64 c) ∧ W.cell? ⟨b, off + k * 3 + 2, none⟩ = some (.slice A' sub.length cp'))
        (first | exact hS0 | exact ⟨by assumption, HKEEP.out _ (by assumption)⟩ | exact ⟨Below.alloc (by assumption) (by assumption) _, HKEEP.out _ (Below.alloc (by assumption) (by assumption) _)⟩)
        (first
          | ((go_at_call 12; refine HCALL.out.mono ?_); rintro e w2 ⟨A2, c2, rfl, hst2, hb2, hbw2, hsz2, hsz3⟩)
          | (refine step_append_lies _ rfl _ _ _ rfl w.heap.size 42 i0 _ 3 40 Try.underlying32 hi hz0 hz1 hz2 rfl (by decide) _ k xs rfl (HROWK.out _ (hb2.alloc hb2.size _)) ⟨_, 0, none⟩ 1 1 [.int .i64 kk, .int .i64 c, .slice A2 sub.length c2] rfl rfl (World.news_of_block (Whole.new w2 _ #[.int .i64 kk, .int .i64 c, .slice A2 sub.length c2])) (one3 _ _ _ _ _) (by decide) (by unfold maxLen; omega) (by omega) (hsz3 _) _ rfl ?_
             intro g cap w3 hown3 hg3 hat3 hlt3
             have hbw3 : Below w.heap.size w w3 := own_below (HROWK.out _ (hb2.alloc hb2.size _)) (hbw2.alloc hsz2 _) (by simp; omega) hg3))
      have HG := Lib.hid (given_grow hlt HEK.out HROW.out HLAID.out hbw hst2 hb2 hown3 hg3 hat3)
      clear hst2 hb2 hown3 hg3 hat3
      go_wp2_with fail
      go_roundw
      case rel => exact ⟨k + 1, by omega, by go_num, HG⟩
      case measure => simp [intOf]; omega
    · have hkl : k = l.length := by omega
      subst hkl
      obtain ⟨A', c', e1, h2, h3⟩ := given_end hgv.out
      clear hrow hlaid
      subst e1
      go_wp2_with fail
      go_ret
      exact ⟨A', c', rfl, h2, h3⟩

theorem given_any : ∀ (n : Nat) (l : List Stp), cntL l < n → n ≤ 1099511627776 → GivenOK l
  | 0, _, h, _ => absurd h (by omega)
  | n + 1, l, h, hn => given_step (fun k hk kk c sub e => given_any n sub (by
      have := cntL_get l k hk
      rw [e, cntS] at this
      omega) (by omega)) (by
      have := cntL_length l
      omega)

end Go.Proofs.Ytopmcjpnfnfjiaa
