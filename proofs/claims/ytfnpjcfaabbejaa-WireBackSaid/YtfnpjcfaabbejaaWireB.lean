/-
  The walks of the getter's behind and follow. Bytes fewer than 2^40.
-/
import Derived.Test.YtfnpjcfaabbejaaWireA
import Derived.BigQuiet
import Derived.RegionTactic
namespace Go.Proofs.Ytfnpjcfaabbejaa
open Go.RowKit Go.Foldp Go.Colm Go.Wirep
set_option linter.unusedVariables false

/-- The getter at block gb: the bytes, where it is, where this part began, where the name ends (0: not known), its labels: a row of its own, from block B on. -/
def GetAt (gb B : Nat) (A : Option Addr) (cb : Nat) (b : List UInt8) (at_ begin_ next : Nat) (v : Value) (l : List (List UInt8)) (w : World) : Prop :=
  Whole w gb 49 #[.slice A b.length cb, .int .i64 (at_ : Int), .int .i64 (begin_ : Int), .int .i64 (next : Int), v] ∧ w.ownsRow B 9 1 v l.length (labV l)
theorem GetAt.far {gb B : Nat} {A : Option Addr} {cb : Nat} {b : List UInt8} {at_ begin_ next : Nat} {v : Value} {l : List (List UInt8)} {w : World} (h : GetAt gb B A cb b at_ begin_ next v l w) : v.ownBlock ≠ some gb :=
  Lib.ownBlock_ne h.2 h.1 (by decide)
theorem own_kept {S : Nat → Prop} {w w' : World} {base : Nat} {e : TypeId} {size : Nat} {v : Value} {n : Nat} {xs : List Value} (hk : Kept S w w') (h : w.ownsRow base e size v n xs) (hs : ∀ k, v.ownBlock = some k → ¬ S k) : w'.ownsRow base e size v n xs := by
  refine ⟨h.1, ?_⟩
  rcases h.2 with h0 | ⟨g, cap, cur, rfl, hb, hg, rest⟩
  · exact .inl h0
  · refine .inr ⟨g, cap, cur, rfl, hb, (hk.block g ?_ (hs g rfl)).trans hg, rest⟩
    exact Whole.lt (t := e) (cs := cur) hg
theorem GetAt.put {gb B : Nat} {A : Option Addr} {cb : Nat} {b : List UInt8} {at_ begin_ next at' begin' next' : Nat} {v : Value} {l : List (List UInt8)} {w w' : World} (h : GetAt gb B A cb b at_ begin_ next v l w) (k : Kept (fun j => j = gb) w w')
    (hw : Whole w' gb 49 #[.slice A b.length cb, .int .i64 (at' : Int), .int .i64 (begin' : Int), .int .i64 (next' : Int), v]) : GetAt gb B A cb b at' begin' next' v l w' :=
  ⟨hw, own_kept k h.2 fun j hj e => h.far (by rw [hj, e])⟩
theorem RowV.kept {S : Nat → Prop} {w w' : World} {A : Option Addr} {vs : List Value} (hk : Kept S w w') (h : RowV w A vs) (hs : ∀ a, A = some a → ¬ S a.block) : RowV w' A vs := fun i v hv => by
  obtain ⟨b, off, rfl, hc⟩ := h i v hv
  have h2 := hs ⟨b, off, none⟩ rfl
  exact ⟨b, off, rfl, hk.cell hc h2⟩

set_option maxHeartbeats 800000 in
theorem behind_any (gb B : Nat) (A : Option Addr) (cb : Nat) (b : List UInt8) (at_ begin_ next n : Nat) (v : Value) (l : List (List UInt8)) (w : World) (h : GetAt gb B A cb b at_ begin_ next v l w) (ha : at_ < 1099511627776) (hn : n < 1000) :
    Calls Try.prog 18 #[.pointer (some ⟨gb, 0, none⟩), .int .i64 (n : Int)] w fun e w' => e = .returned (.tuple #[]) ∧ GetAt gb B A cb b at_ begin_ (if next = 0 then at_ + n else next) v l w' ∧ Kept (fun j => j = gb) w w' := by
  have c1 : w.cell? ⟨gb, 1, none⟩ = some (.int .i64 (at_ : Int)) := h.1.cell 1
  have c3 : w.cell? ⟨gb, 3, none⟩ = some (.int .i64 (next : Int)) := h.1.cell 3
  have f3 := h.1.frozen 3
  have H := Lib.hid h
  clear h
  by_cases hz : next = 0
  · subst hz
    go_enter Try.func18, Try.ntmps18
    go_wp2_with fail
    go_end0
    have kx : Kept (fun j => j = gb) w (w.setCell ⟨gb, 3, none⟩ (.int .i64 ((at_ : Int) + n))) := (Kept.refl (fun j => j = gb) w).setCell (p := ⟨gb, 3, none⟩) (.inl rfl) _
    refine ⟨rfl, H.out.put kx ?_, kx⟩
    exact H.out.1.put 3 _
  · have hzi : ((next : Int) == 0) = false := by rw [beq_eq_false_iff_ne]; omega
    go_enter Try.func18, Try.ntmps18
    go_wp2_with fail
    go_end0
    exact ⟨rfl, H.out, Kept.refl _ _⟩

set_option maxHeartbeats 1000000 in
theorem follow_short (gb B : Nat) (A : Option Addr) (cb : Nat) (b : List UInt8) (at_ begin_ next : Nat) (v : Value) (l : List (List UInt8)) (w : World) (h : GetAt gb B A cb b at_ begin_ next v l w) (hb : b.length < 1099511627776) (ha : at_ < b.length) (h2 : ¬ at_ + 1 < b.length) :
    Calls Try.prog 19 #[.pointer (some ⟨gb, 0, none⟩)] w fun e w' => e = .returned (.int .i64 3) ∧ Kept (fun j => j = gb) w w' := by
  have c0 : w.cell? ⟨gb, 0, none⟩ = some (.slice A b.length cb) := h.1.cell 0
  have c1 : w.cell? ⟨gb, 1, none⟩ = some (.int .i64 (at_ : Int)) := h.1.cell 1
  have hx : (b.length : Int) - at_ < 2 := by omega
  have H := Lib.hid h
  clear h
  go_enter Try.func19, Try.ntmps19
  go_wp2_with fail
  go_quiet (fail)
  go_wp2_with fail
  go_ret
  exact ⟨rfl, (Kept.refl _ _).drewN _⟩

set_option maxHeartbeats 2000000 in
theorem follow_far (gb B : Nat) (A : Option Addr) (cb : Nat) (b : List UInt8) (at_ begin_ next : Nat) (v : Value) (l : List (List UInt8)) (w : World) (h : GetAt gb B A cb b at_ begin_ next v l w) (hr : RowV w A (bytesV b)) (hb : b.length < 1099511627776) (hbe : begin_ < 1099511627776) (ha : at_ < b.length) (h1 : 192 ≤ b[at_].toNat) (h2 : at_ + 1 < b.length)
    (h3 : ¬ (b[at_].toNat - 192) * 256 + b[at_ + 1].toNat < begin_) :
    Calls Try.prog 19 #[.pointer (some ⟨gb, 0, none⟩)] w fun e w' => e = .returned (.int .i64 4) ∧ Kept (fun j => j = gb) w w' := by
  have c0 : w.cell? ⟨gb, 0, none⟩ = some (.slice A b.length cb) := h.1.cell 0
  have c1 : w.cell? ⟨gb, 1, none⟩ = some (.int .i64 (at_ : Int)) := h.1.cell 1
  have c2 : w.cell? ⟨gb, 2, none⟩ = some (.int .i64 (begin_ : Int)) := h.1.cell 2
  obtain ⟨ba, off, rfl, x0⟩ := hr.byte ha
  obtain ⟨ba', off', e', x1⟩ := hr.byte h2
  cases e'
  have hx : ¬ (b.length : Int) - at_ < 2 := by omega
  have y0 := byte_range b[at_]
  have y1 := byte_range b[at_ + 1]
  have h1i : (192 : Int) ≤ (b[at_].toNat : Int) := by omega
  have h3i : ¬ ((b[at_].toNat : Int) - 192) * 256 + (b[at_ + 1].toNat : Int) < begin_ := by omega
  have H := Lib.hid h
  obtain ⟨n0, hn0⟩ : ∃ n : Int, n = (b[at_].toNat : Int) := ⟨_, rfl⟩
  obtain ⟨n1, hn1⟩ : ∃ n : Int, n = (b[at_ + 1].toNat : Int) := ⟨_, rfl⟩
  rw [← hn0] at x0 y0 h1i h3i
  rw [← hn1] at x1 y1 h3i
  clear h hr h1 h3 hn0 hn1
  go_enter Try.func19, Try.ntmps19
  go_wp2_with fail
  go_quiet (fail)
  go_wp2_with fail
  go_quiet (fail)
  go_wp2_with fail
  go_ret
  exact ⟨rfl, (Kept.refl _ _).drewN _⟩

set_option maxHeartbeats 2000000 in
theorem follow_to (gb B : Nat) (A : Option Addr) (cb : Nat) (b : List UInt8) (at_ begin_ next : Nat) (v : Value) (l : List (List UInt8)) (w : World) (h : GetAt gb B A cb b at_ begin_ next v l w) (hr : RowV w A (bytesV b)) (hb : b.length < 1099511627776) (hbe : begin_ < 1099511627776) (ha : at_ < b.length) (h1 : 192 ≤ b[at_].toNat) (h2 : at_ + 1 < b.length)
    (to : Nat) (hto : (b[at_].toNat - 192) * 256 + b[at_ + 1].toNat = to) (h3 : to < begin_) :
    Calls Try.prog 19 #[.pointer (some ⟨gb, 0, none⟩)] w fun e w' => e = .returned (.int .i64 0) ∧ GetAt gb B (A) cb b to to (if next = 0 then at_ + 2 else next) v l w' ∧ Kept (fun j => j = gb) w w' := by
  have c0 : w.cell? ⟨gb, 0, none⟩ = some (.slice A b.length cb) := h.1.cell 0
  have c1 : w.cell? ⟨gb, 1, none⟩ = some (.int .i64 (at_ : Int)) := h.1.cell 1
  have c2 : w.cell? ⟨gb, 2, none⟩ = some (.int .i64 (begin_ : Int)) := h.1.cell 2
  obtain ⟨ba, off, rfl, x0⟩ := hr.byte ha
  obtain ⟨ba', off', e', x1⟩ := hr.byte h2
  cases e'
  have hx : ¬ (b.length : Int) - at_ < 2 := by omega
  have y0 := byte_range b[at_]
  have y1 := byte_range b[at_ + 1]
  have h1i : (192 : Int) ≤ (b[at_].toNat : Int) := by omega
  have h3i : ((b[at_].toNat : Int) - 192) * 256 + (b[at_ + 1].toNat : Int) = (to : Int) := by omega
  have h4i : (to : Int) < begin_ := by omega
  have H := Lib.hid h
  obtain ⟨n0, hn0⟩ : ∃ n : Int, n = (b[at_].toNat : Int) := ⟨_, rfl⟩
  obtain ⟨n1, hn1⟩ : ∃ n : Int, n = (b[at_ + 1].toNat : Int) := ⟨_, rfl⟩
  rw [← hn0] at x0 y0 h1i h3i
  rw [← hn1] at x1 y1 h3i
  clear h hr h1 h3 hto hn0 hn1
  obtain ⟨nx, hnx⟩ : ∃ nx, nx = (if next = 0 then at_ + 2 else next) := ⟨_, rfl⟩
  rw [← hnx]
  have HNX := Lib.hid hnx
  clear hnx
  have hgq : ∀ n, GetAt gb B (some ⟨ba, off, none⟩) cb b at_ begin_ next v l (w.drewN n) := fun n => H.out
  have HGQ := Lib.hid hgq
  clear hgq
  go_enter Try.func19, Try.ntmps19
  go_wp2_with fail
  go_quiet (fail)
  go_wp2_with fail
  go_quiet (fail)
  go_wp2_with fail
  refine (behind_any gb B _ cb b at_ begin_ next 2 v l _ (HGQ.out _) (by omega) (by omega)).mono ?_
  rintro e w2 ⟨rfl, hg2, hk2⟩
  rw [← HNX.out] at hg2
  have d1 : w2.cell? ⟨gb, 1, none⟩ = some (.int .i64 (at_ : Int)) := hg2.1.cell 1
  have d2 : w2.cell? ⟨gb, 2, none⟩ = some (.int .i64 (begin_ : Int)) := hg2.1.cell 2
  have f1 := hg2.1.frozen 1
  have f2 := hg2.1.frozen 2
  have HG2 := Lib.hid hg2
  have HK2 := Lib.hid hk2
  clear hg2 hk2
  go_wp2_with fail
  go_ret
  have kx : Kept (fun j => j = gb) w2 ((w2.setCell ⟨gb, 1, none⟩ (.int .i64 (to : Int))).setCell ⟨gb, 2, none⟩ (.int .i64 (to : Int))) := ((Kept.refl (fun j => j = gb) w2).setCell (p := ⟨gb, 1, none⟩) (.inl rfl) _).setCell (p := ⟨gb, 2, none⟩) (.inl rfl) _
  exact ⟨rfl, HG2.out.put kx ((HG2.out.1.put 1 _).put 2 _), (((Kept.refl (fun j => j = gb) w).drewN _).trans HK2.out).trans kx⟩

end Go.Proofs.Ytfnpjcfaabbejaa
