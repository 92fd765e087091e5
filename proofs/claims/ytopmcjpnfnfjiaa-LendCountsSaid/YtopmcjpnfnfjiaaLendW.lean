/-
  Play of steps that given has made, and a fresh tale, in the words that the laws of layer lend go on with. At most 200 steps.
-/
import Derived.Test.YtopmcjpnfnfjiaaLendU
import Derived.Test.YtopmcjpnfnfjiaaLendQ
import Derived.Test.YtopmcjpnfnfjiaaLendR
import Derived.Test.YtopmcjpnfnfjiaaLendV
namespace Go.Colm
open Go.RowKit
theorem RowV.kept {S : Nat → Prop} {w w' : World} {A : Option Addr} {vs : List Value} (hk : Kept S w w') (h : RowV w A vs) (hs : ∀ a, A = some a → ¬ S a.block) : RowV w' A vs := fun i v hv => by
  obtain ⟨b, off, rfl, hc⟩ := h i v hv
  have h2 := hs ⟨b, off, none⟩ rfl
  exact ⟨b, off, rfl, hk.cell hc h2⟩
end Go.Colm
namespace Go.Proofs.Ytopmcjpnfnfjiaa
open Go.RowKit Go.Colm Go.Lendp
set_option linter.unusedVariables false

theorem own_row2 {w : World} {base : Nat} {e : TypeId} {v : Value} {n : Nat} {xs : List Value} (h : w.ownsRow base e 1 v n xs) : ∃ A c, v = .slice A n c ∧ RowV w A xs ∧ ∀ a, A = some a → base ≤ a.block ∧ a.block < w.heap.size := by
  obtain ⟨A, c, e1, hr⟩ := own_row h
  refine ⟨A, c, e1, hr, ?_⟩
  rintro a rfl
  subst e1
  rcases h.2 with ⟨h0, _⟩ | ⟨g, cap, cur, hv, hb, hg, _⟩
  · cases h0
  · cases hv
    exact ⟨hb, Whole.lt (t := e) (cs := cur) hg⟩

/-- What Play hands out, and what it leaves. -/
def Played (bp : Option Nat) (d m : Nat) (r : Came) (w : World) (A : Option Addr) (w' : World) : Prop :=
  RowV w' A (intsV r.1) ∧ (∀ a, A = some a → w.heap.size ≤ a.block ∧ a.block < w'.heap.size) ∧ Book bp w' d (max m r.2.1) ∧ Kept (lendS bp) w w'

theorem play_pack {bp : Option Nat} {d m c' : Nat} {l : List Stp} {A' : Option Addr} {B : Nat} {w2 : World} (hb : Book bp w2 d m) (hbl : ∀ b, bp = some b → b < B) (hs : StpsAt (fun k => B ≤ k) w2 A' 0 l) (hc : cntL l < 1000) (hd : d ≤ 1) :
    Calls Try.prog 11 #[bptr bp, .slice A' l.length c'] w2 fun e w' => ∃ A3 c3, e = .returned (.agg #[.slice A3 (doL bp.isNone d 1 l).1.length c3, .int .i64 ((doL bp.isNone d 1 l).2.2.getD 0), .bool (doL bp.isNone d 1 l).2.2.isSome]) ∧
      Played bp d m (doL bp.isNone d 1 l) w2 A3 w' := by
  refine (play_any (N := fun k => B ≤ k ∧ k < w2.heap.size) bp d m A' c' l w2 hb (hs.imp fun k h1 h2 => ⟨h1, h2⟩) (fun k hk => ⟨hk.2, fun e => ?_⟩) (by omega) hd).mono ?_
  · have := hbl _ e
    omega
  · rintro e w' ⟨v', rfl, hrow, hbk, hk⟩
    obtain ⟨A, c, rfl, hr, ha⟩ := own_row2 hrow
    exact ⟨A, c, rfl, hr, ha, hbk, hk⟩

theorem given_pack {N : Nat → Prop} {A : Option Addr} {cp : Nat} {l : List Stp} {W w1 : World} (hs : StpsAt N W A 0 l) (hb : Kept (fun _ => False) W w1) (hc : cntL l < 1000) :
    Calls Try.prog 12 #[.slice A l.length cp] w1 fun e w' => ∃ A' c', e = .returned (.slice A' l.length c') ∧ StpsAt (fun k => w1.heap.size ≤ k) w' A' 0 l ∧ Below w1.heap.size w1 w' :=
  given_any 1000 l hc (by omega) N A cp w1 (hs.kept hb fun _ _ => id)

/-- A fresh tale in block tb is told; what lay below is as it was. -/
theorem tale_pack {N : Nat → Prop} {A : Option Addr} {cp tb : Nat} {l : List Stp} {W w5 : World} (hs : StpsAt N W A 0 l) (hb : Below W.heap.size W w5) (htb : W.heap.size ≤ tb) (hc : cntL l < 1000) (ht : Whole w5 tb 36 #[.slice none 0 0, .int .i64 0, .bool false, .int .i64 0]) :
    Calls Try.prog 13 #[.pointer (some ⟨tb, 0, none⟩), .slice A l.length cp, .int .i64 0, .int .i64 1] w5 fun e w' => e = .returned (.tuple #[]) ∧
      ∃ A3 c3, RowV w' A3 (intsV (doL false 0 1 l).1) ∧ Whole w' tb 36 #[.slice A3 (doL false 0 1 l).1.length c3, .int .i64 ((doL false 0 1 l).2.2.getD 0), .bool (doL false 0 1 l).2.2.isSome, .int .i64 ((doL false 0 1 l).2.1 : Nat)] ∧ Kept (fun k => k = tb) w5 w' := by
  have hok : TaleOK (fun k => k < W.heap.size) tb W.heap.size l := tale_any htb (fun _ h => h) 1000 l hc
  refine (hok (.slice none 0 0) [] 0 0 A cp 1 w5 ⟨ht, own_nil _ _ _ _⟩ ((hs.imp fun k _ h => h).kept (Kept.below hb (fun _ => False)) fun _ _ => id) (by simp; omega) (by omega) (by omega)).mono ?_
  rintro e w' ⟨rfl, v', ⟨h1, h2⟩, h3, _⟩
  obtain ⟨A3, c3, rfl, hr, _⟩ := own_row2 h2
  refine ⟨rfl, A3, c3, hr, ?_, h3.mono fun k _ h => ?_⟩
  · rw [Nat.zero_max] at h1
    exact h1
  · rcases h with h | h
    · exact h
    · simp [Value.ownBlock] at h

end Go.Proofs.Ytopmcjpnfnfjiaa
