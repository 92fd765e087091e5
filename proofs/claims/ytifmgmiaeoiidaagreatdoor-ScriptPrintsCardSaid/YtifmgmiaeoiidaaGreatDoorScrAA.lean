/-
  The walk of layer script's reader.steps. Fewer than 2^32 lines of fewer than 2^31 bytes.
-/
import Derived.Test.YtifmgmiaeoiidaaGreatDoorScrK
import Derived.Test.YtifmgmiaeoiidaaGreatDoorScrL
import Derived.ScopeJumps
import Derived.WalkMore
namespace Go.Proofs.YtifmgmiaeoiidaaGreatDoor
open Go.RowKit Go.Colm Go.Scrp
set_option linter.unusedVariables false

/-- What comes of reading steps. -/
def ReadIt (L : List (List UInt8)) (f deep k rb : Nat) (LA : Option Addr) (Lc : Nat) (w : World) (e : Ending) (w' : World) : Prop :=
  ∃ (A : Option Addr) (n c k' b : Nat), e = .returned (.slice A n c) ∧ Kept (fun j => j = rb) w w' ∧ Whole w' rb 78 (rdV LA L.length Lc k' b) ∧ k' + deep ≤ L.length + 21 ∧
    (∀ b', stp L f deep k [] = .bad b' → b = b') ∧ (∀ out k2, stp L f deep k [] = .ok out k2 → b = 0 ∧ k' = k2 ∧ n = out.length ∧ (n ≤ c ∧ c ≤ maxLen) ∧ OpdsAt (fun j => w.heap.size ≤ j) w' A 0 out)
def ReadOK (L : List (List UInt8)) (f : Nat) : Prop :=
  ∀ (deep k rb : Nat) (LA : Option Addr) (Lc : Nat) (w : World), Env w → Whole w rb 78 (rdV LA L.length Lc k 0) → RowN (fun j => j ≠ rb) w LA (txtV L) → 1 ≤ deep → deep ≤ 21 → k ≤ L.length → L.length - k < f → L.length ≤ 4294967296 → (∀ x ∈ L, x.length ≤ 2147483648) →
    (∀ W, Kept (fun j => j = rb) w W → Env W) →
    Calls Tryz.prog 33 #[.pointer (some ⟨rb, 0, none⟩), .int .i64 (deep : Int)] w (ReadIt L f deep k rb LA Lc w)

/-- What the loop carries: v holds what was read. -/
structure RL (L : List (List UInt8)) (f0 deep k0 rb : Nat) (LA : Option Addr) (Lc : Nat) (w : World) (f k : Nat) (v : Value) (out : List Opd) (wr : World) : Prop where
  eq : stp L f0 deep k0 [] = stp L f deep k out
  fuel : L.length - k < f ∧ f ≤ f0
  kle : k ≤ L.length
  kept : Kept (fun j => j = rb) w wr
  rd : Whole wr rb 78 (rdV LA L.length Lc k 0)
  many : out.length ≤ k
  row : ∃ vs, wr.ownsRow w.heap.size 48 9 v out.length vs ∧ OpdsV (fun j => w.heap.size ≤ j ∧ v.ownBlock ≠ some j) wr out vs
theorem RL.drewN {L : List (List UInt8)} {f0 deep k0 rb : Nat} {LA : Option Addr} {Lc : Nat} {w : World} {f k : Nat} {v : Value} {out : List Opd} {wr : World} (h : RL L f0 deep k0 rb LA Lc w f k v out wr) (n : Nat) : RL L f0 deep k0 rb LA Lc w f k v out (wr.drewN n) :=
  ⟨h.eq, h.fuel, h.kle, h.kept.drewN n, h.rd, h.many, (by
    obtain ⟨vs, h1, h2⟩ := h.row
    exact ⟨vs, own_drewN h1 n, OpdsV.turn (w := wr) (w' := wr.drewN n) (fun b off u hb hc => ⟨hb, hc⟩) h2⟩)⟩
theorem ReadIt.no {L : List (List UInt8)} {f deep k rb : Nat} {LA : Option Addr} {Lc : Nat} {w w' : World} {A : Option Addr} {n c k' b : Nat} (h : stp L f deep k [] = .bad b) (hk : Kept (fun j => j = rb) w w') (hr : Whole w' rb 78 (rdV LA L.length Lc k' b)) (hd : k' + deep ≤ L.length + 21) :
    ReadIt L f deep k rb LA Lc w (.returned (.slice A n c)) w' := ⟨A, n, c, k', b, rfl, hk, hr, hd, fun b' e => (by rw [h] at e; cases e; rfl), fun out k2 e => (by rw [h] at e; cases e)⟩
theorem RL.yes {L : List (List UInt8)} {f0 deep k0 rb : Nat} {LA : Option Addr} {Lc : Nat} {w : World} {f k : Nat} {A : Option Addr} {n c : Nat} {out : List Opd} {wr : World} (h : RL L f0 deep k0 rb LA Lc w f k (.slice A n c) out wr) (hs : stp L f deep k out = .ok out k) (hd : deep ≤ 21) :
    ReadIt L f0 deep k0 rb LA Lc w (.returned (.slice A n c)) wr := by
  obtain ⟨vs, h1, h2⟩ := h.row
  obtain ⟨A', c', e, h3, h4⟩ := own_opds h1 rfl h2
  cases e
  have hk := h.kle
  exact ⟨_, _, _, k, 0, rfl, h.kept, h.rd, by omega, fun b' e => (by rw [h.eq, hs] at e; cases e), fun o k2 e => (by rw [h.eq, hs] at e; cases e; exact ⟨rfl, rfl, rfl, h3, h4⟩)⟩
theorem RL.form {L : List (List UInt8)} {f0 deep k0 rb : Nat} {LA : Option Addr} {Lc : Nat} {w : World} {f k : Nat} {v : Value} {out : List Opd} {wr : World} (h : RL L f0 deep k0 rb LA Lc w f k v out wr) : ∃ A c, v = .slice A out.length c := by
  obtain ⟨vs, h1, h2⟩ := h.row
  obtain ⟨A', c', e, _⟩ := own_opds h1 rfl h2
  exact ⟨A', c', e⟩
theorem ok_mk {k : Int} {nm : List UInt8} {t : Nat} {r : List (List UInt8)} {l n : Nat} {h c : Int} (h0 : -9223372036854775808 ≤ k ∧ k ≤ 9223372036854775807) (h1 : t < 65536) (h2 : l < 18446744073709551616) (h3 : n < 18446744073709551616) (h4 : -9223372036854775808 ≤ h ∧ h ≤ 9223372036854775807) (h5 : -9223372036854775808 ≤ c ∧ c ≤ 9223372036854775807) :
    (Hd.mk k nm t r l n h c).Ok := ⟨h0, h1, h2, h3, h4, h5⟩
theorem op_one (a b c d : Int) (s : ByteArray) (R S : Value) (hR : R.oneCell' = true) (hS : S.oneCell' = true) (f g : Int) : ∀ u ∈ (#[.int .i64 a, .string s, .int .u16 b, R, .int .u64 c, .int .u64 d, S, .int .i64 f, .int .i64 g] : Array Value).toList, u.oneCell' = true := fun u hu => by
  have hu : u ∈ ([.int .i64 a, .string s, .int .u16 b, R, .int .u64 c, .int .u64 d, S, .int .i64 f, .int .i64 g] : List Value) := hu
  rcases List.mem_cons.1 hu with rfl | hu
  · rfl
  rcases List.mem_cons.1 hu with rfl | hu
  · rfl
  rcases List.mem_cons.1 hu with rfl | hu
  · rfl
  rcases List.mem_cons.1 hu with rfl | hu
  · exact hR
  rcases List.mem_cons.1 hu with rfl | hu
  · rfl
  rcases List.mem_cons.1 hu with rfl | hu
  · rfl
  rcases List.mem_cons.1 hu with rfl | hu
  · exact hS
  rcases List.mem_cons.1 hu with rfl | hu
  · rfl
  rcases List.mem_cons.1 hu with rfl | hu
  · rfl
  cases hu
theorem op_ok {ws : List (List UInt8)} {h : Hd} (e : opL ws = some h) : h.Ok := by
  have hn : ∀ {s : List UInt8} {u : Nat}, numL s mostL = some u → u < 18446744073709551616 := fun h => by
    have := (num_v h).2.1
    unfold mostL at this
    omega
  have ht : ∀ {s : List UInt8} {u : Nat}, numL s 65535 = some u → u < 65536 := fun h => by
    have := (num_v h).2.1
    omega
  have hk : ∀ {k : List UInt8 × Nat}, keyO ws = some k → k.2 < 65536 := fun {k} h => by
    unfold keyO at h
    split at h
    · rename_i h2
      cases h
      exact ht h2
    · cases h
  have hh : ∀ s, -9223372036854775808 ≤ howL s ∧ howL s ≤ 9223372036854775807 := fun s => by
    unfold howL
    split <;> omega
  unfold opL at e
  split at e
  · split at e
    · rename_i h1 h2 h3
      cases e
      exact ok_mk (by omega) (hk h1) (hn h2) (by omega) (by omega) (by omega)
    · cases e
  split at e
  · obtain ⟨k, h1, rfl⟩ := Option.map_eq_some_iff.1 e
    exact ok_mk (by omega) (hk h1) (by omega) (by omega) (by omega) (by omega)
  split at e
  · split at e
    · split at e
      · rename_i h1 h2 h3
        cases e
        exact ok_mk (by omega) (hk h1) (by omega) (by omega) (hh _) (code_v h2).2.1
      · cases e
    · cases e
  split at e
  · obtain ⟨k, h1, rfl⟩ := Option.map_eq_some_iff.1 e
    exact ok_mk (by omega) (hk h1) (by omega) (by omega) (by omega) (by omega)
  split at e
  · obtain ⟨k, h1, rfl⟩ := Option.map_eq_some_iff.1 e
    exact ok_mk (by omega) (by omega) (by omega) (hn h1) (by omega) (by omega)
  split at e
  · obtain ⟨k, h1, rfl⟩ := Option.map_eq_some_iff.1 e
    exact ok_mk (by omega) (by omega) (by omega) (hn h1) (by omega) (by omega)
  split at e
  · cases e
    exact ok_mk (by omega) (by omega) (by omega) (by omega) (by omega) (by omega)
  split at e
  · cases e
    exact ok_mk (by omega) (by omega) (by omega) (by omega) (by omega) (by omega)
  · cases e
abbrev opC (h : Hd) (R S : Value) : Array Value := #[.int .i64 h.kind, .string ⟨h.name.toArray⟩, .int .u16 (h.typ : Int), R, .int .u64 (h.life : Int), .int .u64 (h.n : Int), S, .int .i64 h.how, .int .i64 h.code]
theorem RL.app {L : List (List UInt8)} {f0 deep k0 rb : Nat} {LA : Option Addr} {Lc : Nat} {w : World} {f k k' : Nat} {v v' : Value} {out : List Opd} {wr W w3 : World} {d : Hd} {sub : List Opd} {RA SA : Option Addr} {rc sc : Nat} {vs : List Value}
    (h : RL L f0 deep k0 rb LA Lc w (f + 1) k v out wr) (heq : stp L (f + 1) deep k out = stp L f deep k' (out ++ [.mk d sub])) (hk : k < k' ∧ k' ≤ L.length) (hW : Kept (fun j => j = rb) wr W) (hrd : Whole W rb 78 (rdV LA L.length Lc k' 0)) (hok : d.Ok)
    (h1 : d.recs.length ≤ rc ∧ rc ≤ maxLen) (h2 : sub.length ≤ sc ∧ sc ≤ maxLen) (h3 : RecsAt (fun j => wr.heap.size ≤ j) W RA d.recs) (h4 : OpdsAt (fun j => wr.heap.size ≤ j) W SA 0 sub) (hrb : rb < w.heap.size)
    (hvs : wr.ownsRow w.heap.size 48 9 v out.length vs) (hrv : OpdsV (fun j => w.heap.size ≤ j ∧ v.ownBlock ≠ some j) wr out vs)
    (hown : w3.ownsRow w.heap.size 48 9 v' (out.length + 1) (vs ++ (opC d (.slice RA d.recs.length rc) (.slice SA sub.length sc)).toList)) (hg : (W.alloc (.cells (opC d (.slice RA d.recs.length rc) (.slice SA sub.length sc)) 48)).grownBy w3 v.ownBlock)
    (hat : v'.ownBlock = v.ownBlock ∨ v'.ownBlock = some (W.alloc (.cells (opC d (.slice RA d.recs.length rc) (.slice SA sub.length sc)) 48)).heap.size) :
    RL L f0 deep k0 rb LA Lc w f k' v' (out ++ [.mk d sub]) w3 := by
  have hvl : ∀ j, v.ownBlock = some j → j < wr.heap.size := fun j e => own_at hvs e
  have hvf : ∀ j, v.ownBlock = some j → w.heap.size ≤ j := fun j e => own_from hvs e
  have hsz := hW.size
  have hsw := h.kept.size
  have hka : Kept (fun _ => False) W (W.alloc (.cells (opC d (.slice RA d.recs.length rc) (.slice SA sub.length sc)) 48)) := (Kept.refl _ _).alloc _
  have hk3 := Kept.grown hg
  have hne : ∀ j, j < W.heap.size → v.ownBlock ≠ some j → v'.ownBlock ≠ some j := by
    intro j hj h1 h2
    rcases hat with e | e
    · exact h1 (e.symm.trans h2)
    · rw [e] at h2
      have h3 := Option.some.inj h2
      simp at h3
      omega
  have hall : Kept (fun j => j = rb ∨ v.ownBlock = some j) wr w3 := ((hW.mono fun _ _ e => .inl e).trans (hka.mono fun _ _ e => e.elim)).trans (hk3.mono fun _ _ e => .inr e)
  have ho : ∀ j, wr.heap.size ≤ j → v.ownBlock ≠ some j := fun j hj e => by
    have := hvl j e
    omega
  refine ⟨h.eq.trans heq, ⟨by have := h.fuel; omega, by have := h.fuel; omega⟩, hk.2, ?_, ?_, by have := h.many; rw [List.length_append]; simp; omega, ⟨vs ++ (opC d (.slice RA d.recs.length rc) (.slice SA sub.length sc)).toList, by rw [List.length_append]; exact hown, OpdsV.snoc hok h1 h2 ?_ ?_ ?_⟩⟩
  · exact ⟨hall.os.trans h.kept.os, hall.tape.trans h.kept.tape, hall.output.trans h.kept.output, Nat.le_trans h.kept.size hall.size, fun j hj hjr => (hall.block j (by omega) (by
      rintro (e | e)
      · exact hjr e
      · have := hvf j e
        omega)).trans (h.kept.block j hj hjr)⟩
  · exact hk3.whole (hka.whole hrd id) (fun e => by
      have := hvf rb e
      omega)
  · exact RecsAt.turn (fun j i u hj hc => ⟨⟨by omega, hne j (lt_of_cell (a := ⟨j, i, none⟩) hc) (ho j hj)⟩, hk3.cell (hka.cell hc id) (ho j hj)⟩) h3
  · exact OpdsAt.turn (fun j i u hj hc => ⟨⟨by omega, hne j (lt_of_cell (a := ⟨j, i, none⟩) hc) (ho j hj)⟩, hk3.cell (hka.cell hc id) (ho j hj)⟩) SA 0 sub h4
  · refine OpdsV.turn ?_ hrv
    rintro j i u ⟨hj1, hj2⟩ hc
    have hjl := lt_of_cell (a := ⟨j, i, none⟩) hc
    dsimp only at hjl
    exact ⟨⟨hj1, hne j (by omega) hj2⟩, hall.cell hc (by
      rintro (e | e)
      · have e : j = rb := e
        omega
      · exact hj2 e)⟩
theorem RL.len {L : List (List UInt8)} {f0 deep k0 rb : Nat} {LA : Option Addr} {Lc : Nat} {w : World} {f k : Nat} {A : Option Addr} {c : Nat} {out : List Opd} {o : Opd} {wr : World} (h : RL L f0 deep k0 rb LA Lc w f k (.slice A (out ++ [o]).length c) (out ++ [o]) wr) : RL L f0 deep k0 rb LA Lc w f k (.slice A (out.length + 1) c) (out ++ [o]) wr := by
  rw [show (out ++ [o]).length = out.length + 1 by simp] at h
  exact h
theorem view_rd {w10 : World} {rb ob : Nat} {LA : Option Addr} {n c k b : Nat} (h : Whole w10 rb 78 (rdV LA n c k b)) (hne : ob ≠ rb) (v : Value) : Whole ((w10.setCell ⟨ob, 6, none⟩ v).setCell ⟨rb, 1, none⟩ (.int .i64 ((k : Int) + 1))) rb 78 (rdV LA n c (k + 1) b) :=
  (((Kept.refl (fun j => j = ob) w10).setCell (p := ⟨ob, 6, none⟩) (.inl rfl) v).whole h (fun e => hne e.symm)).put 1 _
theorem view_kept {w w3 w10 : World} {rb ob : Nat} (h1 : Kept (fun j => j = rb) w w3) (h2 : Kept (fun j => j = rb) w3 w10) (ho : w3.heap.size ≤ ob) (u v : Value) : Kept (fun j => j = rb) w ((w10.setCell ⟨ob, 6, none⟩ v).setCell ⟨rb, 1, none⟩ u) :=
  ((h1.trans h2).setCell (p := ⟨ob, 6, none⟩) (.inr (Nat.le_trans h1.size ho)) v).setCell (p := ⟨rb, 1, none⟩) (.inl rfl) u
theorem max_two (d : Int) (h : 1 ≤ d) : max (d - 2) 0 = (((d.toNat - 2 : Nat)) : Int) := by omega

/-- A scope in which the run jumps back to one label, the way to it walked apart. -/
theorem wp_scope_once {P : Program} {a : Act} {w : World} {Q : Exit → Act → World → Prop} {c rest : Code} (l : Nat) (J : Act → World → Prop) (μ : Act → World → Nat) (hf : findLabel c l = some (.seq .skip rest))
    (pass : ∀ a w, J a w → rest.wp P (Exit.jump l (fun a' w' => J a' w' ∧ μ a' w' < μ a w) Q) a w)
    (first : (∀ a w, J a w → rest.wp P (Exit.jump l J Q) a w) → c.wp P (Exit.jump l J Q) a w) : (Code.scope c).wp P Q a w :=
  wp_scope_jumps l J μ hf (first fun a w h => wp_mono (pass a w h) fun e a' w' hq => by
    cases e with
    | goto l' => exact ⟨hq.1, hq.2.1⟩
    | _ => exact hq) fun a w h => wp_seq (wp_skip (pass a w h))
/-- Whatever the other slots hold. -/
theorem frame_any {arr : Array Value} {f : (Nat → Value) → Array Value} (h : arr = f (fun i => arr.getD i undef)) : ∃ u, ({ tmps := arr, defers := [] } : Act) = { tmps := f u, defers := [] } := ⟨_, by rw [← h]⟩
/-- Where the reader is. -/
def atOf (rb : Nat) (w : World) : Nat := match w.cell? ⟨rb, 1, none⟩ with | some (.int _ q) => q.toNat | _ => 0
theorem atOf_eq {rb : Nat} {w : World} {LA : Option Addr} {n c k b : Nat} (h : Whole w rb 78 (rdV LA n c k b)) : atOf rb w = k := by
  have := h.cell 1
  unfold atOf
  rw [this]
  simp [rdV]

set_option maxRecDepth 100000 in
set_option maxHeartbeats 16000000 in
theorem read_step {L : List (List UInt8)} {f0 : Nat} (H : ∀ f < f0, ReadOK L f) : ReadOK L f0 := by
  intro deep k0 rb LA Lc w hE hrd hrow hd1 hd21 hk0 hf hLn hLs hEK
  obtain ⟨i0, hi, hz0, hz1, hz2⟩ := info_parts op_info
  obtain ⟨OU, hOU⟩ : ∃ s : ByteArray, s = ⟨(List.replicate (deep - 2) (32 : UInt8)).toArray⟩ := ⟨_, rfl⟩
  obtain ⟨IN, hIN⟩ : ∃ s : ByteArray, s = ⟨(List.replicate (deep - 1) (32 : UInt8)).toArray⟩ := ⟨_, rfl⟩
  have hrep2 : ∀ W, Calls Tryz.prog 50 #[.string ⟨#[32]⟩, .int .i64 ((deep - 2 : Nat) : Int)] W fun e w' => e = .returned (.string OU) ∧ Below W.heap.size W w' := fun W => by
    have h := repeat_any ⟨#[32]⟩ (deep - 2) W (by omega) (by show 1 * (deep - 2) ≤ _; omega)
    refine h.mono ?_
    rintro e w' ⟨rfl, hb'⟩
    rw [hOU, ← repeat_one]
    exact ⟨rfl, hb'⟩
  have hrep1 : ∀ W, Calls Tryz.prog 50 #[.string ⟨#[32]⟩, .int .i64 ((deep : Int) - 1)] W fun e w' => e = .returned (.string IN) ∧ Below W.heap.size W w' := fun W => by
    have h := repeat_any ⟨#[32]⟩ (deep - 1) W (by omega) (by show 1 * (deep - 1) ≤ _; omega)
    rw [show ((deep - 1 : Nat) : Int) = (deep : Int) - 1 by omega] at h
    refine h.mono ?_
    rintro e w' ⟨rfl, hb'⟩
    rw [hIN, ← repeat_one]
    exact ⟨rfl, hb'⟩
  have hmx : max (((deep : Int)) - 2) 0 = ((deep - 2 : Nat) : Int) := by omega
  have HR2 := Lib.hid hrep2
  have HR1 := Lib.hid hrep1
  have HH := Lib.hid H
  have HE := Lib.hid hE
  have HRD := Lib.hid hrd
  have HROW := Lib.hid hrow
  have HEK := Lib.hid hEK
  have HLS := Lib.hid hLs
  have HOU := Lib.hid hOU
  have HIN := Lib.hid hIN
  clear hrep1 hrep2 H hE hrd hrow hEK hLs hOU hIN
  go_enter Tryz.func33, Tryz.ntmps33
  go_wp2_with fail
  refine wp_scope_once 0 (fun a' wr => ∃ (v : Value) (f k : Nat) (out : List Opd), Hid (RL L f0 deep k0 rb LA Lc w f k v out wr) ∧ ∃ (u : Nat → Value), a' = { tmps := #[.pointer (some ⟨rb, 0, none⟩), .int .i64 (deep : Int), u 2, u 3, u 4, v, .string OU, .string IN, u 8, u 9, u 10, u 11, u 12, u 13, u 14, u 15, u 16, u 17, u 18, u 19, u 20, u 21, u 22, u 23, u 24, u 25, u 26, u 27, u 28, u 29, u 30, u 31, u 32, u 33, u 34, u 35, u 36, u 37, u 38, u 39, u 40, u 41, u 42, u 43, u 44, u 45, u 46, u 47, u 48, u 49, u 50, u 51, u 52, u 53, u 54, u 55, u 56, u 57, u 58, u 59, u 60, u 61, u 62, u 63, u 64, u 65, u 66, u 67, u 68, u 69, u 70, u 71, u 72, u 73, u 74, u 75, u 76, u 77, u 78, u 79, u 80, u 81, u 82, u 83, u 84, u 85, u 86, u 87, u 88, u 89, u 90, u 91, u 92, u 93, u 94, u 95, u 96, u 97, u 98, u 99, u 100, u 101, u 102, u 103, u 104, u 105, u 106, u 107, u 108], defers := [] }) (fun _ wr => L.length - atOf rb wr) rfl ?_ ?_
  rotate_left
  · intro hpass
    go_wp2_with fail
    refine (HR2.out _).mono ?_
    rintro e w1 ⟨rfl, hb1⟩
    go_wp2_with fail
    refine (HR1.out _).mono ?_
    rintro e w2 ⟨rfl, hb2⟩
    have HB2 := Lib.hid (below_chain hb1 hb2)
    clear hb1 hb2
    go_wp2_with fail
    go_step3
    rename_i hK
    refine hK _ _ (hpass _ _ ⟨.slice none 0 0, f0, k0, [], Lib.hid ?_, ?_⟩)
    rotate_left
    · exact frame_any rfl
    · exact ⟨rfl, ⟨hf, Nat.le_refl _⟩, hk0, Kept.below HB2.out _, (HB2.out.block _ HRD.out.lt).trans HRD.out, Nat.zero_le _, ⟨[], own_nil _ _ _ _, rfl⟩⟩
  · rintro a' wr ⟨v, f, k, out, HL, u, rfl⟩
    clear HR1 HR2 hmx
    have hrd := HL.out.rd
    have hmu : atOf rb wr = k := atOf_eq hrd
    have HMU := Lib.hid hmu
    obtain ⟨VA, vc, rfl⟩ := HL.out.form
    have hov := over_any rb LA L.length Lc k 0 wr hrd
    have hkle := HL.out.kle
    have hfu := HL.out.fuel
    obtain ⟨f, rfl⟩ : ∃ g, f = g + 1 := ⟨f - 1, by omega⟩
    by_cases hend : k = L.length
    · rw [decide_eq_true hend] at hov
      have HOV := Lib.hid hov
      by_cases hd : 1 < deep
      · have hx : decide ((1 : Int) < (deep : Int)) = true := by
          rw [decide_eq_true_iff]
          omega
        have hst : stp L f0 deep k0 [] = .bad (k + 1) := by rw [HL.out.eq, stp_end (by omega), if_pos hd]
        have HST := Lib.hid hst
        clear hmu hrd hov hst
        go_wp2_with fail
        refine HOV.out.mono ?_
        rintro e w1 ⟨rfl, m1, hw1⟩
        have hL1 := HL.out.drewN m1
        rw [← hw1] at hL1
        have HF := Lib.hid (fail_any rb LA L.length Lc k w1 hL1.rd (by omega))
        have HL1 := Lib.hid hL1
        clear hw1 hL1
        go_wp2_with fail
        refine HF.out.mono ?_
        rintro e w2 ⟨rfl, hr2, hk2⟩
        have HRT : Hid (ReadIt L f0 deep k0 rb LA Lc w (.returned (.slice VA out.length vc)) w2) := Lib.hid (ReadIt.no HST.out (HL1.out.kept.trans hk2) hr2 (by omega))
        clear hr2 hk2
        go_wp2_with fail
        simp only [Exit.jump]
        go_ret
        exact HRT.out
      · have hx : decide ((1 : Int) < (deep : Int)) = false := by
          rw [decide_eq_false_iff_not]
          omega
        have hst : stp L (f + 1) deep k out = .ok out k := by rw [stp_end (by omega), if_neg hd]
        have HST := Lib.hid hst
        clear hmu hrd hov hst
        go_wp2_with fail
        refine HOV.out.mono ?_
        rintro e w1 ⟨rfl, m1, hw1⟩
        have hL1 := HL.out.drewN m1
        rw [← hw1] at hL1
        have HRT : Hid (ReadIt L f0 deep k0 rb LA Lc w (.returned (.slice VA out.length vc)) w1) := Lib.hid (hL1.yes HST.out hd21)
        clear hw1 hL1
        go_wp2_with fail
        simp only [Exit.jump]
        go_ret
        exact HRT.out
    · rw [decide_eq_false hend] at hov
      have HOV := Lib.hid hov
      have hlt : k < L.length := by omega
      have hget : L.getD k [] = L[k] := by rw [List.getD_eq_getElem?_getD, List.getElem?_eq_getElem hlt]; rfl
      obtain ⟨bA, offA, rfl, hnb, hcell⟩ := HROW.out k (.string ⟨L[k].toArray⟩) (by simp [txtV, hlt])
      have hXl := HLS.out _ (List.getElem_mem hlt)
      obtain ⟨s, hs⟩ : ∃ s, s = L[k] := ⟨_, rfl⟩
      rw [← hs] at hget hcell hXl
      obtain ⟨X, hX⟩ : ∃ X : ByteArray, X = ⟨s.toArray⟩ := ⟨_, rfl⟩
      have hsh : (X.toList == (OU ++ ⟨#[125]⟩ : ByteArray).toList) = decide (s = List.replicate (deep - 2) 32 ++ [125]) := by
        rw [hX, HOU.out, show (⟨#[125]⟩ : ByteArray) = ⟨[(125 : UInt8)].toArray⟩ from rfl, str_append, str_beq]
      have hsz : OU.size ≤ 21 := by
        rw [HOU.out, str_size]
        simp
        omega
      rw [← hX] at hcell
      have HC := Lib.hid hcell
      have HX := Lib.hid hX
      have HSH := Lib.hid hsh
      have HG := Lib.hid hget
      clear hs hcell hX hsh hget hmu hrd hov
      go_wp2_with fail
      refine HOV.out.mono ?_
      rintro e w1 ⟨rfl, m1, hw1⟩
      have hL1 := HL.out.drewN m1
      rw [← hw1] at hL1
      have x0 : w1.cell? ⟨rb, 0, none⟩ = some (.slice (some ⟨bA, offA, none⟩) L.length Lc) := hL1.rd.cell 0
      have x1 : w1.cell? ⟨rb, 1, none⟩ = some (.int .i64 (k : Int)) := hL1.rd.cell 1
      have xs : w1.cell? ⟨bA, offA + k, none⟩ = some (.string X) := hL1.kept.cell HC.out hnb
      have HL1 := Lib.hid hL1
      clear hw1 hL1
      go_wp2_with fail
      go_quiet (fail)
      generalize hw2 : w1.drewN nq = w2
      have hL2 := HL1.out.drewN nq
      rw [hw2] at hL2
      have HL2 := Lib.hid hL2
      clear hw2 hL2 x0 x1 xs HL1 HL
      by_cases hshut : shut deep s
      · have hx : decide ((1 : Int) < (deep : Int)) = true := by
          rw [decide_eq_true_iff]
          have := hshut.1
          omega
        have hq : (X.toList == (OU ++ ⟨#[125]⟩ : ByteArray).toList) = true := by rw [HSH.out, decide_eq_true hshut.2]
        have HRT : Hid (ReadIt L f0 deep k0 rb (some ⟨bA, offA, none⟩) Lc w (.returned (.slice VA out.length vc)) w2) := Lib.hid (HL2.out.yes (stp_shut (by omega) (by rw [HG.out]; exact hshut)) hd21)
        clear hshut
        go_wp2_with fail
        simp only [Exit.jump]
        go_ret
        exact HRT.out
      · obtain ⟨wi, hwi⟩ : ∃ q, q = (List.replicate (deep - 1) (32 : UInt8)).isPrefixOf s := ⟨_, rfl⟩
        obtain ⟨cs, hcs⟩ : ∃ q, q = (if wi = true then s.drop (deep - 1) else s) := ⟨_, rfl⟩
        obtain ⟨Y, hY⟩ : ∃ q : ByteArray, q = ⟨cs.toArray⟩ := ⟨_, rfl⟩
        have hcsl : cs.length ≤ s.length := by
          rw [hcs]
          split
          · simp
          · omega
        have hcp := cutprefix_any s (List.replicate (deep - 1) (32 : UInt8)) w2 (by omega) (by simp; omega)
        rw [← HX.out, ← HIN.out, ← hwi, List.length_replicate, ← hcs, ← hY] at hcp
        have hsp := fun W hm => split_parts 32 cs W hm (by omega)
        rw [← hY] at hsp
        obtain ⟨ws, hws⟩ : ∃ q, q = sepL 32 cs := ⟨_, rfl⟩
        rw [← hws] at hsp
        have hws0 : 0 < ws.length := by
          obtain ⟨x, xs, e⟩ := sep_some (d := 32) cs
          rw [hws, e]
          simp
        have hwl : ∀ x ∈ ws, x.length < 4294967281 := fun x hx => by
          have := sep_len (d := 32) cs x (by rw [← hws]; exact hx)
          omega
        have HOPP := Lib.hid fun A n c W E' hn hc hr => op_any ws A n c W E' hws0 hwl hn hc hr
        have hlp : lineP deep s = if 20 < deep then none else if wi = true then opL ws else none := by
          unfold lineP
          rw [← hwi]
          by_cases h20 : 20 < deep
          · rw [if_pos h20, if_pos h20]
          · rw [if_neg h20, if_neg h20]
            by_cases hw : wi = true
            · rw [if_pos hw, if_pos hw, hws, hcs, if_pos hw]
            · rw [if_neg hw, if_neg hw]
        have HCP := Lib.hid hcp
        have HSP := Lib.hid hsp
        have HLP := Lib.hid hlp
        have HNS := Lib.hid hshut
        clear hwi hcs hY hcsl hcp hsp hws hws0 hwl hlp
        have hqq : (decide ((1 : Int) < (deep : Int)) = false) ∨ (decide ((1 : Int) < (deep : Int)) = true ∧ (X.toList == (OU ++ ⟨#[125]⟩ : ByteArray).toList) = false) := by
          by_cases hd : 1 < deep
          · refine .inr ⟨by rw [decide_eq_true_iff]; omega, ?_⟩
            rw [HSH.out, decide_eq_false_iff_not]
            exact fun e => hshut ⟨hd, e⟩
          · exact .inl (by rw [decide_eq_false_iff_not]; omega)
        clear hshut HSH
        have hkey : 1 + 1 = 2 := rfl
        rcases hqq with hx | ⟨hx, hq⟩
        all_goals
          go_wp2_with fail
          refine HCP.out.mono ?_
          rintro e w3 ⟨rfl, rfl⟩
          clear hx
          try clear hq
          go_wp2_with fail
          refine (HSP.out _ (HEK.out _ HL2.out.kept).maxl).mono ?_
          rintro e w4 ⟨A4, c4, rfl, hr4, hc4, hb4⟩
          have HB4 := Lib.hid hb4
          have HOP4 := Lib.hid (HOPP.out A4 ws.length c4 w4 ((HEK.out _ HL2.out.kept).below hb4) rfl hc4 hr4)
          clear hr4 hb4 hc4
          go_wp2_with fail
          refine HOP4.out.mono ?_
          rintro e w5 ⟨d, RA, rn, rc, rfl, hop5, hb5⟩
          have HB5 := Lib.hid (below_chain HB4.out hb5)
          have hsz45 := HB4.out.size
          have hsz55 := HB5.out.size
          have HOP5 := Lib.hid hop5
          clear hop5 hb5
          obtain ⟨ok, hok⟩ : ∃ q, q = (opL ws).isSome := ⟨_, rfl⟩
          rw [← hok]
          have HOK := Lib.hid hok
          clear hok
          have hrbl := HL2.out.rd.lt
          have hR6 : Whole (w5.alloc (.cells (opC d (.slice RA rn rc) (.slice none 0 0)) 48)) rb 78 (rdV (some ⟨bA, offA, none⟩) L.length Lc k 0) := (((HB5.out.alloc HB5.out.size _).block rb hrbl).trans HL2.out.rd)
          have HR6 := Lib.hid hR6
          have HB6 : Hid (Below w3.heap.size w3 (w5.alloc (.cells (opC d (.slice RA rn rc) (.slice none 0 0)) 48))) := Lib.hid (HB5.out.alloc HB5.out.size _)
          by_cases hgood : wi = true ∧ ok = true ∧ deep ≤ 20
          rotate_left
          · have hst : stp L f0 deep k0 [] = .bad (k + 1) := by
              rw [HL2.out.eq, stp_wrong (by omega) (by rw [HG.out]; exact HNS.out)]
              rw [HG.out, HLP.out]
              by_cases h20 : 20 < deep
              · rw [if_pos h20]
              · rw [if_neg h20]
                by_cases hw : wi = true
                · rw [if_pos hw]
                  have : ok = false := by
                    cases ok
                    · rfl
                    · exact absurd ⟨hw, rfl, by omega⟩ hgood
                  rw [this] at HOK
                  exact Option.isNone_iff_eq_none.1 (by rw [← Option.not_isSome, ← HOK.out]; rfl)
                · rw [if_neg hw]
            have HST := Lib.hid hst
            have HF := Lib.hid (fail_any rb (some ⟨bA, offA, none⟩) L.length Lc k _ hR6 (by omega))
            have hor : wi = false ∨ (wi = true ∧ ok = false) ∨ (wi = true ∧ ok = true ∧ decide ((20 : Int) < (deep : Int)) = true) := by
              cases wi
              · exact .inl rfl
              · cases ok
                · exact .inr (.inl ⟨rfl, rfl⟩)
                · refine .inr (.inr ⟨rfl, rfl, ?_⟩)
                  rw [decide_eq_true_iff]
                  have : ¬ deep ≤ 20 := fun h => hgood ⟨rfl, rfl, h⟩
                  omega
            clear hst hR6 hgood
            rcases hor with rfl | ⟨rfl, rfl⟩ | ⟨rfl, rfl, hx20⟩
            all_goals
              go_wp2_with fail
              refine HF.out.mono ?_
              rintro e w7 ⟨rfl, hr7, hk7⟩
              have HRT : Hid (ReadIt L f0 deep k0 rb (some ⟨bA, offA, none⟩) Lc w (.returned (.slice none 0 0)) w7) := Lib.hid (ReadIt.no HST.out ((HL2.out.kept.trans (Kept.below HB6.out _)).trans hk7) hr7 (by omega))
              clear hr7 hk7
              go_wp2_with fail
              simp only [Exit.jump]
              go_ret
              exact HRT.out
          · obtain ⟨rfl, rfl, hd20⟩ := hgood
            have hx20 : decide ((20 : Int) < (deep : Int)) = false := by
              rw [decide_eq_false_iff_not]
              omega
            obtain ⟨d', hd'⟩ := Option.isSome_iff_exists.1 HOK.out.symm
            obtain ⟨rfl, rfl, hrc, hra⟩ := HOP5.out d' hd'
            have hln : lineP deep (L.getD k []) = some d' := by rw [HG.out, HLP.out, if_neg (by omega), if_pos rfl, hd']
            have HOKD := Lib.hid (op_ok hd')
            have HRC := Lib.hid hrc
            have hR7 : Whole ((w5.alloc (.cells (opC d' (.slice RA d'.recs.length rc) (.slice none 0 0)) 48)).setCell ⟨rb, 1, none⟩ (.int .i64 ((k : Int) + 1))) rb 78 (rdV (some ⟨bA, offA, none⟩) L.length Lc (k + 1) 0) := hR6.put 1 _
            have hK7 : Kept (fun j => j = rb) w3 ((w5.alloc (.cells (opC d' (.slice RA d'.recs.length rc) (.slice none 0 0)) 48)).setCell ⟨rb, 1, none⟩ (.int .i64 ((k : Int) + 1))) := (Kept.below HB6.out (fun j => j = rb)).setCell (p := ⟨rb, 1, none⟩) (.inl rfl) _
            have hO7 : Whole ((w5.alloc (.cells (opC d' (.slice RA d'.recs.length rc) (.slice none 0 0)) 48)).setCell ⟨rb, 1, none⟩ (.int .i64 ((k : Int) + 1))) w5.heap.size 48 (opC d' (.slice RA d'.recs.length rc) (.slice none 0 0)) := ((Kept.refl (fun j => j = rb) _).setCell (p := ⟨rb, 1, none⟩) (.inl rfl) _).whole (Whole.new w5 _ _) (fun e => by
              have e : w5.heap.size = rb := e
              omega)
            have x1 : (w5.alloc (.cells (opC d' (.slice RA d'.recs.length rc) (.slice none 0 0)) 48)).cell? ⟨rb, 1, none⟩ = some (.int .i64 (k : Int)) := hR6.cell 1
            have g1 := hR6.frozen 1
            have x2 : (w5.alloc (.cells (opC d' (.slice RA d'.recs.length rc) (.slice none 0 0)) 48)).cell? ⟨rb, 2, none⟩ = some (.int .i64 0) := hR6.cell 2
            have hne1 : rb ≠ w5.heap.size := by omega
            have hne2 : w5.heap.size ≠ rb := by omega
            obtain ⟨vs, hvs, hvrw⟩ := HL2.out.row
            have hvr : ∀ j, (Value.slice VA out.length vc).ownBlock = some j → ¬ j = rb := fun j e h => by
              have h1 := own_from hvs e
              have h2 := HRD.out.lt
              omega
            have HVS := Lib.hid hvs
            have HVRW := Lib.hid hvrw
            have HVR := Lib.hid hvr
            have HR7 := Lib.hid hR7
            have HK7 := Lib.hid hK7
            have HO7 := Lib.hid hO7
            have HRBL := Lib.hid HRD.out.lt
            have hlen7 := HL2.out.many
            have HRA0 : Hid (RecsAt (fun j => w3.heap.size ≤ j ∧ j ≠ w5.heap.size) ((w5.alloc (.cells (opC d' (.slice RA d'.recs.length rc) (.slice none 0 0)) 48)).setCell ⟨rb, 1, none⟩ (.int .i64 ((k : Int) + 1))) RA d'.recs) := Lib.hid (RecsAt.turn (fun j i u hj hc => by
              have hjl := lt_of_cell (a := ⟨j, i, none⟩) hc
              dsimp only at hjl
              have hjr : j ≠ rb := by omega
              exact ⟨⟨by omega, by omega⟩, ((Kept.refl (fun j => j = rb) _).setCell (p := ⟨rb, 1, none⟩) (.inl rfl) _).cell (((Kept.refl (fun j => j = rb) w5).alloc _).cell hc hjr) hjr⟩) hra)
            have HRA : Hid (RecsAt (fun j => w3.heap.size ≤ j) ((w5.alloc (.cells (opC d' (.slice RA d'.recs.length rc) (.slice none 0 0)) 48)).setCell ⟨rb, 1, none⟩ (.int .i64 ((k : Int) + 1))) RA d'.recs) := Lib.hid (HRA0.out.turn fun j i u hj hc => ⟨hj.1, hc⟩)
            clear hvs hvrw hvr hR7 hK7 hO7 hra hrc hR6 HOP5 HOK HOP4
            by_cases hk3 : d'.kind = 3
            · have t3 : (d'.kind == 3) = true := by rw [beq_iff_eq]; exact hk3
              have HVW := Lib.hid (stp_view (f := f) (out := out) (by omega) (by rw [HG.out]; exact HNS.out) hln hk3)
              have hnest := HH.out f (by omega) (deep + 1) (k + 1) rb (some ⟨bA, offA, none⟩) Lc ((w5.alloc (.cells (opC d' (.slice RA d'.recs.length rc) (.slice none 0 0)) 48)).setCell ⟨rb, 1, none⟩ (.int .i64 ((k : Int) + 1))) (HEK.out _ (HL2.out.kept.trans HK7.out)) HR7.out
                (RowN.turn (Turn.kept (HL2.out.kept.trans HK7.out) (fun _ h => h)) HROW.out) (by omega) (by omega) (by omega) (by omega) hLn HLS.out (fun W hW => HEK.out _ ((HL2.out.kept.trans HK7.out).trans hW))
              rw [show ((deep + 1 : Nat) : Int) = (deep : Int) + 1 from by omega] at hnest
              have HNEST := Lib.hid hnest
              clear hnest hln hd' hk3
              go_wp2_with fail
              refine HNEST.out.mono ?_
              rintro e w10 ⟨SA, sn, sc, k', b, rfl, hk10, hr10, hkb, hbad, hyes⟩
              have hO10 : Whole w10 w5.heap.size 48 (opC d' (.slice RA d'.recs.length rc) (.slice none 0 0)) := hk10.whole HO7.out (fun e => hne2 e)
              have y1 : w10.cell? ⟨rb, 1, none⟩ = some (.int .i64 (k' : Int)) := hr10.cell 1
              have y2 : w10.cell? ⟨rb, 2, none⟩ = some (.int .i64 (b : Int)) := hr10.cell 2
              have gr1 := hr10.frozen 1
              have gr2 := hr10.frozen 2
              have z0 : w10.cell? ⟨w5.heap.size, 0, none⟩ = some (.int .i64 d'.kind) := hO10.cell 0
              have z1 : w10.cell? ⟨w5.heap.size, 1, none⟩ = some (.string ⟨d'.name.toArray⟩) := hO10.cell 1
              have z2 : w10.cell? ⟨w5.heap.size, 2, none⟩ = some (.int .u16 (d'.typ : Int)) := hO10.cell 2
              have z3 : w10.cell? ⟨w5.heap.size, 3, none⟩ = some (.slice RA d'.recs.length rc) := hO10.cell 3
              have z4 : w10.cell? ⟨w5.heap.size, 4, none⟩ = some (.int .u64 (d'.life : Int)) := hO10.cell 4
              have z5 : w10.cell? ⟨w5.heap.size, 5, none⟩ = some (.int .u64 (d'.n : Int)) := hO10.cell 5
              have z6 : w10.cell? ⟨w5.heap.size, 6, none⟩ = some (.slice none 0 0) := hO10.cell 6
              have z7 : w10.cell? ⟨w5.heap.size, 7, none⟩ = some (.int .i64 d'.how) := hO10.cell 7
              have z8 : w10.cell? ⟨w5.heap.size, 8, none⟩ = some (.int .i64 d'.code) := hO10.cell 8
              have gz6 := hO10.frozen 6
              have hob : w5.heap.size < w10.heap.size := hO10.lt
              have HO10 := Lib.hid hO10
              have HR10 := Lib.hid hr10
              have HK10 := Lib.hid (HK7.out.trans hk10)
              have HK710 := Lib.hid hk10
              clear hO10 hr10 hk10
              cases hn : stp L f (deep + 1) (k + 1) [] with
              | bad b' =>
                have hb' := hbad b' hn
                subst hb'
                have hb1 := (stp_bad hn (by omega) (by omega)).1
                have HST : Hid (stp L f0 deep k0 [] = .bad b) := Lib.hid (by rw [HL2.out.eq, HVW.out, hn])
                have tb : decide ((0 : Int) < (b : Int)) = true := by
                  rw [decide_eq_true_iff]
                  omega
                have HRT : Hid (ReadIt L f0 deep k0 rb (some ⟨bA, offA, none⟩) Lc w (.returned (.slice none 0 0)) ((w10.setCell ⟨w5.heap.size, 6, none⟩ (.slice SA sn sc)).setCell ⟨rb, 1, none⟩ (.int .i64 ((k' : Int) + 1)))) := Lib.hid (ReadIt.no (k' := k' + 1) HST.out
                  (view_kept HL2.out.kept HK10.out (by omega) _ _) (view_rd HR10.out hne2 _) (by omega))
                clear hbad hyes hn
                go_wp2_with fail
                simp only [Exit.jump]
                go_ret
                exact HRT.out
              | ok sub k2 =>
                obtain ⟨rfl, rfl, rfl, hsc, hsub⟩ := hyes sub k2 hn
                have hkk := stp_ok hn (by omega) (by omega)
                have hkk2 := hkk.2.2 (by omega)
                have HEQ : Hid (stp L (f + 1) deep k out = stp L f deep (k' + 1) (out ++ [.mk d' sub])) := Lib.hid (by rw [HVW.out, hn])
                have HSC := Lib.hid hsc
                have HR11 : Hid (Whole ((w10.setCell ⟨w5.heap.size, 6, none⟩ (.slice SA sub.length sc)).setCell ⟨rb, 1, none⟩ (.int .i64 ((k' : Int) + 1))) rb 78 (rdV (some ⟨bA, offA, none⟩) L.length Lc (k' + 1) 0)) := Lib.hid (view_rd HR10.out hne2 _)
                have HK11 : Hid (Kept (fun j => j = rb) w3 ((w10.setCell ⟨w5.heap.size, 6, none⟩ (.slice SA sub.length sc)).setCell ⟨rb, 1, none⟩ (.int .i64 ((k' : Int) + 1)))) := Lib.hid (view_kept (Kept.refl _ w3) HK10.out (by omega) _ _)
                have htu : ∀ N : Nat → Prop, (∀ j, N j → w3.heap.size ≤ j ∧ j ≠ w5.heap.size) → Turn N (fun j => w3.heap.size ≤ j) w10 ((w10.setCell ⟨w5.heap.size, 6, none⟩ (.slice SA sub.length sc)).setCell ⟨rb, 1, none⟩ (.int .i64 ((k' : Int) + 1))) := fun N hN j i u hj hc => by
                  have h1 := hN j hj
                  have h2 := HRD.out.lt
                  exact ⟨h1.1, (((Kept.refl (fun j => j = rb ∨ j = w5.heap.size) w10).setCell (p := ⟨w5.heap.size, 6, none⟩) (.inl (.inr rfl)) _).setCell (p := ⟨rb, 1, none⟩) (.inl (.inl rfl)) _).cell hc (by
                    rintro (e | e)
                    · have e : j = rb := e
                      omega
                    · exact h1.2 e)⟩
                have hs7 : ((w5.alloc (.cells (opC d' (.slice RA d'.recs.length rc) (.slice none 0 0)) 48)).setCell ⟨rb, 1, none⟩ (.int .i64 ((k : Int) + 1))).heap.size = w5.heap.size + 1 := by simp [World.setCell]
                have HSUB : Hid (OpdsAt (fun j => w3.heap.size ≤ j) ((w10.setCell ⟨w5.heap.size, 6, none⟩ (.slice SA sub.length sc)).setCell ⟨rb, 1, none⟩ (.int .i64 ((k' : Int) + 1))) SA 0 sub) := Lib.hid (OpdsAt.turn (htu _ fun j hj => ⟨by omega, by omega⟩) SA 0 sub hsub)
                have HRA11 : Hid (RecsAt (fun j => w3.heap.size ≤ j) ((w10.setCell ⟨w5.heap.size, 6, none⟩ (.slice SA sub.length sc)).setCell ⟨rb, 1, none⟩ (.int .i64 ((k' : Int) + 1))) RA d'.recs) := Lib.hid (RecsAt.turn (htu (fun j => w3.heap.size ≤ j ∧ j ≠ w5.heap.size) fun j hj => hj) (HRA0.out.turn fun j i u hj hc => ⟨hj, HK710.out.cell hc (fun e => by
                  have e : j = rb := e
                  have h2 := HRD.out.lt
                  omega)⟩))
                have hnw : Whole (((w10.setCell ⟨w5.heap.size, 6, none⟩ (.slice SA sub.length sc)).setCell ⟨rb, 1, none⟩ (.int .i64 ((k' : Int) + 1))).alloc (.cells (opC d' (.slice RA d'.recs.length rc) (.slice SA sub.length sc)) 48)) w10.heap.size 48 (opC d' (.slice RA d'.recs.length rc) (.slice SA sub.length sc)) := by
                  have h := Whole.new ((w10.setCell ⟨w5.heap.size, 6, none⟩ (.slice SA sub.length sc)).setCell ⟨rb, 1, none⟩ (.int .i64 ((k' : Int) + 1))) 48 (opC d' (.slice RA d'.recs.length rc) (.slice SA sub.length sc))
                  rw [show ((w10.setCell ⟨w5.heap.size, 6, none⟩ (.slice SA sub.length sc)).setCell ⟨rb, 1, none⟩ (.int .i64 ((k' : Int) + 1))).heap.size = w10.heap.size by simp [World.setCell]] at h
                  exact h
                have HNW11 := Lib.hid hnw
                clear hbad hyes hn hsc hsub htu hs7 hnw
                go_wp2_with (at_builtin; refine wpList_append_own_at (w := ((w10.setCell ⟨w5.heap.size, 6, none⟩ (.slice SA sub.length sc)).setCell ⟨rb, 1, none⟩ (.int .i64 ((k' : Int) + 1))).alloc (.cells (opC d' (.slice RA d'.recs.length rc) (.slice SA sub.length sc)) 48)) rfl _ _ 27 rfl w.heap.size 48 i0 (.agg #[.int .i64 0, .string ByteArray.empty, .int .u16 0, .slice none 0 0, .int .u64 0, .int .u64 0, .slice none 0 0, .int .i64 0, .int .i64 0]) 9 112 Tryz.underlying27 hi hz0 hz1 hz2 rfl (by decide) _ out.length vs rfl (own_kept (HK11.out.alloc _) HVS.out HVR.out) ⟨w10.heap.size, 0, none⟩ 1 1 (opC d' (.slice RA d'.recs.length rc) (.slice SA sub.length sc)).toList rfl rfl (World.news_of_block HNW11.out) (op_one _ _ _ _ _ _ _ rfl rfl _ _) (by unfold maxLen; omega) (by omega) (Nat.le_trans HL2.out.kept.size (HK11.out.alloc _).size) ?_; intro v8 w8 hown8 hg8 _ hat8; have HN8 := Lib.hid (RL.app (sub := sub) (SA := SA) (sc := sc) HL2.out HEQ.out ⟨by omega, by omega⟩ HK11.out HR11.out HOKD.out HRC.out HSC.out HRA11.out HSUB.out HRBL.out HVS.out HVRW.out hown8 hg8 hat8); obtain ⟨VA8, vc8, rfl⟩ := HN8.out.form; clear hown8 hg8 hat8)
                go_step3
                refine ⟨rfl, ⟨.slice VA8 (out.length + 1) vc8, f, k' + 1, _, Lib.hid (RL.len HN8.out), frame_any rfl⟩, ?_⟩
                rw [atOf_eq HN8.out.rd, HMU.out]
                omega
            · have t3 : (d'.kind == 3) = false := by rwa [beq_eq_false_iff_ne]
              have HEQ := Lib.hid (stp_one (f := f) (out := out) (by omega) (by rw [HG.out]; exact HNS.out) hln hk3)
              have hnw : Whole (((w5.alloc (.cells (opC d' (.slice RA d'.recs.length rc) (.slice none 0 0)) 48)).setCell ⟨rb, 1, none⟩ (.int .i64 ((k : Int) + 1))).alloc (.cells (opC d' (.slice RA d'.recs.length rc) (.slice none 0 0)) 48)) (w5.heap.size + 1) 48 (opC d' (.slice RA d'.recs.length rc) (.slice none 0 0)) := by
                have h := Whole.new ((w5.alloc (.cells (opC d' (.slice RA d'.recs.length rc) (.slice none 0 0)) 48)).setCell ⟨rb, 1, none⟩ (.int .i64 ((k : Int) + 1))) 48 (opC d' (.slice RA d'.recs.length rc) (.slice none 0 0))
                rw [show ((w5.alloc (.cells (opC d' (.slice RA d'.recs.length rc) (.slice none 0 0)) 48)).setCell ⟨rb, 1, none⟩ (.int .i64 ((k : Int) + 1))).heap.size = w5.heap.size + 1 by simp [World.setCell]] at h
                exact h
              have HNW := Lib.hid hnw
              clear hln hd' hk3 hnw
              go_wp2_with (at_builtin; refine wpList_append_own_at (w := ((w5.alloc (.cells (opC d' (.slice RA d'.recs.length rc) (.slice none 0 0)) 48)).setCell ⟨rb, 1, none⟩ (.int .i64 ((k : Int) + 1))).alloc (.cells (opC d' (.slice RA d'.recs.length rc) (.slice none 0 0)) 48)) rfl _ _ 27 rfl w.heap.size 48 i0 (.agg #[.int .i64 0, .string ByteArray.empty, .int .u16 0, .slice none 0 0, .int .u64 0, .int .u64 0, .slice none 0 0, .int .i64 0, .int .i64 0]) 9 112 Tryz.underlying27 hi hz0 hz1 hz2 rfl (by decide) _ out.length vs rfl (own_kept (HK7.out.alloc _) HVS.out HVR.out) ⟨w5.heap.size + 1, 0, none⟩ 1 1 (opC d' (.slice RA d'.recs.length rc) (.slice none 0 0)).toList rfl rfl (World.news_of_block HNW.out) (op_one _ _ _ _ _ _ _ rfl rfl _ _) (by unfold maxLen; omega) (by omega) (Nat.le_trans HL2.out.kept.size (HK7.out.alloc _).size) ?_; intro v8 w8 hown8 hg8 _ hat8; have HN8 := Lib.hid (RL.app (sub := []) (SA := none) (sc := 0) HL2.out HEQ.out ⟨by omega, by omega⟩ HK7.out HR7.out HOKD.out HRC.out (by unfold maxLen; simp) HRA.out opdsAt_nil HRBL.out HVS.out HVRW.out hown8 hg8 hat8); obtain ⟨VA8, vc8, rfl⟩ := HN8.out.form; clear hown8 hg8 hat8)
              go_step3
              refine ⟨rfl, ⟨.slice VA8 (out.length + 1) vc8, f, k + 1, _, Lib.hid (RL.len HN8.out), frame_any rfl⟩, ?_⟩
              rw [atOf_eq HN8.out.rd, HMU.out]
              omega
end Go.Proofs.YtifmgmiaeoiidaaGreatDoor
