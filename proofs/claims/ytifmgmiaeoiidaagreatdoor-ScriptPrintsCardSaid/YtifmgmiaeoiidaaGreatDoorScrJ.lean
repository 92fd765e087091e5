/-
  The walk of layer script's op: the step of a line's words. Fewer than 2^32 - 15 bytes a word.
-/
import Derived.Test.YtifmgmiaeoiidaaGreatDoorScrI
import Derived.Test.YtifmgmiaeoiidaaGreatDoorScrO
import Derived.Laws.ResultCell
namespace Go.Scrp
theorem numL_V {s : List UInt8} {m u : Nat} (h : numL s m = some u) : numV s = u := (num_v h).1
theorem codeL_V {s : List UInt8} {u : Int} (h : codeL s = some u) : codeV s = u := (code_v h).1
theorem list3 {α : Type} {l : List α} (h : 3 = l.length) : ∃ a b c, l = [a, b, c] := by
  match l, h with
  | [a, b, c], _ => exact ⟨a, b, c, rfl⟩
theorem list5 {α : Type} {l : List α} (h : 5 = l.length) : ∃ a b c d e, l = [a, b, c, d, e] := by
  match l, h with
  | [a, b, c, d, e], _ => exact ⟨a, b, c, d, e, rfl⟩
theorem list6 {α : Type} {l : List α} (h : 6 = l.length) : ∃ a b c d e f, l = [a, b, c, d, e, f] := by
  match l, h with
  | [a, b, c, d, e, f], _ => exact ⟨a, b, c, d, e, f, rfl⟩
theorem list2 {α : Type} {l : List α} (h : 2 = l.length) : ∃ a b, l = [a, b] := by
  match l, h with
  | [a, b], _ => exact ⟨a, b, rfl⟩
theorem list1 {α : Type} {l : List α} (h : 1 = l.length) : ∃ a, l = [a] := by
  match l, h with
  | [a], _ => exact ⟨a, rfl⟩
theorem key_t {s : List UInt8} {t : Nat} (h : numL s 65535 = some t) : numV s % 65536 = t := by
  have := num_v h
  omega
theorem op_1 {a b d f g : List UInt8} (hk : 1 = kindL [a, b, d, f, g]) : (opL [a, b, d, f, g]).isSome = (((numL f mostL).isSome && (unsetL g).isSome) && ((unwordL b).isSome && (numL d 65535).isSome)) ∧
    ∀ h', opL [a, b, d, f, g] = some h' → h' = ⟨1, (unwordL b).getD [], numV d % 65536, (unsetL g).getD [], numV f, 0, 0, 0⟩ ∧ unsetL g = some ((unsetL g).getD []) := by
  have e : opL [a, b, d, f, g] = (match keyO [a, b, d, f, g], numL f mostL, unsetL g with | some k, some l, some r => some ⟨1, k.1, k.2, r, l, 0, 0, 0⟩ | _, _, _ => none) := by
    unfold opL
    rw [if_pos hk.symm]
    rfl
  have ek : keyO [a, b, d, f, g] = (match unwordL b, numL d 65535 with | some a, some t => some (a, t) | _, _ => none) := rfl
  rw [e, ek]
  cases h1 : unwordL b <;> cases h2 : numL d 65535 <;> cases h3 : numL f mostL <;> cases h4 : unsetL g <;> simp
  exact ⟨(key_t h2).symm, (numL_V h3).symm⟩
theorem op_2 {a b d : List UInt8} (hk : 2 = kindL [a, b, d]) : (opL [a, b, d]).isSome = ((unwordL b).isSome && (numL d 65535).isSome) ∧ ∀ h', opL [a, b, d] = some h' → h' = ⟨2, (unwordL b).getD [], numV d % 65536, [], 0, 0, 0, 0⟩ := by
  have e : opL [a, b, d] = (match unwordL b, numL d 65535 with | some a, some t => some (a, t) | _, _ => none).map fun (k : List UInt8 × Nat) => ⟨2, k.1, k.2, [], 0, 0, 0, 0⟩ := by
    unfold opL
    rw [← hk]
    rfl
  rw [e]
  cases h1 : unwordL b <;> cases h2 : numL d 65535 <;> simp
  exact (key_t h2).symm
theorem op_4 {a b d : List UInt8} (hk : 4 = kindL [a, b, d]) : (opL [a, b, d]).isSome = ((unwordL b).isSome && (numL d 65535).isSome) ∧ ∀ h', opL [a, b, d] = some h' → h' = ⟨4, (unwordL b).getD [], numV d % 65536, [], 0, 0, 0, 0⟩ := by
  have e : opL [a, b, d] = (match unwordL b, numL d 65535 with | some a, some t => some (a, t) | _, _ => none).map fun (k : List UInt8 × Nat) => ⟨4, k.1, k.2, [], 0, 0, 0, 0⟩ := by
    unfold opL
    rw [← hk]
    rfl
  rw [e]
  cases h1 : unwordL b <;> cases h2 : numL d 65535 <;> simp
  exact (key_t h2).symm
theorem op_3 {a b d f g h : List UInt8} (hk : 3 = kindL [a, b, d, f, g, h]) : (opL [a, b, d, f, g, h]).isSome = (viewB f g h && ((unwordL b).isSome && (numL d 65535).isSome)) ∧
    ∀ h', opL [a, b, d, f, g, h] = some h' → h' = ⟨3, (unwordL b).getD [], numV d % 65536, [], 0, 0, howL f, codeV g⟩ := by
  have e : opL [a, b, d, f, g, h] = (match (match unwordL b, numL d 65535 with | some a, some t => some (a, t) | _, _ => none), codeL g with | some k, some c => if f = endT (howL f) ∧ h = [123] then some ⟨3, k.1, k.2, [], 0, 0, howL f, c⟩ else none | _, _ => none) := by
    unfold opL
    rw [← hk]
    rfl
  rw [e]
  unfold viewB
  cases h1 : unwordL b <;> cases h2 : numL d 65535 <;> cases h3 : codeL g <;> simp
  refine ⟨?_, fun _ _ => ⟨(key_t h2).symm, (codeL_V h3).symm⟩⟩
  by_cases c1 : f = endT (howL f)
  · rw [decide_eq_true c1]
    by_cases c2 : h = [123]
    · rw [decide_eq_true c2, if_pos ⟨c1, c2⟩]; rfl
    · rw [decide_eq_false c2, if_neg fun h => c2 h.2]; rfl
  · rw [decide_eq_false c1, if_neg fun h => c1 h.1]; rfl
theorem op_5 {a b : List UInt8} (hk : 5 = kindL [a, b]) : (opL [a, b]).isSome = (numL b mostL).isSome ∧ ∀ h', opL [a, b] = some h' → h' = ⟨5, [], 0, [], 0, numV b, 0, 0⟩ := by
  have e : opL [a, b] = (numL b mostL).map fun n => ⟨5, [], 0, [], 0, n, 0, 0⟩ := by
    unfold opL
    rw [← hk]
    rfl
  rw [e]
  cases h1 : numL b mostL <;> simp
  exact (numL_V h1).symm
theorem op_6 {a b : List UInt8} (hk : 6 = kindL [a, b]) : (opL [a, b]).isSome = (numL b mostL).isSome ∧ ∀ h', opL [a, b] = some h' → h' = ⟨6, [], 0, [], 0, numV b, 0, 0⟩ := by
  have e : opL [a, b] = (numL b mostL).map fun n => ⟨6, [], 0, [], 0, n, 0, 0⟩ := by
    unfold opL
    rw [← hk]
    rfl
  rw [e]
  cases h1 : numL b mostL <;> simp
  exact (numL_V h1).symm
theorem op_7 {a : List UInt8} (hk : 7 = kindL [a]) : opL [a] = some ⟨7, [], 0, [], 0, 0, 0, 0⟩ := by
  unfold opL
  rw [← hk]
  rfl
theorem op_8 {a : List UInt8} (hk : 8 = kindL [a]) : opL [a] = some ⟨8, [], 0, [], 0, 0, 0, 0⟩ := by
  unfold opL
  rw [← hk]
  rfl
end Go.Scrp
namespace Go.Proofs.YtifmgmiaeoiidaaGreatDoor
open Go.RowKit Go.Colm Go.Scrp
set_option linter.unusedVariables false

/-- What comes of a line's words. -/
def OpIt (w : World) (ws : List (List UInt8)) (e : Ending) (w' : World) : Prop :=
  ∃ h RA rn rc, e = .returned (.tuple #[opV h (.slice RA rn rc) (.slice none 0 0), .bool (opL ws).isSome]) ∧ (∀ h', opL ws = some h' → h' = h ∧ rn = h.recs.length ∧ (rn ≤ rc ∧ rc ≤ maxLen) ∧ RecsAt (fun k => w.heap.size ≤ k) w' RA h.recs) ∧ Below w.heap.size w w'

theorem cut_rows {w : World} {A : Option Addr} {ws : List (List UInt8)} {n c : Nat} (hr : RowV w A (txtV ws)) (hn : n = ws.length) (hc : n ≤ c) (W : World) (hb : Below w.heap.size w W) (k : Nat) : RowN (fun j => j ≠ w.heap.size) W (cutA A c k 1) ((txtV ws).drop k) := fun i v hv => by
  have h2 := hr.cut (c := c) (k := k) (s := 1) (by rw [txtV_length]; omega)
  rw [Nat.mul_one] at h2
  obtain ⟨b, off, e, hcell⟩ := h2 i v hv
  have hl := lt_of_cell hcell
  dsimp only at hl
  exact ⟨b, off, e, by omega, (hb.cell (p := ⟨b, off + i, none⟩) hl).trans hcell⟩

theorem fin9 {w0 w : World} {g : Nat} {T : TypeId} {a0 a1 a2 a3 a4 a5 a6 a7 a8 : Value} (h : Whole w g T #[a0, a1, a2, a3, a4, a5, a6, a7, a8]) (hb : Below w0.heap.size w0 w) (hg : w0.heap.size ≤ g) (b0 b1 b2 b3 b4 b5 b6 b7 b8 : Value) :
    Whole (((((((((w.setCell ⟨g, 0, none⟩ b0).setCell ⟨g, 1, none⟩ b1).setCell ⟨g, 2, none⟩ b2).setCell ⟨g, 3, none⟩ b3).setCell ⟨g, 4, none⟩ b4).setCell ⟨g, 5, none⟩ b5).setCell ⟨g, 6, none⟩ b6).setCell ⟨g, 7, none⟩ b7).setCell ⟨g, 8, none⟩ b8) g T #[b0, b1, b2, b3, b4, b5, b6, b7, b8] ∧
      Below w0.heap.size w0 (((((((((w.setCell ⟨g, 0, none⟩ b0).setCell ⟨g, 1, none⟩ b1).setCell ⟨g, 2, none⟩ b2).setCell ⟨g, 3, none⟩ b3).setCell ⟨g, 4, none⟩ b4).setCell ⟨g, 5, none⟩ b5).setCell ⟨g, 6, none⟩ b6).setCell ⟨g, 7, none⟩ b7).setCell ⟨g, 8, none⟩ b8) ∧
      Kept (fun k => k = g) w (((((((((w.setCell ⟨g, 0, none⟩ b0).setCell ⟨g, 1, none⟩ b1).setCell ⟨g, 2, none⟩ b2).setCell ⟨g, 3, none⟩ b3).setCell ⟨g, 4, none⟩ b4).setCell ⟨g, 5, none⟩ b5).setCell ⟨g, 6, none⟩ b6).setCell ⟨g, 7, none⟩ b7).setCell ⟨g, 8, none⟩ b8) := by
  have h0 : Whole (w.setCell ⟨g, 0, none⟩ b0) g T #[b0, a1, a2, a3, a4, a5, a6, a7, a8] := h.put 0 b0
  have h1 : Whole ((w.setCell ⟨g, 0, none⟩ b0).setCell ⟨g, 1, none⟩ b1) g T #[b0, b1, a2, a3, a4, a5, a6, a7, a8] := h0.put 1 b1
  have h2 : Whole (((w.setCell ⟨g, 0, none⟩ b0).setCell ⟨g, 1, none⟩ b1).setCell ⟨g, 2, none⟩ b2) g T #[b0, b1, b2, a3, a4, a5, a6, a7, a8] := h1.put 2 b2
  have h3 : Whole ((((w.setCell ⟨g, 0, none⟩ b0).setCell ⟨g, 1, none⟩ b1).setCell ⟨g, 2, none⟩ b2).setCell ⟨g, 3, none⟩ b3) g T #[b0, b1, b2, b3, a4, a5, a6, a7, a8] := h2.put 3 b3
  have h4 : Whole (((((w.setCell ⟨g, 0, none⟩ b0).setCell ⟨g, 1, none⟩ b1).setCell ⟨g, 2, none⟩ b2).setCell ⟨g, 3, none⟩ b3).setCell ⟨g, 4, none⟩ b4) g T #[b0, b1, b2, b3, b4, a5, a6, a7, a8] := h3.put 4 b4
  have h5 : Whole ((((((w.setCell ⟨g, 0, none⟩ b0).setCell ⟨g, 1, none⟩ b1).setCell ⟨g, 2, none⟩ b2).setCell ⟨g, 3, none⟩ b3).setCell ⟨g, 4, none⟩ b4).setCell ⟨g, 5, none⟩ b5) g T #[b0, b1, b2, b3, b4, b5, a6, a7, a8] := h4.put 5 b5
  have h6 : Whole (((((((w.setCell ⟨g, 0, none⟩ b0).setCell ⟨g, 1, none⟩ b1).setCell ⟨g, 2, none⟩ b2).setCell ⟨g, 3, none⟩ b3).setCell ⟨g, 4, none⟩ b4).setCell ⟨g, 5, none⟩ b5).setCell ⟨g, 6, none⟩ b6) g T #[b0, b1, b2, b3, b4, b5, b6, a7, a8] := h5.put 6 b6
  have h7 : Whole ((((((((w.setCell ⟨g, 0, none⟩ b0).setCell ⟨g, 1, none⟩ b1).setCell ⟨g, 2, none⟩ b2).setCell ⟨g, 3, none⟩ b3).setCell ⟨g, 4, none⟩ b4).setCell ⟨g, 5, none⟩ b5).setCell ⟨g, 6, none⟩ b6).setCell ⟨g, 7, none⟩ b7) g T #[b0, b1, b2, b3, b4, b5, b6, b7, a8] := h6.put 7 b7
  have h8 : Whole (((((((((w.setCell ⟨g, 0, none⟩ b0).setCell ⟨g, 1, none⟩ b1).setCell ⟨g, 2, none⟩ b2).setCell ⟨g, 3, none⟩ b3).setCell ⟨g, 4, none⟩ b4).setCell ⟨g, 5, none⟩ b5).setCell ⟨g, 6, none⟩ b6).setCell ⟨g, 7, none⟩ b7).setCell ⟨g, 8, none⟩ b8) g T #[b0, b1, b2, b3, b4, b5, b6, b7, b8] := h7.put 8 b8
  exact ⟨h8,
   ((((((((hb.setCell (p := ⟨g, 0, none⟩) hg b0).setCell (p := ⟨g, 1, none⟩) hg b1).setCell (p := ⟨g, 2, none⟩) hg b2).setCell (p := ⟨g, 3, none⟩) hg b3).setCell (p := ⟨g, 4, none⟩) hg b4).setCell (p := ⟨g, 5, none⟩) hg b5).setCell (p := ⟨g, 6, none⟩) hg b6).setCell (p := ⟨g, 7, none⟩) hg b7).setCell (p := ⟨g, 8, none⟩) hg b8,
   (((((((((Kept.refl (fun k => k = g) w).setCell (p := ⟨g, 0, none⟩) (.inl rfl) b0).setCell (p := ⟨g, 1, none⟩) (.inl rfl) b1).setCell (p := ⟨g, 2, none⟩) (.inl rfl) b2).setCell (p := ⟨g, 3, none⟩) (.inl rfl) b3).setCell (p := ⟨g, 4, none⟩) (.inl rfl) b4).setCell (p := ⟨g, 5, none⟩) (.inl rfl) b5).setCell (p := ⟨g, 6, none⟩) (.inl rfl) b6).setCell (p := ⟨g, 7, none⟩) (.inl rfl) b7).setCell (p := ⟨g, 8, none⟩) (.inl rfl) b8⟩
theorem op_simple {w w' : World} {ws : List (List UInt8)} {h : Hd} (q : Bool) (hq : (opL ws).isSome = q) (hop : ∀ h', opL ws = some h' → h' = h) (hr : h.recs = []) (hb : Below w.heap.size w w') : OpIt w ws (.returned (.tuple #[opV h (.slice none 0 0) (.slice none 0 0), .bool q])) w' :=
  ⟨h, none, 0, 0, by rw [hq], fun h' e => ⟨hop h' e, by rw [hr]; rfl, by unfold maxLen; omega, by rw [hr]; exact RecsAt.nil _ _ _⟩, hb⟩

theorem op_put {w W w4 w' : World} {ws : List (List UInt8)} {un : List UInt8} {nv lf : Nat} {gs : List UInt8} {RA : Option Addr} {rn rc : Nat} {q : Bool} (hW : w.heap.size ≤ W.heap.size) (hq : (opL ws).isSome = q)
    (hop : ∀ h', opL ws = some h' → h' = ⟨1, un, nv, (unsetL gs).getD [], lf, 0, 0, 0⟩ ∧ unsetL gs = some ((unsetL gs).getD [])) (hrl : ∀ l, unsetL gs = some l → rn = l.length ∧ (rn ≤ rc ∧ rc ≤ maxLen) ∧ RecsAt (fun k => W.heap.size ≤ k) w4 RA l)
    (hb : Below w.heap.size w w') (hk : Kept (fun k => k = w.heap.size) w4 w') (hlt : w.heap.size < W.heap.size) : OpIt w ws (.returned (.tuple #[opV ⟨1, un, nv, (unsetL gs).getD [], lf, 0, 0, 0⟩ (.slice RA rn rc) (.slice none 0 0), .bool q])) w' :=
  ⟨_, RA, rn, rc, by rw [hq], fun h' e => by
    obtain ⟨h1, h2⟩ := hop h' e
    obtain ⟨g1, g2, g3⟩ := hrl _ h2
    exact ⟨h1, g1, g2, g3.turn fun j i u hj hc => ⟨by omega, hk.cell hc (by intro e; have e : j = w.heap.size := e; omega)⟩⟩, hb⟩

set_option maxRecDepth 100000 in
set_option maxHeartbeats 8000000 in
theorem op_any (ws : List (List UInt8)) (A : Option Addr) (n c : Nat) (w : World) (E : Env w) (h0 : 0 < ws.length) (hlen : ∀ x ∈ ws, x.length < 4294967281) (hn : n = ws.length) (hc : n ≤ c) (hr : RowV w A (txtV ws)) :
    Calls Tryz.prog 54 #[.slice A n c] w (OpIt w ws) := by
  have hki := fun W hr' => kind_any ws A c W h0 hr'
  obtain ⟨k, hk⟩ : ∃ k, k = kindL ws := ⟨_, rfl⟩
  have hk8 := kindL_le ws
  rw [← hk] at hk8
  rw [← hn, ← hk] at hki
  have HX0 : Hid (Whole (w.alloc (.cells #[.int .i64 0, .string ⟨#[]⟩, .int .u16 0, .slice none 0 0, .int .u64 0, .int .u64 0, .slice none 0 0, .int .i64 0, .int .i64 0] 48)) w.heap.size 48 #[.int .i64 0, .string ⟨#[]⟩, .int .u16 0, .slice none 0 0, .int .u64 0, .int .u64 0, .slice none 0 0, .int .i64 0, .int .i64 0]) := Lib.hid (Whole.new _ _ _)
  have HB0 : Hid (Below w.heap.size w (w.alloc (.cells #[.int .i64 0, .string ⟨#[]⟩, .int .u16 0, .slice none 0 0, .int .u64 0, .int .u64 0, .slice none 0 0, .int .i64 0, .int .i64 0] 48))) := Lib.hid ((Below.refl _ _).alloc (Nat.le_refl _) _)
  have HKI := Lib.hid (hki _ (hr.below HB0.out))
  clear hki
  by_cases hz : k = 0
  · subst hz
    have hop : opL ws = none := by unfold opL; rw [← hk]; simp
    have HOP := Lib.hid hop
    clear hop hk hr hn E
    go_enter Tryz.func54, Tryz.ntmps54
    go_wp2_with fail
    refine HKI.out.mono ?_
    rintro e w2 ⟨rfl, rfl⟩
    go_wp2_with fail
    refine bodyPost_ret (results_cell_row2 rfl _ _ w.heap.size 48 _ (0, 0) _ rfl HX0.out Tryz.underlying48 rfl (by kernel_rfl)) rfl ?_
    exact op_simple (h := ⟨0, [], 0, [], 0, 0, 0, 0⟩) false (by rw [HOP.out]; rfl) (fun h' e => by rw [HOP.out] at e; cases e) rfl HB0.out
  have hkc : k = 1 ∨ k = 2 ∨ k = 3 ∨ k = 4 ∨ k = 5 ∨ k = 6 ∨ k = 7 ∨ k = 8 := by omega
  rcases hkc with rfl | rfl | rfl | rfl | rfl | rfl | rfl | rfl
  -- KINDS
  · -- kind 1
    obtain ⟨a, b, d, f, g, rfl⟩ := list5 (α := List UInt8) (l := ws) (by have h := (kind_many (ws := ws) (by rw [← hk]; decide)).1; rw [← hk] at h; exact h)
    have hop := op_1 hk
    have hkey := fun W E' hr' => key_any b d [f, g] (cutA A c 1 1) (n - 1) (c - 1) W E' (by rw [hn]; rfl) (by have := hlen b (by simp); omega) (by have := hlen d (by simp); omega) hr'
    have cut1 := fun W => run_cut_from (P := Tryz.prog) Tryz.underlying71 Tryz.sizeOf9 A n c .i64 1 (by omega) (by rw [hn]; simp) W
    obtain ⟨nv, hnv⟩ : ∃ q, q = numV d % 65536 := ⟨_, rfl⟩
    obtain ⟨un, hun⟩ : ∃ q, q = (unwordL b).getD [] := ⟨_, rfl⟩
    obtain ⟨q1, hq1⟩ : ∃ q, q = ((unwordL b).isSome && (numL d 65535).isSome) := ⟨_, rfl⟩
    simp only [← hnv, ← hun, ← hq1] at hkey hop
    have HKEY := Lib.hid hkey
    have hlf := hlen f (by simp)
    have hlg := hlen g (by simp)
    have cut3 := fun W => run_cut_from (P := Tryz.prog) Tryz.underlying71 Tryz.sizeOf9 A n c .i64 3 (by omega) (by rw [hn]; simp) W
    have HPUT := Lib.hid fun v0 v1 v2 v3 v4 v5 v6 v7 v8 W E' hb' hr' => put_any w.heap.size v0 v1 v2 v3 v4 v5 v6 v7 v8 f g (cutA A c 3 1) (n - 3) (c - 3) W E' hb' (by rw [hn]; rfl) (by omega) hlg hr'
    have HOP := Lib.hid hop
    have HROW := Lib.hid (cut_rows hr hn hc)
    have HE := Lib.hid E
    have HKD := Lib.hid fun W => keyed_any 1 W
    have hn5 : n = 5 := hn
    subst hn5
    clear hk hop hr hlen hn E h0 hkey hnv hun hq1
    go_enter Tryz.func54, Tryz.ntmps54
    go_wp2_with fail
    refine HKI.out.mono ?_
    rintro e w2 ⟨rfl, rfl⟩
    go_wp2_with fail
    have HBW : Hid (Below w.heap.size w (w.alloc (.cells #[.int .i64 1, .string ⟨#[]⟩, .int .u16 0, .slice none 0 0, .int .u64 0, .int .u64 0, .slice none 0 0, .int .i64 0, .int .i64 0] 48))) := Lib.hid ((Below.refl _ _).alloc (Nat.le_refl _) _)
    have HXW : Hid (Whole (w.alloc (.cells #[.int .i64 1, .string ⟨#[]⟩, .int .u16 0, .slice none 0 0, .int .u64 0, .int .u64 0, .slice none 0 0, .int .i64 0, .int .i64 0] 48)) w.heap.size 48 #[.int .i64 1, .string ⟨#[]⟩, .int .u16 0, .slice none 0 0, .int .u64 0, .int .u64 0, .slice none 0 0, .int .i64 0, .int .i64 0]) := Lib.hid (Whole.new _ _ _)
    refine (HKD.out _).mono ?_
    rintro e w2 ⟨rfl, rfl⟩
    simp only [show keyT 1 = true from by decide]
    go_wp2_with fail
    refine (HKEY.out _ (HE.out.below HBW.out) (HROW.out _ HBW.out 1).row).mono ?_
    rintro e w3 ⟨rfl, hb3⟩
    have hx3 : Whole w3 w.heap.size 48 #[.int .i64 1, .string ⟨#[]⟩, .int .u16 0, .slice none 0 0, .int .u64 0, .int .u64 0, .slice none 0 0, .int .i64 0, .int .i64 0] := (hb3.block _ HXW.out.lt).trans HXW.out
    have x0 : w3.cell? ⟨w.heap.size, 0, none⟩ = some (.int .i64 1) := hx3.cell 0
    have f0 := hx3.frozen 0
    have x1 : w3.cell? ⟨w.heap.size, 1, none⟩ = some (.string ⟨#[]⟩) := hx3.cell 1
    have f1 := hx3.frozen 1
    have x2 : w3.cell? ⟨w.heap.size, 2, none⟩ = some (.int .u16 0) := hx3.cell 2
    have f2 := hx3.frozen 2
    have x3 : w3.cell? ⟨w.heap.size, 3, none⟩ = some (.slice none 0 0) := hx3.cell 3
    have f3 := hx3.frozen 3
    have x4 : w3.cell? ⟨w.heap.size, 4, none⟩ = some (.int .u64 0) := hx3.cell 4
    have f4 := hx3.frozen 4
    have x5 : w3.cell? ⟨w.heap.size, 5, none⟩ = some (.int .u64 0) := hx3.cell 5
    have f5 := hx3.frozen 5
    have x6 : w3.cell? ⟨w.heap.size, 6, none⟩ = some (.slice none 0 0) := hx3.cell 6
    have f6 := hx3.frozen 6
    have x7 : w3.cell? ⟨w.heap.size, 7, none⟩ = some (.int .i64 0) := hx3.cell 7
    have f7 := hx3.frozen 7
    have x8 : w3.cell? ⟨w.heap.size, 8, none⟩ = some (.int .i64 0) := hx3.cell 8
    have f8 := hx3.frozen 8
    have HX3 : Hid (Whole ((w3.setCell ⟨w.heap.size, 1, none⟩ (.string ⟨un.toArray⟩)).setCell ⟨w.heap.size, 2, none⟩ (.int .u16 (nv : Int))) w.heap.size 48 #[.int .i64 1, .string ⟨un.toArray⟩, .int .u16 (nv : Int), .slice none 0 0, .int .u64 0, .int .u64 0, .slice none 0 0, .int .i64 0, .int .i64 0]) := Lib.hid ((hx3.put 1 (.string ⟨un.toArray⟩)).put 2 (.int .u16 (nv : Int)))
    have HB3 : Hid (Below w.heap.size w ((w3.setCell ⟨w.heap.size, 1, none⟩ (.string ⟨un.toArray⟩)).setCell ⟨w.heap.size, 2, none⟩ (.int .u16 (nv : Int)))) := Lib.hid (((HBW.out.trans (hb3.mono HBW.out.size)).setCell (p := ⟨w.heap.size, 1, none⟩) (Nat.le_refl _) _).setCell (p := ⟨w.heap.size, 2, none⟩) (Nat.le_refl _) _)
    clear hx3 hb3
    go_wp2_with fail
    refine (HPUT.out _ _ _ _ _ _ _ _ _ _ (HE.out.below HB3.out) HX3.out (HROW.out _ HB3.out 3)).mono ?_
    rintro e w4 ⟨rfl, hk4, RA, rn, rc, hx4, hrl⟩
    clear x0 f0 x1 f1 x2 f2 x3 f3 x4 f4 x5 f5 x6 f6 x7 f7 x8 f8
    have x0 : w4.cell? ⟨w.heap.size, 0, none⟩ = some (.int .i64 1) := hx4.cell 0
    have f0 := hx4.frozen 0
    have x1 : w4.cell? ⟨w.heap.size, 1, none⟩ = some (.string ⟨un.toArray⟩) := hx4.cell 1
    have f1 := hx4.frozen 1
    have x2 : w4.cell? ⟨w.heap.size, 2, none⟩ = some (.int .u16 (nv : Int)) := hx4.cell 2
    have f2 := hx4.frozen 2
    have x3 : w4.cell? ⟨w.heap.size, 3, none⟩ = some (.slice RA rn rc) := hx4.cell 3
    have f3 := hx4.frozen 3
    have x4 : w4.cell? ⟨w.heap.size, 4, none⟩ = some (.int .u64 (numV f : Nat)) := hx4.cell 4
    have f4 := hx4.frozen 4
    have x5 : w4.cell? ⟨w.heap.size, 5, none⟩ = some (.int .u64 0) := hx4.cell 5
    have f5 := hx4.frozen 5
    have x6 : w4.cell? ⟨w.heap.size, 6, none⟩ = some (.slice none 0 0) := hx4.cell 6
    have f6 := hx4.frozen 6
    have x7 : w4.cell? ⟨w.heap.size, 7, none⟩ = some (.int .i64 0) := hx4.cell 7
    have f7 := hx4.frozen 7
    have x8 : w4.cell? ⟨w.heap.size, 8, none⟩ = some (.int .i64 0) := hx4.cell 8
    have f8 := hx4.frozen 8
    have HX4 := Lib.hid hx4
    have HB4 := Lib.hid (HB3.out.trans (hk4.to_below HB3.out.size (fun k hk e => by subst e; exact absurd hk (Nat.lt_irrefl _))))
    have HRL := Lib.hid hrl
    clear hx4 hk4 hrl
    obtain ⟨vb, hvb⟩ : ∃ q, q = ((numL f mostL).isSome && (unsetL g).isSome) := ⟨_, rfl⟩
    rw [← hvb] at HOP ⊢
    clear hvb
    cases vb
    · go_wp2_with fail
      refine bodyPost_ret (results_cell_row2 rfl _ _ w.heap.size 48 #[.int .i64 1, .string ⟨un.toArray⟩, .int .u16 (nv : Int), .slice RA rn rc, .int .u64 (numV f : Nat), .int .u64 0, .slice none 0 0, .int .i64 0, .int .i64 0] (0, 0) _ rfl (fin9 HX4.out HB4.out (Nat.le_refl _) _ _ _ _ _ _ _ _ _).1 Tryz.underlying48 rfl (by kernel_rfl)) rfl ?_
      exact op_put HB3.out.size (by rw [HOP.out.1]; rfl) HOP.out.2 HRL.out (fin9 HX4.out HB4.out (Nat.le_refl _) _ _ _ _ _ _ _ _ _).2.1 (fin9 HX4.out HB4.out (Nat.le_refl _) _ _ _ _ _ _ _ _ _).2.2 HX3.out.lt
    · go_wp2_with fail
      refine bodyPost_ret (results_cell_row2 rfl _ _ w.heap.size 48 #[.int .i64 1, .string ⟨un.toArray⟩, .int .u16 (nv : Int), .slice RA rn rc, .int .u64 (numV f : Nat), .int .u64 0, .slice none 0 0, .int .i64 0, .int .i64 0] (0, 0) _ rfl (fin9 HX4.out HB4.out (Nat.le_refl _) _ _ _ _ _ _ _ _ _).1 Tryz.underlying48 rfl (by kernel_rfl)) rfl ?_
      exact op_put HB3.out.size (by rw [HOP.out.1]; rfl) HOP.out.2 HRL.out (fin9 HX4.out HB4.out (Nat.le_refl _) _ _ _ _ _ _ _ _ _).2.1 (fin9 HX4.out HB4.out (Nat.le_refl _) _ _ _ _ _ _ _ _ _).2.2 HX3.out.lt
  · -- kind 2
    obtain ⟨a, b, d, rfl⟩ := list3 (α := List UInt8) (l := ws) (by have h := (kind_many (ws := ws) (by rw [← hk]; decide)).1; rw [← hk] at h; exact h)
    have hop := op_2 hk
    have hkey := fun W E' hr' => key_any b d [] (cutA A c 1 1) (n - 1) (c - 1) W E' (by rw [hn]; rfl) (by have := hlen b (by simp); omega) (by have := hlen d (by simp); omega) hr'
    have cut1 := fun W => run_cut_from (P := Tryz.prog) Tryz.underlying71 Tryz.sizeOf9 A n c .i64 1 (by omega) (by rw [hn]; simp) W
    obtain ⟨nv, hnv⟩ : ∃ q, q = numV d % 65536 := ⟨_, rfl⟩
    obtain ⟨un, hun⟩ : ∃ q, q = (unwordL b).getD [] := ⟨_, rfl⟩
    obtain ⟨q1, hq1⟩ : ∃ q, q = ((unwordL b).isSome && (numL d 65535).isSome) := ⟨_, rfl⟩
    simp only [← hnv, ← hun, ← hq1] at hkey hop
    have HKEY := Lib.hid hkey
    have HOP := Lib.hid hop
    have HROW := Lib.hid (cut_rows hr hn hc)
    have HE := Lib.hid E
    have HKD := Lib.hid fun W => keyed_any 2 W
    have hn3 : n = 3 := hn
    subst hn3
    clear hk hop hr hlen hn E h0 hkey hnv hun hq1
    go_enter Tryz.func54, Tryz.ntmps54
    go_wp2_with fail
    refine HKI.out.mono ?_
    rintro e w2 ⟨rfl, rfl⟩
    go_wp2_with fail
    have HBW : Hid (Below w.heap.size w (w.alloc (.cells #[.int .i64 2, .string ⟨#[]⟩, .int .u16 0, .slice none 0 0, .int .u64 0, .int .u64 0, .slice none 0 0, .int .i64 0, .int .i64 0] 48))) := Lib.hid ((Below.refl _ _).alloc (Nat.le_refl _) _)
    have HXW : Hid (Whole (w.alloc (.cells #[.int .i64 2, .string ⟨#[]⟩, .int .u16 0, .slice none 0 0, .int .u64 0, .int .u64 0, .slice none 0 0, .int .i64 0, .int .i64 0] 48)) w.heap.size 48 #[.int .i64 2, .string ⟨#[]⟩, .int .u16 0, .slice none 0 0, .int .u64 0, .int .u64 0, .slice none 0 0, .int .i64 0, .int .i64 0]) := Lib.hid (Whole.new _ _ _)
    refine (HKD.out _).mono ?_
    rintro e w2 ⟨rfl, rfl⟩
    simp only [show keyT 2 = true from by decide]
    go_wp2_with fail
    refine (HKEY.out _ (HE.out.below HBW.out) (HROW.out _ HBW.out 1).row).mono ?_
    rintro e w3 ⟨rfl, hb3⟩
    have hx3 : Whole w3 w.heap.size 48 #[.int .i64 2, .string ⟨#[]⟩, .int .u16 0, .slice none 0 0, .int .u64 0, .int .u64 0, .slice none 0 0, .int .i64 0, .int .i64 0] := (hb3.block _ HXW.out.lt).trans HXW.out
    have x0 : w3.cell? ⟨w.heap.size, 0, none⟩ = some (.int .i64 2) := hx3.cell 0
    have f0 := hx3.frozen 0
    have x1 : w3.cell? ⟨w.heap.size, 1, none⟩ = some (.string ⟨#[]⟩) := hx3.cell 1
    have f1 := hx3.frozen 1
    have x2 : w3.cell? ⟨w.heap.size, 2, none⟩ = some (.int .u16 0) := hx3.cell 2
    have f2 := hx3.frozen 2
    have x3 : w3.cell? ⟨w.heap.size, 3, none⟩ = some (.slice none 0 0) := hx3.cell 3
    have f3 := hx3.frozen 3
    have x4 : w3.cell? ⟨w.heap.size, 4, none⟩ = some (.int .u64 0) := hx3.cell 4
    have f4 := hx3.frozen 4
    have x5 : w3.cell? ⟨w.heap.size, 5, none⟩ = some (.int .u64 0) := hx3.cell 5
    have f5 := hx3.frozen 5
    have x6 : w3.cell? ⟨w.heap.size, 6, none⟩ = some (.slice none 0 0) := hx3.cell 6
    have f6 := hx3.frozen 6
    have x7 : w3.cell? ⟨w.heap.size, 7, none⟩ = some (.int .i64 0) := hx3.cell 7
    have f7 := hx3.frozen 7
    have x8 : w3.cell? ⟨w.heap.size, 8, none⟩ = some (.int .i64 0) := hx3.cell 8
    have f8 := hx3.frozen 8
    have HX3 : Hid (Whole ((w3.setCell ⟨w.heap.size, 1, none⟩ (.string ⟨un.toArray⟩)).setCell ⟨w.heap.size, 2, none⟩ (.int .u16 (nv : Int))) w.heap.size 48 #[.int .i64 2, .string ⟨un.toArray⟩, .int .u16 (nv : Int), .slice none 0 0, .int .u64 0, .int .u64 0, .slice none 0 0, .int .i64 0, .int .i64 0]) := Lib.hid ((hx3.put 1 (.string ⟨un.toArray⟩)).put 2 (.int .u16 (nv : Int)))
    have HB3 : Hid (Below w.heap.size w ((w3.setCell ⟨w.heap.size, 1, none⟩ (.string ⟨un.toArray⟩)).setCell ⟨w.heap.size, 2, none⟩ (.int .u16 (nv : Int)))) := Lib.hid (((HBW.out.trans (hb3.mono HBW.out.size)).setCell (p := ⟨w.heap.size, 1, none⟩) (Nat.le_refl _) _).setCell (p := ⟨w.heap.size, 2, none⟩) (Nat.le_refl _) _)
    clear hx3 hb3
    go_wp2_with fail
    refine bodyPost_ret (results_cell_row2 rfl _ _ w.heap.size 48 #[.int .i64 2, .string ⟨un.toArray⟩, .int .u16 (nv : Int), .slice none 0 0, .int .u64 0, .int .u64 0, .slice none 0 0, .int .i64 0, .int .i64 0] (0, 0) _ rfl (fin9 HX3.out HB3.out (Nat.le_refl _) _ _ _ _ _ _ _ _ _).1 Tryz.underlying48 rfl (by kernel_rfl)) rfl ?_
    exact op_simple (h := ⟨2, un, nv, [], 0, 0, 0, 0⟩) _ HOP.out.1 HOP.out.2 rfl (fin9 HX3.out HB3.out (Nat.le_refl _) _ _ _ _ _ _ _ _ _).2.1
  · -- kind 3
    obtain ⟨a, b, d, f, g, h, rfl⟩ := list6 (α := List UInt8) (l := ws) (by have h := (kind_many (ws := ws) (by rw [← hk]; decide)).1; rw [← hk] at h; exact h)
    have hop := op_3 hk
    have hkey := fun W E' hr' => key_any b d [f, g, h] (cutA A c 1 1) (n - 1) (c - 1) W E' (by rw [hn]; rfl) (by have := hlen b (by simp); omega) (by have := hlen d (by simp); omega) hr'
    have cut1 := fun W => run_cut_from (P := Tryz.prog) Tryz.underlying71 Tryz.sizeOf9 A n c .i64 1 (by omega) (by rw [hn]; simp) W
    obtain ⟨nv, hnv⟩ : ∃ q, q = numV d % 65536 := ⟨_, rfl⟩
    obtain ⟨un, hun⟩ : ∃ q, q = (unwordL b).getD [] := ⟨_, rfl⟩
    obtain ⟨q1, hq1⟩ : ∃ q, q = ((unwordL b).isSome && (numL d 65535).isSome) := ⟨_, rfl⟩
    simp only [← hnv, ← hun, ← hq1] at hkey hop
    have HKEY := Lib.hid hkey
    have hlg := hlen g (by simp)
    have cut3 := fun W => run_cut_from (P := Tryz.prog) Tryz.underlying71 Tryz.sizeOf9 A n c .i64 3 (by omega) (by rw [hn]; simp) W
    have HVIEW := Lib.hid fun v0 v1 v2 v3 v4 v5 v6 v8 W E' hb' hr' => view_any w.heap.size v0 v1 v2 v3 v4 v5 v6 v8 f g h (cutA A c 3 1) (n - 3) (c - 3) W E' hb' (by rw [hn]; rfl) (by omega) hr'
    have HOP := Lib.hid hop
    have HROW := Lib.hid (cut_rows hr hn hc)
    have HE := Lib.hid E
    have HKD := Lib.hid fun W => keyed_any 3 W
    have hn6 : n = 6 := hn
    subst hn6
    clear hk hop hr hlen hn E h0 hkey hnv hun hq1
    go_enter Tryz.func54, Tryz.ntmps54
    go_wp2_with fail
    refine HKI.out.mono ?_
    rintro e w2 ⟨rfl, rfl⟩
    go_wp2_with fail
    have HBW : Hid (Below w.heap.size w (w.alloc (.cells #[.int .i64 3, .string ⟨#[]⟩, .int .u16 0, .slice none 0 0, .int .u64 0, .int .u64 0, .slice none 0 0, .int .i64 0, .int .i64 0] 48))) := Lib.hid ((Below.refl _ _).alloc (Nat.le_refl _) _)
    have HXW : Hid (Whole (w.alloc (.cells #[.int .i64 3, .string ⟨#[]⟩, .int .u16 0, .slice none 0 0, .int .u64 0, .int .u64 0, .slice none 0 0, .int .i64 0, .int .i64 0] 48)) w.heap.size 48 #[.int .i64 3, .string ⟨#[]⟩, .int .u16 0, .slice none 0 0, .int .u64 0, .int .u64 0, .slice none 0 0, .int .i64 0, .int .i64 0]) := Lib.hid (Whole.new _ _ _)
    refine (HKD.out _).mono ?_
    rintro e w2 ⟨rfl, rfl⟩
    simp only [show keyT 3 = true from by decide]
    go_wp2_with fail
    refine (HKEY.out _ (HE.out.below HBW.out) (HROW.out _ HBW.out 1).row).mono ?_
    rintro e w3 ⟨rfl, hb3⟩
    have hx3 : Whole w3 w.heap.size 48 #[.int .i64 3, .string ⟨#[]⟩, .int .u16 0, .slice none 0 0, .int .u64 0, .int .u64 0, .slice none 0 0, .int .i64 0, .int .i64 0] := (hb3.block _ HXW.out.lt).trans HXW.out
    have x0 : w3.cell? ⟨w.heap.size, 0, none⟩ = some (.int .i64 3) := hx3.cell 0
    have f0 := hx3.frozen 0
    have x1 : w3.cell? ⟨w.heap.size, 1, none⟩ = some (.string ⟨#[]⟩) := hx3.cell 1
    have f1 := hx3.frozen 1
    have x2 : w3.cell? ⟨w.heap.size, 2, none⟩ = some (.int .u16 0) := hx3.cell 2
    have f2 := hx3.frozen 2
    have x3 : w3.cell? ⟨w.heap.size, 3, none⟩ = some (.slice none 0 0) := hx3.cell 3
    have f3 := hx3.frozen 3
    have x4 : w3.cell? ⟨w.heap.size, 4, none⟩ = some (.int .u64 0) := hx3.cell 4
    have f4 := hx3.frozen 4
    have x5 : w3.cell? ⟨w.heap.size, 5, none⟩ = some (.int .u64 0) := hx3.cell 5
    have f5 := hx3.frozen 5
    have x6 : w3.cell? ⟨w.heap.size, 6, none⟩ = some (.slice none 0 0) := hx3.cell 6
    have f6 := hx3.frozen 6
    have x7 : w3.cell? ⟨w.heap.size, 7, none⟩ = some (.int .i64 0) := hx3.cell 7
    have f7 := hx3.frozen 7
    have x8 : w3.cell? ⟨w.heap.size, 8, none⟩ = some (.int .i64 0) := hx3.cell 8
    have f8 := hx3.frozen 8
    have HX3 : Hid (Whole ((w3.setCell ⟨w.heap.size, 1, none⟩ (.string ⟨un.toArray⟩)).setCell ⟨w.heap.size, 2, none⟩ (.int .u16 (nv : Int))) w.heap.size 48 #[.int .i64 3, .string ⟨un.toArray⟩, .int .u16 (nv : Int), .slice none 0 0, .int .u64 0, .int .u64 0, .slice none 0 0, .int .i64 0, .int .i64 0]) := Lib.hid ((hx3.put 1 (.string ⟨un.toArray⟩)).put 2 (.int .u16 (nv : Int)))
    have HB3 : Hid (Below w.heap.size w ((w3.setCell ⟨w.heap.size, 1, none⟩ (.string ⟨un.toArray⟩)).setCell ⟨w.heap.size, 2, none⟩ (.int .u16 (nv : Int)))) := Lib.hid (((HBW.out.trans (hb3.mono HBW.out.size)).setCell (p := ⟨w.heap.size, 1, none⟩) (Nat.le_refl _) _).setCell (p := ⟨w.heap.size, 2, none⟩) (Nat.le_refl _) _)
    clear hx3 hb3
    go_wp2_with fail
    refine (HVIEW.out _ _ _ _ _ _ _ _ _ (HE.out.below HB3.out) HX3.out (HROW.out _ HB3.out 3)).mono ?_
    rintro e w4 ⟨rfl, hx4, hk4⟩
    clear x0 f0 x1 f1 x2 f2 x3 f3 x4 f4 x5 f5 x6 f6 x7 f7 x8 f8
    have x0 : w4.cell? ⟨w.heap.size, 0, none⟩ = some (.int .i64 3) := hx4.cell 0
    have f0 := hx4.frozen 0
    have x1 : w4.cell? ⟨w.heap.size, 1, none⟩ = some (.string ⟨un.toArray⟩) := hx4.cell 1
    have f1 := hx4.frozen 1
    have x2 : w4.cell? ⟨w.heap.size, 2, none⟩ = some (.int .u16 (nv : Int)) := hx4.cell 2
    have f2 := hx4.frozen 2
    have x3 : w4.cell? ⟨w.heap.size, 3, none⟩ = some (.slice none 0 0) := hx4.cell 3
    have f3 := hx4.frozen 3
    have x4 : w4.cell? ⟨w.heap.size, 4, none⟩ = some (.int .u64 0) := hx4.cell 4
    have f4 := hx4.frozen 4
    have x5 : w4.cell? ⟨w.heap.size, 5, none⟩ = some (.int .u64 0) := hx4.cell 5
    have f5 := hx4.frozen 5
    have x6 : w4.cell? ⟨w.heap.size, 6, none⟩ = some (.slice none 0 0) := hx4.cell 6
    have f6 := hx4.frozen 6
    have x7 : w4.cell? ⟨w.heap.size, 7, none⟩ = some (.int .i64 (howL f)) := hx4.cell 7
    have f7 := hx4.frozen 7
    have x8 : w4.cell? ⟨w.heap.size, 8, none⟩ = some (.int .i64 (codeV g)) := hx4.cell 8
    have f8 := hx4.frozen 8
    have HX4 := Lib.hid hx4
    have HB4 := Lib.hid (HB3.out.trans (hk4.to_below HB3.out.size (fun k hk e => by subst e; exact absurd hk (Nat.lt_irrefl _))))
    clear hx4 hk4
    obtain ⟨vb, hvb⟩ : ∃ q, q = viewB f g h := ⟨_, rfl⟩
    rw [← hvb] at HOP ⊢
    clear hvb
    cases vb
    · go_wp2_with fail
      refine bodyPost_ret (results_cell_row2 rfl _ _ w.heap.size 48 #[.int .i64 3, .string ⟨un.toArray⟩, .int .u16 (nv : Int), .slice none 0 0, .int .u64 0, .int .u64 0, .slice none 0 0, .int .i64 (howL f), .int .i64 (codeV g)] (0, 0) _ rfl (fin9 HX4.out HB4.out (Nat.le_refl _) _ _ _ _ _ _ _ _ _).1 Tryz.underlying48 rfl (by kernel_rfl)) rfl ?_
      exact op_simple (h := ⟨3, un, nv, [], 0, 0, howL f, codeV g⟩) _ (by rw [HOP.out.1]; rfl) HOP.out.2 rfl (fin9 HX4.out HB4.out (Nat.le_refl _) _ _ _ _ _ _ _ _ _).2.1
    · go_wp2_with fail
      refine bodyPost_ret (results_cell_row2 rfl _ _ w.heap.size 48 #[.int .i64 3, .string ⟨un.toArray⟩, .int .u16 (nv : Int), .slice none 0 0, .int .u64 0, .int .u64 0, .slice none 0 0, .int .i64 (howL f), .int .i64 (codeV g)] (0, 0) _ rfl (fin9 HX4.out HB4.out (Nat.le_refl _) _ _ _ _ _ _ _ _ _).1 Tryz.underlying48 rfl (by kernel_rfl)) rfl ?_
      exact op_simple (h := ⟨3, un, nv, [], 0, 0, howL f, codeV g⟩) _ (by rw [HOP.out.1]; rfl) HOP.out.2 rfl (fin9 HX4.out HB4.out (Nat.le_refl _) _ _ _ _ _ _ _ _ _).2.1
  · -- kind 4
    obtain ⟨a, b, d, rfl⟩ := list3 (α := List UInt8) (l := ws) (by have h := (kind_many (ws := ws) (by rw [← hk]; decide)).1; rw [← hk] at h; exact h)
    have hop := op_4 hk
    have hkey := fun W E' hr' => key_any b d [] (cutA A c 1 1) (n - 1) (c - 1) W E' (by rw [hn]; rfl) (by have := hlen b (by simp); omega) (by have := hlen d (by simp); omega) hr'
    have cut1 := fun W => run_cut_from (P := Tryz.prog) Tryz.underlying71 Tryz.sizeOf9 A n c .i64 1 (by omega) (by rw [hn]; simp) W
    obtain ⟨nv, hnv⟩ : ∃ q, q = numV d % 65536 := ⟨_, rfl⟩
    obtain ⟨un, hun⟩ : ∃ q, q = (unwordL b).getD [] := ⟨_, rfl⟩
    obtain ⟨q1, hq1⟩ : ∃ q, q = ((unwordL b).isSome && (numL d 65535).isSome) := ⟨_, rfl⟩
    simp only [← hnv, ← hun, ← hq1] at hkey hop
    have HKEY := Lib.hid hkey
    have HOP := Lib.hid hop
    have HROW := Lib.hid (cut_rows hr hn hc)
    have HE := Lib.hid E
    have HKD := Lib.hid fun W => keyed_any 4 W
    have hn3 : n = 3 := hn
    subst hn3
    clear hk hop hr hlen hn E h0 hkey hnv hun hq1
    go_enter Tryz.func54, Tryz.ntmps54
    go_wp2_with fail
    refine HKI.out.mono ?_
    rintro e w2 ⟨rfl, rfl⟩
    go_wp2_with fail
    have HBW : Hid (Below w.heap.size w (w.alloc (.cells #[.int .i64 4, .string ⟨#[]⟩, .int .u16 0, .slice none 0 0, .int .u64 0, .int .u64 0, .slice none 0 0, .int .i64 0, .int .i64 0] 48))) := Lib.hid ((Below.refl _ _).alloc (Nat.le_refl _) _)
    have HXW : Hid (Whole (w.alloc (.cells #[.int .i64 4, .string ⟨#[]⟩, .int .u16 0, .slice none 0 0, .int .u64 0, .int .u64 0, .slice none 0 0, .int .i64 0, .int .i64 0] 48)) w.heap.size 48 #[.int .i64 4, .string ⟨#[]⟩, .int .u16 0, .slice none 0 0, .int .u64 0, .int .u64 0, .slice none 0 0, .int .i64 0, .int .i64 0]) := Lib.hid (Whole.new _ _ _)
    refine (HKD.out _).mono ?_
    rintro e w2 ⟨rfl, rfl⟩
    simp only [show keyT 4 = true from by decide]
    go_wp2_with fail
    refine (HKEY.out _ (HE.out.below HBW.out) (HROW.out _ HBW.out 1).row).mono ?_
    rintro e w3 ⟨rfl, hb3⟩
    have hx3 : Whole w3 w.heap.size 48 #[.int .i64 4, .string ⟨#[]⟩, .int .u16 0, .slice none 0 0, .int .u64 0, .int .u64 0, .slice none 0 0, .int .i64 0, .int .i64 0] := (hb3.block _ HXW.out.lt).trans HXW.out
    have x0 : w3.cell? ⟨w.heap.size, 0, none⟩ = some (.int .i64 4) := hx3.cell 0
    have f0 := hx3.frozen 0
    have x1 : w3.cell? ⟨w.heap.size, 1, none⟩ = some (.string ⟨#[]⟩) := hx3.cell 1
    have f1 := hx3.frozen 1
    have x2 : w3.cell? ⟨w.heap.size, 2, none⟩ = some (.int .u16 0) := hx3.cell 2
    have f2 := hx3.frozen 2
    have x3 : w3.cell? ⟨w.heap.size, 3, none⟩ = some (.slice none 0 0) := hx3.cell 3
    have f3 := hx3.frozen 3
    have x4 : w3.cell? ⟨w.heap.size, 4, none⟩ = some (.int .u64 0) := hx3.cell 4
    have f4 := hx3.frozen 4
    have x5 : w3.cell? ⟨w.heap.size, 5, none⟩ = some (.int .u64 0) := hx3.cell 5
    have f5 := hx3.frozen 5
    have x6 : w3.cell? ⟨w.heap.size, 6, none⟩ = some (.slice none 0 0) := hx3.cell 6
    have f6 := hx3.frozen 6
    have x7 : w3.cell? ⟨w.heap.size, 7, none⟩ = some (.int .i64 0) := hx3.cell 7
    have f7 := hx3.frozen 7
    have x8 : w3.cell? ⟨w.heap.size, 8, none⟩ = some (.int .i64 0) := hx3.cell 8
    have f8 := hx3.frozen 8
    have HX3 : Hid (Whole ((w3.setCell ⟨w.heap.size, 1, none⟩ (.string ⟨un.toArray⟩)).setCell ⟨w.heap.size, 2, none⟩ (.int .u16 (nv : Int))) w.heap.size 48 #[.int .i64 4, .string ⟨un.toArray⟩, .int .u16 (nv : Int), .slice none 0 0, .int .u64 0, .int .u64 0, .slice none 0 0, .int .i64 0, .int .i64 0]) := Lib.hid ((hx3.put 1 (.string ⟨un.toArray⟩)).put 2 (.int .u16 (nv : Int)))
    have HB3 : Hid (Below w.heap.size w ((w3.setCell ⟨w.heap.size, 1, none⟩ (.string ⟨un.toArray⟩)).setCell ⟨w.heap.size, 2, none⟩ (.int .u16 (nv : Int)))) := Lib.hid (((HBW.out.trans (hb3.mono HBW.out.size)).setCell (p := ⟨w.heap.size, 1, none⟩) (Nat.le_refl _) _).setCell (p := ⟨w.heap.size, 2, none⟩) (Nat.le_refl _) _)
    clear hx3 hb3
    go_wp2_with fail
    refine bodyPost_ret (results_cell_row2 rfl _ _ w.heap.size 48 #[.int .i64 4, .string ⟨un.toArray⟩, .int .u16 (nv : Int), .slice none 0 0, .int .u64 0, .int .u64 0, .slice none 0 0, .int .i64 0, .int .i64 0] (0, 0) _ rfl (fin9 HX3.out HB3.out (Nat.le_refl _) _ _ _ _ _ _ _ _ _).1 Tryz.underlying48 rfl (by kernel_rfl)) rfl ?_
    exact op_simple (h := ⟨4, un, nv, [], 0, 0, 0, 0⟩) _ HOP.out.1 HOP.out.2 rfl (fin9 HX3.out HB3.out (Nat.le_refl _) _ _ _ _ _ _ _ _ _).2.1
  · -- kind 5
    obtain ⟨a, b, rfl⟩ := list2 (α := List UInt8) (l := ws) (by have h := (kind_many (ws := ws) (by rw [← hk]; decide)).1; rw [← hk] at h; exact h)
    have hop := op_5 hk
    have hlb := hlen b (by simp)
    have hnum := fun W E' => number_any b mostL W E' (by omega)
    rw [show ((mostL : Nat) : Int) = 18446744073709551615 from by decide] at hnum
    have HNU := Lib.hid hnum
    clear hnum
    obtain ⟨bA, offA, rfl, hcb⟩ := hr 1 (.string ⟨b.toArray⟩) rfl
    have hlc := lt_of_cell hcb
    dsimp only at hlc
    have HCB : Hid (∀ W, Below w.heap.size w W → W.cell? ⟨bA, offA + 1, none⟩ = some (.string ⟨b.toArray⟩)) := Lib.hid fun W hb => (hb.cell (p := ⟨bA, offA + 1, none⟩) hlc).trans hcb
    clear hcb hlc
    have HOP := Lib.hid hop
    have HROW := Lib.hid (cut_rows hr hn hc)
    have HE := Lib.hid E
    have HKD := Lib.hid fun W => keyed_any 5 W
    have hn2 : n = 2 := hn
    subst hn2
    clear hk hop hr hlen hn E h0
    go_enter Tryz.func54, Tryz.ntmps54
    go_wp2_with fail
    refine HKI.out.mono ?_
    rintro e w2 ⟨rfl, rfl⟩
    go_wp2_with fail
    have HBW : Hid (Below w.heap.size w (w.alloc (.cells #[.int .i64 5, .string ⟨#[]⟩, .int .u16 0, .slice none 0 0, .int .u64 0, .int .u64 0, .slice none 0 0, .int .i64 0, .int .i64 0] 48))) := Lib.hid ((Below.refl _ _).alloc (Nat.le_refl _) _)
    have HXW : Hid (Whole (w.alloc (.cells #[.int .i64 5, .string ⟨#[]⟩, .int .u16 0, .slice none 0 0, .int .u64 0, .int .u64 0, .slice none 0 0, .int .i64 0, .int .i64 0] 48)) w.heap.size 48 #[.int .i64 5, .string ⟨#[]⟩, .int .u16 0, .slice none 0 0, .int .u64 0, .int .u64 0, .slice none 0 0, .int .i64 0, .int .i64 0]) := Lib.hid (Whole.new _ _ _)
    have d1 := HCB.out _ HBW.out
    refine (HKD.out _).mono ?_
    rintro e w2 ⟨rfl, rfl⟩
    simp only [show keyT 5 = false from by decide]
    go_wp2_with fail
    refine (HNU.out _ (HE.out.below HBW.out)).mono ?_
    rintro e w3 ⟨rfl, hb3⟩
    have hx3 : Whole w3 w.heap.size 48 #[.int .i64 5, .string ⟨#[]⟩, .int .u16 0, .slice none 0 0, .int .u64 0, .int .u64 0, .slice none 0 0, .int .i64 0, .int .i64 0] := (hb3.block _ HXW.out.lt).trans HXW.out
    have x0 : w3.cell? ⟨w.heap.size, 0, none⟩ = some (.int .i64 5) := hx3.cell 0
    have f0 := hx3.frozen 0
    have x1 : w3.cell? ⟨w.heap.size, 1, none⟩ = some (.string ⟨#[]⟩) := hx3.cell 1
    have f1 := hx3.frozen 1
    have x2 : w3.cell? ⟨w.heap.size, 2, none⟩ = some (.int .u16 0) := hx3.cell 2
    have f2 := hx3.frozen 2
    have x3 : w3.cell? ⟨w.heap.size, 3, none⟩ = some (.slice none 0 0) := hx3.cell 3
    have f3 := hx3.frozen 3
    have x4 : w3.cell? ⟨w.heap.size, 4, none⟩ = some (.int .u64 0) := hx3.cell 4
    have f4 := hx3.frozen 4
    have x5 : w3.cell? ⟨w.heap.size, 5, none⟩ = some (.int .u64 0) := hx3.cell 5
    have f5 := hx3.frozen 5
    have x6 : w3.cell? ⟨w.heap.size, 6, none⟩ = some (.slice none 0 0) := hx3.cell 6
    have f6 := hx3.frozen 6
    have x7 : w3.cell? ⟨w.heap.size, 7, none⟩ = some (.int .i64 0) := hx3.cell 7
    have f7 := hx3.frozen 7
    have x8 : w3.cell? ⟨w.heap.size, 8, none⟩ = some (.int .i64 0) := hx3.cell 8
    have f8 := hx3.frozen 8
    have HX3 : Hid (Whole (w3.setCell ⟨w.heap.size, 5, none⟩ (.int .u64 (numV b : Nat))) w.heap.size 48 #[.int .i64 5, .string ⟨#[]⟩, .int .u16 0, .slice none 0 0, .int .u64 0, .int .u64 (numV b : Nat), .slice none 0 0, .int .i64 0, .int .i64 0]) := Lib.hid (hx3.put 5 (.int .u64 (numV b : Nat)))
    have HB3 : Hid (Below w.heap.size w (w3.setCell ⟨w.heap.size, 5, none⟩ (.int .u64 (numV b : Nat)))) := Lib.hid ((HBW.out.trans (hb3.mono HBW.out.size)).setCell (p := ⟨w.heap.size, 5, none⟩) (Nat.le_refl _) _)
    clear hx3 hb3
    go_wp2_with fail
    refine bodyPost_ret (results_cell_row2 rfl _ _ w.heap.size 48 #[.int .i64 5, .string ⟨#[]⟩, .int .u16 0, .slice none 0 0, .int .u64 0, .int .u64 (numV b : Nat), .slice none 0 0, .int .i64 0, .int .i64 0] (0, 0) _ rfl (fin9 HX3.out HB3.out (Nat.le_refl _) _ _ _ _ _ _ _ _ _).1 Tryz.underlying48 rfl (by kernel_rfl)) rfl ?_
    exact op_simple (h := ⟨5, [], 0, [], 0, numV b, 0, 0⟩) _ HOP.out.1 HOP.out.2 rfl (fin9 HX3.out HB3.out (Nat.le_refl _) _ _ _ _ _ _ _ _ _).2.1
  · -- kind 6
    obtain ⟨a, b, rfl⟩ := list2 (α := List UInt8) (l := ws) (by have h := (kind_many (ws := ws) (by rw [← hk]; decide)).1; rw [← hk] at h; exact h)
    have hop := op_6 hk
    have hlb := hlen b (by simp)
    have hnum := fun W E' => number_any b mostL W E' (by omega)
    rw [show ((mostL : Nat) : Int) = 18446744073709551615 from by decide] at hnum
    have HNU := Lib.hid hnum
    clear hnum
    obtain ⟨bA, offA, rfl, hcb⟩ := hr 1 (.string ⟨b.toArray⟩) rfl
    have hlc := lt_of_cell hcb
    dsimp only at hlc
    have HCB : Hid (∀ W, Below w.heap.size w W → W.cell? ⟨bA, offA + 1, none⟩ = some (.string ⟨b.toArray⟩)) := Lib.hid fun W hb => (hb.cell (p := ⟨bA, offA + 1, none⟩) hlc).trans hcb
    clear hcb hlc
    have HOP := Lib.hid hop
    have HROW := Lib.hid (cut_rows hr hn hc)
    have HE := Lib.hid E
    have HKD := Lib.hid fun W => keyed_any 6 W
    have hn2 : n = 2 := hn
    subst hn2
    clear hk hop hr hlen hn E h0
    go_enter Tryz.func54, Tryz.ntmps54
    go_wp2_with fail
    refine HKI.out.mono ?_
    rintro e w2 ⟨rfl, rfl⟩
    go_wp2_with fail
    have HBW : Hid (Below w.heap.size w (w.alloc (.cells #[.int .i64 6, .string ⟨#[]⟩, .int .u16 0, .slice none 0 0, .int .u64 0, .int .u64 0, .slice none 0 0, .int .i64 0, .int .i64 0] 48))) := Lib.hid ((Below.refl _ _).alloc (Nat.le_refl _) _)
    have HXW : Hid (Whole (w.alloc (.cells #[.int .i64 6, .string ⟨#[]⟩, .int .u16 0, .slice none 0 0, .int .u64 0, .int .u64 0, .slice none 0 0, .int .i64 0, .int .i64 0] 48)) w.heap.size 48 #[.int .i64 6, .string ⟨#[]⟩, .int .u16 0, .slice none 0 0, .int .u64 0, .int .u64 0, .slice none 0 0, .int .i64 0, .int .i64 0]) := Lib.hid (Whole.new _ _ _)
    have d1 := HCB.out _ HBW.out
    refine (HKD.out _).mono ?_
    rintro e w2 ⟨rfl, rfl⟩
    simp only [show keyT 6 = false from by decide]
    go_wp2_with fail
    refine (HNU.out _ (HE.out.below HBW.out)).mono ?_
    rintro e w3 ⟨rfl, hb3⟩
    have hx3 : Whole w3 w.heap.size 48 #[.int .i64 6, .string ⟨#[]⟩, .int .u16 0, .slice none 0 0, .int .u64 0, .int .u64 0, .slice none 0 0, .int .i64 0, .int .i64 0] := (hb3.block _ HXW.out.lt).trans HXW.out
    have x0 : w3.cell? ⟨w.heap.size, 0, none⟩ = some (.int .i64 6) := hx3.cell 0
    have f0 := hx3.frozen 0
    have x1 : w3.cell? ⟨w.heap.size, 1, none⟩ = some (.string ⟨#[]⟩) := hx3.cell 1
    have f1 := hx3.frozen 1
    have x2 : w3.cell? ⟨w.heap.size, 2, none⟩ = some (.int .u16 0) := hx3.cell 2
    have f2 := hx3.frozen 2
    have x3 : w3.cell? ⟨w.heap.size, 3, none⟩ = some (.slice none 0 0) := hx3.cell 3
    have f3 := hx3.frozen 3
    have x4 : w3.cell? ⟨w.heap.size, 4, none⟩ = some (.int .u64 0) := hx3.cell 4
    have f4 := hx3.frozen 4
    have x5 : w3.cell? ⟨w.heap.size, 5, none⟩ = some (.int .u64 0) := hx3.cell 5
    have f5 := hx3.frozen 5
    have x6 : w3.cell? ⟨w.heap.size, 6, none⟩ = some (.slice none 0 0) := hx3.cell 6
    have f6 := hx3.frozen 6
    have x7 : w3.cell? ⟨w.heap.size, 7, none⟩ = some (.int .i64 0) := hx3.cell 7
    have f7 := hx3.frozen 7
    have x8 : w3.cell? ⟨w.heap.size, 8, none⟩ = some (.int .i64 0) := hx3.cell 8
    have f8 := hx3.frozen 8
    have HX3 : Hid (Whole (w3.setCell ⟨w.heap.size, 5, none⟩ (.int .u64 (numV b : Nat))) w.heap.size 48 #[.int .i64 6, .string ⟨#[]⟩, .int .u16 0, .slice none 0 0, .int .u64 0, .int .u64 (numV b : Nat), .slice none 0 0, .int .i64 0, .int .i64 0]) := Lib.hid (hx3.put 5 (.int .u64 (numV b : Nat)))
    have HB3 : Hid (Below w.heap.size w (w3.setCell ⟨w.heap.size, 5, none⟩ (.int .u64 (numV b : Nat)))) := Lib.hid ((HBW.out.trans (hb3.mono HBW.out.size)).setCell (p := ⟨w.heap.size, 5, none⟩) (Nat.le_refl _) _)
    clear hx3 hb3
    go_wp2_with fail
    refine bodyPost_ret (results_cell_row2 rfl _ _ w.heap.size 48 #[.int .i64 6, .string ⟨#[]⟩, .int .u16 0, .slice none 0 0, .int .u64 0, .int .u64 (numV b : Nat), .slice none 0 0, .int .i64 0, .int .i64 0] (0, 0) _ rfl (fin9 HX3.out HB3.out (Nat.le_refl _) _ _ _ _ _ _ _ _ _).1 Tryz.underlying48 rfl (by kernel_rfl)) rfl ?_
    exact op_simple (h := ⟨6, [], 0, [], 0, numV b, 0, 0⟩) _ HOP.out.1 HOP.out.2 rfl (fin9 HX3.out HB3.out (Nat.le_refl _) _ _ _ _ _ _ _ _ _).2.1
  · -- kind 7
    obtain ⟨a, rfl⟩ := list1 (α := List UInt8) (l := ws) (by have h := (kind_many (ws := ws) (by rw [← hk]; decide)).1; rw [← hk] at h; exact h)
    have hop := op_7 hk
    have HOP := Lib.hid hop
    have HROW := Lib.hid (cut_rows hr hn hc)
    have HE := Lib.hid E
    have HKD := Lib.hid fun W => keyed_any 7 W
    have hn1 : n = 1 := hn
    subst hn1
    clear hk hop hr hlen hn E h0
    go_enter Tryz.func54, Tryz.ntmps54
    go_wp2_with fail
    refine HKI.out.mono ?_
    rintro e w2 ⟨rfl, rfl⟩
    go_wp2_with fail
    have HBW : Hid (Below w.heap.size w (w.alloc (.cells #[.int .i64 7, .string ⟨#[]⟩, .int .u16 0, .slice none 0 0, .int .u64 0, .int .u64 0, .slice none 0 0, .int .i64 0, .int .i64 0] 48))) := Lib.hid ((Below.refl _ _).alloc (Nat.le_refl _) _)
    have HXW : Hid (Whole (w.alloc (.cells #[.int .i64 7, .string ⟨#[]⟩, .int .u16 0, .slice none 0 0, .int .u64 0, .int .u64 0, .slice none 0 0, .int .i64 0, .int .i64 0] 48)) w.heap.size 48 #[.int .i64 7, .string ⟨#[]⟩, .int .u16 0, .slice none 0 0, .int .u64 0, .int .u64 0, .slice none 0 0, .int .i64 0, .int .i64 0]) := Lib.hid (Whole.new _ _ _)
    refine (HKD.out _).mono ?_
    rintro e w2 ⟨rfl, rfl⟩
    simp only [show keyT 7 = false from by decide]
    go_wp2_with fail
    refine bodyPost_ret (results_cell_row2 rfl _ _ w.heap.size 48 _ (0, 0) _ rfl HXW.out Tryz.underlying48 rfl (by kernel_rfl)) rfl ?_
    exact op_simple (h := ⟨7, [], 0, [], 0, 0, 0, 0⟩) true (by rw [HOP.out]; rfl) (fun h' e => by rw [HOP.out] at e; cases e; rfl) rfl HBW.out
  · -- kind 8
    obtain ⟨a, rfl⟩ := list1 (α := List UInt8) (l := ws) (by have h := (kind_many (ws := ws) (by rw [← hk]; decide)).1; rw [← hk] at h; exact h)
    have hop := op_8 hk
    have HOP := Lib.hid hop
    have HROW := Lib.hid (cut_rows hr hn hc)
    have HE := Lib.hid E
    have HKD := Lib.hid fun W => keyed_any 8 W
    have hn1 : n = 1 := hn
    subst hn1
    clear hk hop hr hlen hn E h0
    go_enter Tryz.func54, Tryz.ntmps54
    go_wp2_with fail
    refine HKI.out.mono ?_
    rintro e w2 ⟨rfl, rfl⟩
    go_wp2_with fail
    have HBW : Hid (Below w.heap.size w (w.alloc (.cells #[.int .i64 8, .string ⟨#[]⟩, .int .u16 0, .slice none 0 0, .int .u64 0, .int .u64 0, .slice none 0 0, .int .i64 0, .int .i64 0] 48))) := Lib.hid ((Below.refl _ _).alloc (Nat.le_refl _) _)
    have HXW : Hid (Whole (w.alloc (.cells #[.int .i64 8, .string ⟨#[]⟩, .int .u16 0, .slice none 0 0, .int .u64 0, .int .u64 0, .slice none 0 0, .int .i64 0, .int .i64 0] 48)) w.heap.size 48 #[.int .i64 8, .string ⟨#[]⟩, .int .u16 0, .slice none 0 0, .int .u64 0, .int .u64 0, .slice none 0 0, .int .i64 0, .int .i64 0]) := Lib.hid (Whole.new _ _ _)
    refine (HKD.out _).mono ?_
    rintro e w2 ⟨rfl, rfl⟩
    simp only [show keyT 8 = false from by decide]
    go_wp2_with fail
    refine bodyPost_ret (results_cell_row2 rfl _ _ w.heap.size 48 _ (0, 0) _ rfl HXW.out Tryz.underlying48 rfl (by kernel_rfl)) rfl ?_
    exact op_simple (h := ⟨8, [], 0, [], 0, 0, 0, 0⟩) true (by rw [HOP.out]; rfl) (fun h' e => by rw [HOP.out] at e; cases e; rfl) rfl HBW.out
  -- END KINDS
end Go.Proofs.YtifmgmiaeoiidaaGreatDoor
