/-
  The walk of layer script's writer.line: words as a line. No more than 2^45 bytes.
-/
import Derived.Test.YtifmgmiaeoiidaaGreatDoorScrS
import Derived.Test.YtifmgmiaeoiidaaGreatDoorScrW
import Derived.Test.YtifmgmiaeoiidaaGreatDoorRpt
import Derived.Deep.RegionHeld3
namespace Go.Scrp
/-- A line of words, so many deep. -/
def lineT (deep : Nat) (ws : List (List UInt8)) : List UInt8 := List.replicate (deep - 1) 32 ++ Lib.join ws [32] ++ [10]
theorem repeat_one (x : UInt8) : ∀ c, Lib.repeatL [x] c = List.replicate c x
  | 0 => rfl
  | c + 1 => by rw [Lib.repeatL, repeat_one x c]; rfl
theorem line_len (deep : Nat) (ws : List (List UInt8)) (h : ws ≠ []) : (lineT deep ws).length = deep - 1 + bulk ws := by
  have := join_bulk 32 ws h
  simp [lineT]
  omega
end Go.Scrp
namespace Go.Proofs.YtifmgmiaeoiidaaGreatDoor
open Go.RowKit Go.Colm Go.Scrp
set_option linter.unusedVariables false

theorem IsWriter.below {B b : Nat} {bs : List Value} {wr : Bool} {w w' : World} (h : IsWriter B b bs wr w) (hb : Below w.heap.size w w') : IsWriter B b bs wr w' := by
  have key : ∀ p, WriterAt B b p bs wr w → WriterAt B b p bs wr w' := by
    rintro p ⟨hB, v, hbk, hown, hne, he⟩
    have hlt : b < w.heap.size := by
      rcases Nat.lt_or_ge b w.heap.size with h' | h'
      · exact h'
      · simp [Array.getElem?_eq_none h'] at hbk
    exact ⟨hB, v, (hb.block b hlt).trans hbk, own_kept (Kept.below hb (fun _ => False)) hown fun _ _ => id, hne, he⟩
  rcases h with h | h
  · exact .inl (key _ h)
  · exact .inr (key _ h)
theorem IsWriter.lt {B b : Nat} {bs : List Value} {wr : Bool} {w : World} (h : IsWriter B b bs wr w) : b < w.heap.size := by
  obtain ⟨p, h⟩ := h.at
  exact h.lt

set_option maxRecDepth 100000 in
set_option maxHeartbeats 4000000 in
theorem line_any (B b deep : Nat) (ws : List (List UInt8)) (A : Option Addr) (c : Nat) (bs : List UInt8) (wr : Bool) (w : World) (h : IsWriter B b (Lib.byteCells bs) wr w) (hB : B ≤ w.heap.size) (h0 : ws ≠ []) (hr : RowV w A (txtV ws)) (hc : ws.length ≤ c) (hd : 1 ≤ deep) (hd2 : deep ≤ 1000) (hlen : bs.length + deep + bulk ws ≤ 35184372088832) :
    Calls Tryz.prog 48 #[.pointer (some ⟨b, 0, none⟩), .int .i64 (deep : Int), .slice A ws.length c] w fun e w' =>
      e = .returned (.tuple #[]) ∧ IsWriter B b (Lib.byteCells (bs ++ lineT deep ws)) wr w' ∧ Wrote B w w' := by
  have hbl := bulk_length ws
  have hjb := join_bulk 32 ws h0
  obtain ⟨R, hR⟩ : ∃ R : ByteArray, R = ⟨(List.replicate (deep - 1) (32 : UInt8)).toArray⟩ := ⟨_, rfl⟩
  obtain ⟨J, hJ⟩ : ∃ J : ByteArray, J = ⟨(Lib.join ws [32]).toArray⟩ := ⟨_, rfl⟩
  have hRs : R.size = deep - 1 := by rw [hR, str_size]; simp
  have hJs : J.size + 1 = bulk ws := by rw [hJ, str_size]; exact hjb
  have hrep : ∀ W, Below w.heap.size w W → Calls Tryz.prog 50 #[.string ⟨#[32]⟩, .int .i64 ((deep : Int) - 1)] W fun e w' => e = .returned (.string R) ∧ Below w.heap.size w w' ∧ Below B w w' := fun W hb => by
    have h := repeat_any ⟨#[32]⟩ (deep - 1) W (by omega) (by show 1 * (deep - 1) ≤ _; omega)
    rw [show ((deep - 1 : Nat) : Int) = (deep : Int) - 1 by omega] at h
    refine h.mono ?_
    rintro e w' ⟨rfl, hb'⟩
    have hq := below_chain hb hb'
    refine ⟨?_, hq, hq.mono hB⟩
    rw [hR, ← repeat_one]
  have hjoin : ∀ W, Below w.heap.size w W → Calls Tryz.prog 62 #[.slice A ws.length c, .string ⟨#[32]⟩] W fun e w' => e = .returned (.string J) ∧ Below w.heap.size w w' ∧ Below B w w' := fun W hb => by
    refine (join_row A c ws ⟨#[32]⟩ W h0 hc (hr.below hb) (by omega) (by
      show (Lib.join ws [32]).length ≤ _
      omega)).mono ?_
    rintro e w' ⟨rfl, hb'⟩
    have hq := below_chain hb hb'
    refine ⟨?_, hq, hq.mono hB⟩
    rw [hJ]
  obtain ⟨T, hT⟩ : ∃ T : ByteArray, T = R ++ J ++ ⟨#[10]⟩ := ⟨_, rfl⟩
  have hsz : T.size = R.size + J.size + 1 := by
    rw [hT, ByteArray.size_append, ByteArray.size_append]
    rfl
  have hcells : Lib.byteCells bs ++ Lib.strCells T = Lib.byteCells (bs ++ lineT deep ws) := by
    rw [Lib.byteCells_append]
    congr 1
    rw [hT, hR, hJ]
    simp [Lib.strCells, Lib.byteCells, lineT]
  have hwrite : ∀ W, Below w.heap.size w W → Calls Tryz.prog 64 #[.pointer (some ⟨b, 0, none⟩), .string T] W fun e w' => (∃ n : Int, e = .returned (.tuple #[.int .i64 n, .nilIface])) ∧ IsWriter B b (Lib.byteCells (bs ++ lineT deep ws)) wr w' ∧ Wrote B w w' := fun W hb => by
    refine (wwrite_any B b (Lib.byteCells bs) T wr W (h.below hb) (by rw [Lib.byteCells_length, hsz]; omega) (by rw [hsz]; omega) (Nat.le_trans hB hb.size)).mono ?_
    rintro e w' ⟨rfl, h1, h2⟩
    refine ⟨⟨_, rfl⟩, ?_, (Wrote.below hb hB).trans h2⟩
    rw [← hcells]
    exact .inr h1
  clear hcells hsz
  subst hT
  have HREP := Lib.hid hrep
  have HJOIN := Lib.hid hjoin
  have HWRITE := Lib.hid hwrite
  have hwr : IntKind.i64.wrap ((deep : Int) - 1) = (deep : Int) - 1 := IntWalk.i64_in _ (by omega)
  have hk1 : ¬ (9223372036854775807 < R.size + J.size) := by omega
  have hk2 : ¬ (9223372036854775807 < R.size + J.size + 1) := by omega
  have hS0 : Below w.heap.size w w.drew := (Below.refl _ _).drew
  have hS1 : Below B w w.drew := (Below.refl _ _).drew
  clear hrep hjoin hwrite h hr hR hJ hRs hJs hjb hbl hlen hd hd2 hc h0 hB
  go_enter Tryz.func48, Tryz.ntmps48
  go_wp2_with fail
  go_region_held3 (fun W => Below B w W) (first | exact hS1 | assumption)
    (first
      | ((go_at_call 50; with_reducible refine (HREP.out _ (by assumption)).mono ?_); rintro e w2 ⟨rfl, hb2, hc2⟩)
      | ((go_at_call 62; with_reducible refine (HJOIN.out _ (by assumption)).mono ?_); rintro e w3 ⟨rfl, hb3, hc3⟩)
      | ((go_at_call 64; with_reducible refine (HWRITE.out _ (by assumption)).mono ?_); rintro e w4 ⟨⟨n4, rfl⟩, hI4, hb4⟩; have hb5 := hb4.1))
  all_goals (go_wp2_with fail; go_end0; exact ⟨rfl, hI4, hb4⟩)
end Go.Proofs.YtifmgmiaeoiidaaGreatDoor
