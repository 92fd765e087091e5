/-
  The walk of layer 35's prints: the page's example comes out. strconv's variables as Env says.
-/
import Derived.Test.YtifmgmiaeoiidaaGreatDoorScrAB
import Derived.Test.YtifmgmiaeoiidaaGreatDoorScrAD
namespace Go.Proofs.YtifmgmiaeoiidaaGreatDoor
open Go.RowKit Go.Colm Go.Scrp
set_option linter.unusedVariables false

def exStats : Opd := .mk ⟨8, [], 0, [], 0, 0, 0, 0⟩ []
def exL : List Opd := [.mk ⟨1, [97], 1, [[120], []], 0, 0, 0, 0⟩ [], .mk ⟨3, [98, 32, 99], 0, [], 0, 0, 1, -7⟩ [exStats]]
def exT : List UInt8 := [112, 117, 116, 32, 97, 32, 49, 32, 48, 32, 55, 56, 44, 45, 10, 118, 105, 101, 119, 32, 61, 54, 50, 50, 48, 54, 51, 32, 48, 32, 112, 97, 110, 105, 99, 32, 45, 55, 32, 123, 10, 32, 115, 116, 97, 116, 115, 10, 125, 10]
theorem ex_print : printL exL = (exT, 0) := by kernel_rfl
theorem ex_parse : parseL exT = .ok exL 4 := by kernel_rfl
theorem ex_bad : parseL [115, 116, 97, 116, 115, 10, 103, 101, 116, 32, 97, 10] = .bad 2 := by kernel_rfl
theorem ex_at {W : World} {h0 : Nat} (h1 : W.cell? ⟨h0, 0, none⟩ = some (.int .u8 120)) (h2 : Whole W (h0 + 1) 44 #[.slice (some ⟨h0, 0, none⟩) 1 1, .slice none 0 0])
    (h3 : Whole W (h0 + 1 + 1) 48 #[.int .i64 8, .string ⟨#[]⟩, .int .u16 0, .slice none 0 0, .int .u64 0, .int .u64 0, .slice none 0 0, .int .i64 0, .int .i64 0])
    (h4 : Whole W (h0 + 1 + 1 + 1) 48 #[.int .i64 1, .string ⟨#[97]⟩, .int .u16 1, .slice (some ⟨h0 + 1, 0, none⟩) 2 2, .int .u64 0, .int .u64 0, .slice none 0 0, .int .i64 0, .int .i64 0,
      .int .i64 3, .string ⟨#[98, 32, 99]⟩, .int .u16 0, .slice none 0 0, .int .u64 0, .int .u64 0, .slice (some ⟨h0 + 1 + 1, 0, none⟩) 1 1, .int .i64 1, .int .i64 (-7)]) :
    OpdsAt (fun _ => True) W (some ⟨h0 + 1 + 1 + 1, 0, none⟩) 0 exL := by
  have hml : (2 : Nat) ≤ maxLen := by unfold maxLen; omega
  have hml1 : (1 : Nat) ≤ maxLen := by unfold maxLen; omega
  have hml0 : (0 : Nat) ≤ maxLen := Nat.zero_le _
  refine opdsAt_cons.2 ⟨⟨_, 0, rfl, opdAt_mk.2 ⟨ok_mk (by omega) (by omega) (by omega) (by omega) (by omega) (by omega), trivial, h4.cell 0, h4.cell 1, h4.cell 2, ⟨_, _, h4.cell 3, ⟨by decide, hml⟩, ?_⟩, h4.cell 4, h4.cell 5, ⟨_, _, h4.cell 6, ⟨by decide, hml0⟩, opdsAt_nil⟩, h4.cell 7, h4.cell 8⟩⟩, ?_⟩
  · intro i hi
    have : i = 0 ∨ i = 1 := by
      have : i < 2 := hi
      omega
    rcases this with rfl | rfl
    · refine ⟨_, 0, _, 1, rfl, trivial, h2.cell 0, ⟨Nat.le_refl 1, hml1⟩, fun j v hv => ?_⟩
      have hj : j = 0 := by
        have := (List.getElem?_eq_some_iff.1 hv).1
        have : j < 1 := this
        omega
      subst hj
      refine ⟨h0, 0, rfl, trivial, ?_⟩
      rw [← hv]
      exact h1
    · exact ⟨_, 0, _, 0, rfl, trivial, h2.cell 1, ⟨Nat.le_refl 0, hml0⟩, fun j v hv => by simp [bytesV] at hv⟩
  · refine opdsAt_cons.2 ⟨⟨_, 0, rfl, opdAt_mk.2 ⟨ok_mk (by omega) (by omega) (by omega) (by omega) (by omega) (by omega), trivial, h4.cell 9, h4.cell 10, h4.cell 11, ⟨_, _, h4.cell 12, ⟨by decide, hml0⟩, RecsAt.nil _ _ _⟩, h4.cell 13, h4.cell 14, ⟨_, _, h4.cell 15, ⟨by decide, hml1⟩, ?_⟩, h4.cell 16, h4.cell 17⟩⟩, opdsAt_nil⟩
    exact opdsAt_cons.2 ⟨⟨_, 0, rfl, opdAt_mk.2 ⟨ok_mk (by omega) (by omega) (by omega) (by omega) (by omega) (by omega), trivial, h3.cell 0, h3.cell 1, h3.cell 2, ⟨_, _, h3.cell 3, ⟨by decide, hml0⟩, RecsAt.nil _ _ _⟩, h3.cell 4, h3.cell 5, ⟨_, _, h3.cell 6, ⟨by decide, hml0⟩, opdsAt_nil⟩, h3.cell 7, h3.cell 8⟩⟩, opdsAt_nil⟩

theorem ex_world (w : World) : Below w.heap.size w ((((w.alloc (.cells #[.int .u8 120] 5 (1, 2))).alloc (.cells #[.slice (some ⟨w.heap.size, 0, none⟩) 1 1, .slice none 0 0] 44)).alloc
    (.cells #[.int .i64 8, .string ⟨#[]⟩, .int .u16 0, .slice none 0 0, .int .u64 0, .int .u64 0, .slice none 0 0, .int .i64 0, .int .i64 0] 48)).alloc
    (.cells #[.int .i64 1, .string ⟨#[97]⟩, .int .u16 1, .slice (some ⟨w.heap.size + 1, 0, none⟩) 2 2, .int .u64 0, .int .u64 0, .slice none 0 0, .int .i64 0, .int .i64 0,
      .int .i64 3, .string ⟨#[98, 32, 99]⟩, .int .u16 0, .slice none 0 0, .int .u64 0, .int .u64 0, .slice (some ⟨w.heap.size + 1 + 1, 0, none⟩) 1 1, .int .i64 1, .int .i64 (-7)] 48)) ∧ OpdsAt (fun _ => True) ((((w.alloc (.cells #[.int .u8 120] 5 (1, 2))).alloc (.cells #[.slice (some ⟨w.heap.size, 0, none⟩) 1 1, .slice none 0 0] 44)).alloc
    (.cells #[.int .i64 8, .string ⟨#[]⟩, .int .u16 0, .slice none 0 0, .int .u64 0, .int .u64 0, .slice none 0 0, .int .i64 0, .int .i64 0] 48)).alloc
    (.cells #[.int .i64 1, .string ⟨#[97]⟩, .int .u16 1, .slice (some ⟨w.heap.size + 1, 0, none⟩) 2 2, .int .u64 0, .int .u64 0, .slice none 0 0, .int .i64 0, .int .i64 0,
      .int .i64 3, .string ⟨#[98, 32, 99]⟩, .int .u16 0, .slice none 0 0, .int .u64 0, .int .u64 0, .slice (some ⟨w.heap.size + 1 + 1, 0, none⟩) 1 1, .int .i64 1, .int .i64 (-7)] 48)) (some ⟨w.heap.size + 1 + 1 + 1, 0, none⟩) 0 exL := by
  have hk : ∀ (W : World) (o : Obj), Kept (fun _ => False) W (W.alloc o) := fun W o => (Kept.refl _ _).alloc o
  have b1 : Below w.heap.size w (w.alloc (.cells #[.int .u8 120] 5 (1, 2))) := (Below.refl _ _).alloc (Nat.le_refl _) _
  have s1 : (w.alloc (.cells #[.int .u8 120] 5 (1, 2))).heap.size = w.heap.size + 1 := World.size_alloc _ _
  have h1 : (w.alloc (.cells #[.int .u8 120] 5 (1, 2))).cell? ⟨w.heap.size, 0, none⟩ = some (.int .u8 120) := by
    have := heap_alloc_new w (.cells #[.int .u8 120] 5 (1, 2))
    simp only [World.cell?, this]
    rfl
  generalize w.alloc (.cells #[.int .u8 120] 5 (1, 2)) = W1 at b1 s1 h1 ⊢
  have h2 := Whole.new W1 44 #[.slice (some ⟨w.heap.size, 0, none⟩) 1 1, .slice none 0 0]
  have b2 := b1.alloc (by omega) (.cells #[.slice (some ⟨w.heap.size, 0, none⟩) 1 1, .slice none 0 0] 44)
  have s2 := World.size_alloc W1 (.cells #[.slice (some ⟨w.heap.size, 0, none⟩) 1 1, .slice none 0 0] 44)
  have h12 := (hk W1 (.cells #[.slice (some ⟨w.heap.size, 0, none⟩) 1 1, .slice none 0 0] 44)).cell h1 id
  generalize W1.alloc (.cells #[.slice (some ⟨w.heap.size, 0, none⟩) 1 1, .slice none 0 0] 44) = W2 at b2 s2 h2 h12 ⊢
  rw [s1] at h2 s2
  have h3 := Whole.new W2 48 #[.int .i64 8, .string ⟨#[]⟩, .int .u16 0, .slice none 0 0, .int .u64 0, .int .u64 0, .slice none 0 0, .int .i64 0, .int .i64 0]
  have b3 := b2.alloc (by omega) (.cells #[.int .i64 8, .string ⟨#[]⟩, .int .u16 0, .slice none 0 0, .int .u64 0, .int .u64 0, .slice none 0 0, .int .i64 0, .int .i64 0] 48)
  have s3 := World.size_alloc W2 (.cells #[.int .i64 8, .string ⟨#[]⟩, .int .u16 0, .slice none 0 0, .int .u64 0, .int .u64 0, .slice none 0 0, .int .i64 0, .int .i64 0] 48)
  have h13 := (hk W2 (.cells #[.int .i64 8, .string ⟨#[]⟩, .int .u16 0, .slice none 0 0, .int .u64 0, .int .u64 0, .slice none 0 0, .int .i64 0, .int .i64 0] 48)).cell h12 id
  have h23 := (hk W2 (.cells #[.int .i64 8, .string ⟨#[]⟩, .int .u16 0, .slice none 0 0, .int .u64 0, .int .u64 0, .slice none 0 0, .int .i64 0, .int .i64 0] 48)).whole h2 id
  generalize W2.alloc (.cells #[.int .i64 8, .string ⟨#[]⟩, .int .u16 0, .slice none 0 0, .int .u64 0, .int .u64 0, .slice none 0 0, .int .i64 0, .int .i64 0] 48) = W3 at b3 s3 h3 h13 h23 ⊢
  rw [s2] at h3 s3
  have h4 := Whole.new W3 48 #[.int .i64 1, .string ⟨#[97]⟩, .int .u16 1, .slice (some ⟨w.heap.size + 1, 0, none⟩) 2 2, .int .u64 0, .int .u64 0, .slice none 0 0, .int .i64 0, .int .i64 0,
      .int .i64 3, .string ⟨#[98, 32, 99]⟩, .int .u16 0, .slice none 0 0, .int .u64 0, .int .u64 0, .slice (some ⟨w.heap.size + 1 + 1, 0, none⟩) 1 1, .int .i64 1, .int .i64 (-7)]
  rw [s3] at h4
  exact ⟨b3.alloc (by omega) _, ex_at (h0 := w.heap.size) ((hk W3 _).cell h13 id) ((hk W3 _).whole h23 id) ((hk W3 _).whole h3 id) h4⟩

set_option maxRecDepth 100000 in
set_option maxHeartbeats 8000000 in
theorem prints_any (w : World) (E : Env w) : Calls Tryz.prog 7 #[] w fun e w' => e = .returned (.bool true) ∧ Below w.heap.size w w' := by
  have HE := Lib.hid E
  clear E
  go_enter Tryz.func7, Tryz.ntmps7
  have hcv := Lib.run_convert_bytes_const (P := Tryz.prog) w 44 5 #[.int .u8 120] 1 1 Tryz.underlying44 Tryz.underlying5
  obtain ⟨hbw, hops⟩ := ex_world w
  obtain ⟨S, hS⟩ : ∃ S : ByteArray, S = ⟨exT.toArray⟩ := ⟨_, rfl⟩
  have hq : (S.toList == [112, 117, 116, 32, 97, 32, 49, 32, 48, 32, 55, 56, 44, 45, 10, 118, 105, 101, 119, 32, 61, 54, 50, 50, 48, 54, 51, 32, 48, 32, 112, 97, 110, 105, 99, 32, 45, 55, 32, 123, 10, 32, 115, 116, 97, 116, 115, 10, 125, 10]) = true := by rw [hS]; kernel_rfl
  have hpr := print_any _ _ 2 exL _ hops (HE.out.below hbw).tabs (by unfold maxLen; decide) (by decide +kernel)
  rw [ex_print] at hpr
  dsimp only at hpr
  rw [← hS] at hpr
  have HPR := Lib.hid hpr
  have HBW := Lib.hid hbw
  have HPA := Lib.hid fun W E' => parse_any exT W E' (by decide)
  have HPB := Lib.hid fun W E' => parse_any [115, 116, 97, 116, 115, 10, 103, 101, 116, 32, 97, 10] W E' (by decide)
  rw [← hS] at HPA
  clear hbw hops hpr hS
  go_wp2_with fail
  refine HPR.out.mono ?_
  rintro e w2 ⟨rfl, hb2⟩
  have HB2 := Lib.hid (HBW.out.trans (hb2.mono HBW.out.size))
  clear hb2
  go_wp2_with fail
  refine (HPA.out _ (HE.out.below HB2.out)).mono ?_
  rintro e w3 ⟨A, n, c, E1, b1, rfl, hb3, _, hyes⟩
  obtain ⟨rfl, rfl, rfl, hnc, hops⟩ := hyes _ _ ex_parse
  have HB3 := Lib.hid (below_chain HB2.out hb3)
  obtain ⟨⟨bl, off, rfl, _⟩, ho2⟩ := opdsAt_cons.1 hops
  obtain ⟨⟨bl', off', e', ho3⟩, _⟩ := opdsAt_cons.1 ho2
  cases e'
  obtain ⟨_, _, _, _, _, _, _, _, ⟨SA, sc, k6, _, _⟩, _, k8⟩ := opdAt_mk.1 ho3
  have hlb := lt_of_cell k8
  dsimp only at hlb k6 k8
  have HK6 := Lib.hid k6
  have HK8 := Lib.hid k8
  clear hb3 hyes hops ho2 ho3 k6 k8
  have hF1 : Whole (w3.alloc (.cells #[.int .i64 0, .int .i64 0] 36)) w3.heap.size 36 #[.int .i64 0, .int .i64 0] := Whole.new _ _ _
  have hbF : Below w3.heap.size w3 (w3.alloc (.cells #[.int .i64 0, .int .i64 0] 36)) := (Below.refl _ _).alloc (Nat.le_refl _) _
  have HF1 := Lib.hid hF1
  have HBF := Lib.hid hbF
  clear hF1 hbF
  go_wp2_with fail
  refine (HPB.out _ (HE.out.below (below_chain HB3.out HBF.out))).mono ?_
  rintro e w4 ⟨A2, n2, c2, E2, b2, rfl, hb4, hbad, _⟩
  obtain ⟨rfl, rfl, rfl, rfl, rfl⟩ := hbad _ ex_bad
  have HB4 := Lib.hid (below_chain (below_chain HB3.out HBF.out) hb4)
  have hs3 := HBF.out.size
  have hF4 : Whole w4 w3.heap.size 36 #[.int .i64 0, .int .i64 0] := (hb4.block _ HF1.out.lt).trans HF1.out
  have hm6 := (hb4.cell (p := ⟨bl, off + (0 + 1) * 9 + 6, none⟩) (Nat.lt_of_lt_of_le hlb hs3)).trans ((HBF.out.cell (p := ⟨bl, off + (0 + 1) * 9 + 6, none⟩) hlb).trans HK6.out)
  have hm8 := (hb4.cell (p := ⟨bl, off + (0 + 1) * 9 + 8, none⟩) (Nat.lt_of_lt_of_le hlb hs3)).trans ((HBF.out.cell (p := ⟨bl, off + (0 + 1) * 9 + 8, none⟩) hlb).trans HK8.out)
  have hs4 := hb4.size
  have hlt4 := lt_of_cell hm8
  dsimp only at hlt4
  have hbG : Below w4.heap.size w4 (w4.alloc (.cells #[.int .i64 50, .int .i64 2] 36)) := (Below.refl _ _).alloc (Nat.le_refl _) _
  have g6 : (w4.alloc (.cells #[.int .i64 50, .int .i64 2] 36)).cell? ⟨bl, off + 9 + 6, none⟩ = some (.slice SA 1 sc) := (hbG.cell (p := ⟨bl, off + 9 + 6, none⟩) hlt4).trans hm6
  have g8 : (w4.alloc (.cells #[.int .i64 50, .int .i64 2] 36)).cell? ⟨bl, off + 9 + 8, none⟩ = some (.int .i64 (-7)) := (hbG.cell (p := ⟨bl, off + 9 + 8, none⟩) hlt4).trans hm8
  have g0 : (w4.alloc (.cells #[.int .i64 50, .int .i64 2] 36)).cell? ⟨w3.heap.size, 0, none⟩ = some (.int .i64 0) := (hbG.cell (p := ⟨w3.heap.size, 0, none⟩) hF4.lt).trans (hF4.cell 0)
  have g1 : (w4.alloc (.cells #[.int .i64 50, .int .i64 2] 36)).cell? ⟨w3.heap.size, 1, none⟩ = some (.int .i64 0) := (hbG.cell (p := ⟨w3.heap.size, 1, none⟩) hF4.lt).trans (hF4.cell 1)
  have hel : (exL.length : Int) = 2 := rfl
  have HBG := Lib.hid (below_chain HB4.out hbG)
  clear hb4 hF4 hm6 hm8 hbG
  have hel2 : exL.length = 2 := rfl
  rw [hel2]
  have hans := answers_any (w4.heap.size + 1) ((w4.alloc (.cells #[.int .i64 50, .int .i64 2] 36)).alloc (.cells (ansC 0 3 ++ ansC 7 0) 55)) (HE.out.below (HBG.out.trans (((Below.refl _ _).alloc (Nat.le_refl _) _).mono HBG.out.size))).tabs (by
    have h := Whole.new (w4.alloc (.cells #[.int .i64 50, .int .i64 2] 36)) 55 (ansC 0 3 ++ ansC 7 0)
    rw [World.size_alloc] at h
    exact h)
  have HANS := Lib.hid hans
  have HBH := Lib.hid (HBG.out.trans (((Below.refl _ (w4.alloc (.cells #[.int .i64 50, .int .i64 2] 36))).alloc (Nat.le_refl _) (.cells (ansC 0 3 ++ ansC 7 0) 55)).mono HBG.out.size))
  clear hans
  go_wp2_with fail
  refine HANS.out.mono ?_
  rintro e w5 ⟨rfl, hb5⟩
  have HF := Lib.hid (below_chain HBH.out hb5)
  clear hb5
  go_wp2_with fail
  go_ret
  exact ⟨rfl, HF.out⟩
end Go.Proofs.YtifmgmiaeoiidaaGreatDoor
