/-
  The walk of the law WireGets. No condition.
-/
import Derived.Test.YtfnpjcfaabbejaaWireX
import Derived.OpenShut
namespace Go.Proofs.Ytfnpjcfaabbejaa
open Go.RowKit Go.Foldp Go.Colm Go.Wirep Go.Maps
set_option linter.unusedVariables false

theorem getF_len : ∀ (b : List UInt8) (at_ begin_ next : Nat) (l : List (List UInt8)), wireL l ≤ 255 → (getF b at_ begin_ next l).1.length ≤ 255 := by
  intro b at_ begin_ next l
  induction at_, begin_, next, l using getF.induct (b := b) with
  | case1 at_ begin_ next l h h0 => intro hw; rw [getF_end h h0]; have := wireL_len l; simp only; omega
  | case2 at_ begin_ next l h h0 h1 h2 h3 ih => intro hw; rw [getF_to h h1 h2 rfl h3]; exact ih hw
  | case3 at_ begin_ next l h h0 h1 h2 h3 => intro hw; rw [getF_far h h1 h2 h3]; simp
  | case4 at_ begin_ next l h h0 h1 h2 => intro hw; rw [getF_cut h h1 h2]; simp
  | case5 at_ begin_ next l h h0 h1 h2 => intro hw; rw [getF_form h h2 (by omega)]; simp
  | case6 at_ begin_ next l h h0 h1 h2 h3 h4 h5 ih => intro hw; rw [getF_on h h0 (by omega) h3 h4 h5]; exact ih h5
  | case7 at_ begin_ next l h h0 h1 h2 h3 h4 h5 => intro hw; rw [getF_long h h0 (by omega) h3 h4 h5]; simp
  | case8 at_ begin_ next l h h0 h1 h2 h3 h4 => intro hw; rw [getF_no h h0 (by omega) h3 h4]; simp
  | case9 at_ begin_ next l h h0 h1 h2 h3 => intro hw; rw [getF_short h h0 (by omega) h3]; simp
  | case10 at_ begin_ next l h => intro hw; rw [getF_out h]; simp
theorem getA_len (b : List UInt8) (at_ : Int) : (getA b at_).1.length ≤ 255 := by
  unfold getA
  split
  · exact getF_len _ _ _ _ _ (by simp [wireL])
  · simp

set_option maxRecDepth 100000 in
set_option maxHeartbeats 4000000 in
theorem wireGets_walk (A : Option Addr) (b : List UInt8) (c : Nat) (hlc : b.length ≤ c) (hcm : c ≤ maxLen) (at_ : Int) (wf : (Lit.int .i64 at_).wf = true) (w : World) (hr : RowV w A (bytesV b)) :
    Calls Try.prog 3 #[.slice A b.length c, .int .i64 at_] w fun e w' => e = .returned (.bool true) ∧ Below w.heap.size w w' := by
  unfold maxLen at hcm
  have Hr := Lib.hid hr
  clear hr
  by_cases h3 : 3000 < b.length
  · go_enter Try.func3, Try.ntmps3
    go_wp2_with fail
    refine (wires_any _).mono ?_
    rintro e w1 ⟨rfl, hb⟩
    go_wp2_with fail
    go_ret
    exact ⟨rfl, hb⟩
  · have hgl := getA_len b at_
    obtain ⟨g, hg⟩ : ∃ g, g = getA b at_ := ⟨_, rfl⟩
    have HG1 : Hid (∀ W, Below w.heap.size w W → Calls Try.prog 8 #[.slice A b.length c, .int .i64 at_] W (GotIt W g)) := Lib.hid (fun W hb => hg ▸ get_any A c b at_ W (Hr.out.below hb) hlc (by omega))
    have HG2 : Hid (∀ W, Below w.heap.size w W → Calls Try.prog 9 #[.slice A b.length c, .int .i64 at_] W (GotIt W g)) := Lib.hid (fun W hb => hg ▸ rget_any A c b at_ W (Hr.out.below hb) hlc (by omega))
    rw [← hg] at hgl
    clear hg
    obtain ⟨gl, gn, ge⟩ := g
    simp only at hgl
    go_enter Try.func3, Try.ntmps3
    go_wp2_with fail
    refine (HG1.out _ (Below.refl _ _)).mono ?_
    rintro e w1 ⟨A1, c1, rfl, hr1, hb1⟩
    have HR1 := Lib.hid hr1.row
    have HB1 := Lib.hid hb1
    clear hr1 hb1
    go_wp2_with fail
    refine (HG2.out _ HB1.out).mono ?_
    rintro e w2 ⟨A2, c2, rfl, hr2, hb2⟩
    have HR2 := Lib.hid hr2.row
    have HB2 := Lib.hid (below_chain HB1.out hb2)
    have HR12 := Lib.hid (HR1.out.below hb2)
    have hsame := same_strs gl gl A1 A2 c1 c2 w2 HR12.out HR2.out (by omega) (by omega)
    rw [beq_self_eq_true] at hsame
    have HS := Lib.hid hsame
    clear hr2 hb2 hsame
    go_wp2_with fail
    refine HS.out.mono ?_
    rintro e w3 ⟨rfl, hb3⟩
    have HB3 := Lib.hid (below_chain HB2.out hb3)
    clear hb3
    go_wp2_with fail
    refine (wires_any _).mono ?_
    rintro e w4 ⟨rfl, hb4⟩
    go_wp2_with fail
    go_ret
    exact ⟨rfl, below_chain HB3.out hb4⟩

end Go.Proofs.Ytfnpjcfaabbejaa
