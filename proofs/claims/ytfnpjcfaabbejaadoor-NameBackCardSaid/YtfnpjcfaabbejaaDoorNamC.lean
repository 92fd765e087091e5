/-
  The walks of the reference's Text, of both Shared, and of Below. Names of fewer than 2^40 bytes.
-/
import Derived.Test.YtfnpjcfaabbejaaDoorNamB
import Derived.Test.YtfnpjcfaabbejaaDoorNamS
import Derived.Deep.RegionWith
import Derived.Deep.RegionHeld3
namespace Go.Wirep
open Go.Foldp
theorem tail_snoc (r : List (List UInt8)) (x : List UInt8) : Lib.joinTail [46] (r ++ [x]) = Lib.joinTail [46] r ++ [46] ++ x := by
  simp [Lib.joinTail]
theorem join_take {l : List (List UInt8)} {k : Nat} (h1 : 1 ≤ k) (hk : k < l.length) : Lib.join (l.take (k + 1)) [46] = Lib.join (l.take k) [46] ++ [46] ++ l[k] := by
  rw [List.take_succ_eq_append_getElem hk]
  rcases e : l.take k with _ | ⟨x, r⟩
  · have := congrArg List.length e
    rw [List.length_take, List.length_nil] at this
    omega
  · rw [List.cons_append, Lib.join_cons, Lib.join_cons, tail_snoc]
    simp
theorem join_take_le (l : List (List UInt8)) (k : Nat) : (Lib.join (l.take k) [46]).length ≤ wireL l := Nat.le_trans (join_len _) (by
  induction l generalizing k with
  | nil => simp
  | cons s r ih =>
    rcases k with _ | k
    · simp [wireL]
      omega
    · have := ih k
      simp only [List.take_succ_cons, wireL]
      omega)
theorem join_one_take {l : List (List UInt8)} (h : 0 < l.length) : Lib.join (l.take 1) [46] = l[0] := by
  rcases l with _ | ⟨x, r⟩
  · simp at h
  · simp [Lib.join_one]
end Go.Wirep
namespace Go.Proofs.YtfnpjcfaabbejaaDoor
open Go.RowKit Go.Foldp Go.Colm Go.Wirep
set_option linter.unusedVariables false

theorem str_append (a b : List UInt8) : (ByteArray.mk a.toArray) ++ (ByteArray.mk b.toArray) = ByteArray.mk (a ++ b).toArray := by
  apply ByteArray.ext
  simp [ByteArray.data_append]

set_option maxRecDepth 100000 in
set_option maxHeartbeats 2000000 in
theorem rtext_any (l : List (List UInt8)) (A : Option Addr) (c : Nat) (w : World) (hr : RowV w A (labV l)) (hl : wireL l < 1099511627776) :
    Calls Tryd.prog 13 #[.slice A l.length c] w (TextIt w (textL l)) := by
  have hlen := wireL_len l
  have hck := rcheck_any l A c w hr hl
  have htx : textL l = if checkL l = 0 then (if l = [] then ([46], 0) else (Lib.join l [46], 0)) else ([], checkL l) := rfl
  obtain ⟨ce, hce⟩ : ∃ ce, ce = checkL l := ⟨_, rfl⟩
  simp only [← hce] at hck htx
  have HCK := Lib.hid hck
  have HTX := Lib.hid htx
  have HR := Lib.hid hr
  clear hr hck htx hce
  go_enter Tryd.func13, Tryd.ntmps13
  go_wp2_with fail
  refine HCK.out.mono ?_
  rintro e w2 ⟨rfl, hw2⟩
  rw [hw2]
  clear hw2 w2
  by_cases h0 : ce = 0
  · by_cases hne : l = []
    · have HF := Lib.hid (TextIt.mk (g := textL l) (w := w) (w' := w) (s := [46]) (x := 0) (by rw [HTX.out, if_pos h0, if_pos hne]) (Below.refl _ _))
      subst h0
      subst hne
      go_wp2_with fail
      go_ret2
      exact HF.out
    · have hlp : 0 < l.length := List.length_pos_iff.2 hne
      have HF : Hid (∀ v w', v = ByteArray.mk (Lib.join l [46]).toArray → Below w.heap.size w w' → TextIt w (textL l) (.returned (.tuple #[.string v, .int .i64 0])) w') := Lib.hid (fun v w' hv hb => by
        rw [hv]
        exact TextIt.mk (g := textL l) (w := w) (w' := w') (s := Lib.join l [46]) (x := 0) (by rw [HTX.out, if_pos h0, if_neg hne]) hb)
      obtain ⟨b, off, rfl, hc0⟩ := labV_at HR.out hlp
      rw [Nat.add_zero] at hc0
      have HS0 : Hid (ByteArray.mk l[0].toArray = ByteArray.mk (Lib.join (l.take 1) [46]).toArray) := Lib.hid (by rw [join_one_take hlp])
      have hz0 := join_take_le l 1
      rw [join_one_take hlp] at hz0
      have hsz0 := str_size l[0]
      obtain ⟨s0, hs0⟩ : ∃ s0, s0 = ByteArray.mk l[0].toArray := ⟨_, rfl⟩
      rw [← hs0] at hc0 HS0 hsz0
      clear hs0
      subst h0
      clear hne HTX
      go_wp2_with fail
      go_loopw [5, 6] (fun v i wr => ∃ (k : Nat) (sv : ByteArray), 1 ≤ k ∧ k ≤ l.length ∧ i = .int .i64 k ∧ v = .string sv ∧ sv.size < 1099511627776 ∧ Hid (sv = ByteArray.mk (Lib.join (l.take k) [46]).toArray) ∧ Below w.heap.size w wr) (fun _ i _ => l.length - (intOf i).toNat)
      case atStart => exact ⟨1, s0, by omega, by omega, rfl, rfl, by omega, HS0, Below.refl _ _⟩
      case round =>
        obtain ⟨k, sv, hk1, hk, rfl, rfl, hsv, HS, hbw⟩ := hrel
        have HBW := Lib.hid hbw
        by_cases hlt : k < l.length
        · obtain ⟨b', off', e', hc⟩ := labV_at (HR.out.below hbw) hlt
          cases e'
          have hsz := str_size l[k]
          have hml := wireL_mem (List.getElem_mem hlt)
          have hz := join_take_le l (k + 1)
          have HN : Hid (sv ++ ⟨#[46]⟩ ++ ByteArray.mk l[k].toArray = ByteArray.mk (Lib.join (l.take (k + 1)) [46]).toArray) := Lib.hid (by
            rw [HS.out, join_take hk1 hlt, ← str_append, ← str_append])
          have hsn : (sv ++ ⟨#[46]⟩ ++ ByteArray.mk l[k].toArray).size < 1099511627776 := by
            rw [HN.out, str_size]
            omega
          obtain ⟨sk, hsk⟩ : ∃ sk, sk = ByteArray.mk l[k].toArray := ⟨_, rfl⟩
          rw [← hsk] at hc hsz HN hsn
          have hskz : sk.size < 1099511627776 := by omega
          clear hsk hsz hml hz hbw
          go_wp2_with fail
          go_roundw
          case rel => exact ⟨k + 1, _, by omega, by omega, by go_num, rfl, hsn, HN, HBW.out⟩
          case measure => simp [intOf]; omega
        · have HS2 : Hid (sv = ByteArray.mk (Lib.join l [46]).toArray) := Lib.hid (by
            have hkl : k = l.length := by omega
            have := HS.out
            rwa [hkl, List.take_length] at this)
          clear hbw
          go_wp2_with fail
          go_ret2
          exact HF.out _ _ HS2.out HBW.out
  · have t2 : (ce != 0) = true := by rwa [bne_iff_ne]
    have HF := Lib.hid (TextIt.mk (g := textL l) (w := w) (w' := w) (s := []) (x := ce) (by rw [HTX.out, if_neg h0]) (Below.refl _ _))
    clear h0
    go_wp2_with fail
    go_ret2
    exact HF.out
end Go.Proofs.YtfnpjcfaabbejaaDoor
