/-
  The walks of layer records, as a model calls them: Size, Clone. No condition but sizes.
-/
import Derived.Test.YtimdedkejadnfaaGreatDoorMoA
import Derived.Lib.SlSplitV
import Derived.Lib.Builder
import Derived.Lib.SliceRun
import Derived.OwnWalk
namespace Go.Proofs.YtimdedkejadnfaaGreatDoor
open Go.RowKit Go.Colm
set_option linter.unusedVariables false
set_option linter.unusedSimpArgs false
set_option linter.unusedSectionVars false

/-- Records: the slice at A begins with them; all lie in blocks of N. -/
def RecAt (N : Nat → Prop) (w : World) (A : Option Addr) (l : List (List UInt8)) : Prop :=
  ∀ i x, l[i]? = some x → ∃ b off Au cu, A = some ⟨b, off, none⟩ ∧ N b ∧ w.cell? ⟨b, off + i, none⟩ = some (.slice Au x.length cu) ∧ RowV w Au (bytesV x) ∧ ∀ a, Au = some a → N a.block
theorem row_kept {S : Nat → Prop} {w w' : World} {A : Option Addr} {vs : List Value} (h : RowV w A vs) (hk : Kept S w w') (hs : ∀ a, A = some a → ¬ S a.block) : RowV w' A vs := fun i v hv => by
  obtain ⟨b, off, e, hc⟩ := h i v hv
  exact ⟨b, off, e, hk.cell hc (hs ⟨b, off, none⟩ e)⟩
theorem RecAt.kept {S N : Nat → Prop} {w w' : World} {A : Option Addr} {l : List (List UInt8)} (h : RecAt N w A l) (hk : Kept S w w') (hs : ∀ k, N k → ¬ S k) : RecAt N w' A l := fun i x hx => by
  obtain ⟨b, off, Au, cu, e, hn, hc, hr, ha⟩ := h i x hx
  exact ⟨b, off, Au, cu, e, hn, hk.cell hc (hs _ hn), row_kept hr hk fun a e => hs _ (ha a e), ha⟩
theorem RecAt.mono {N N' : Nat → Prop} {w : World} {A : Option Addr} {l : List (List UInt8)} (h : RecAt N w A l) (hn : ∀ k, N k → N' k) : RecAt N' w A l := fun i x hx => by
  obtain ⟨b, off, Au, cu, e, h1, hc, hr, ha⟩ := h i x hx
  exact ⟨b, off, Au, cu, e, hn _ h1, hc, hr, fun a e => hn _ (ha a e)⟩
theorem RecAt.below {N : Nat → Prop} {w w' : World} {A : Option Addr} {l : List (List UInt8)} (h : RecAt N w A l) (hk : Below w.heap.size w w') : RecAt N w' A l := h.kept (Kept.below hk fun _ => False) fun _ _ h => h
theorem RecAt.nil (N : Nat → Prop) (w : World) (A : Option Addr) : RecAt N w A [] := fun i x hx => by simp at hx

def sumR (l : List (List UInt8)) : Nat := (l.map fun x => 2 + min x.length 480).sum
def sizeR (l : List (List UInt8)) : Nat × Int := if l.length < 1 ∨ 16 < l.length then (0, 2) else if 480 < 2 + sumR l then (0, 22) else (2 + sumR l, 0)
theorem sumR_take {l : List (List UInt8)} {k : Nat} (h : k < l.length) : sumR (l.take (k + 1)) = sumR (l.take k) + (2 + min l[k].length 480) := by
  rw [sumR, sumR, List.take_succ_eq_append_getElem h, List.map_append, List.sum_append]
  simp
theorem sumR_le (l : List (List UInt8)) : sumR l ≤ 482 * l.length := by
  induction l with
  | nil => simp [sumR]
  | cons x r ih =>
    have : sumR (x :: r) = (2 + min x.length 480) + sumR r := by simp [sumR]
    rw [this, List.length_cons]
    omega

set_option maxHeartbeats 400000 in
theorem size1_any (A : Option Addr) (n c : Nat) (w : World) (hn : n < 9223372036854775807) : Calls Tryz.prog 60 #[.slice A n c] w fun e w' => e = .returned (.int .i64 ((2 + min n 480 : Nat) : Int)) ∧ w' = w := by
  go_enter Tryz.func60, Tryz.ntmps60
  go_wp2
  · go_ret
    exact ⟨ret_int (by omega), rfl⟩
  · go_ret
    exact ⟨ret_int (by omega), rfl⟩

set_option maxHeartbeats 1600000 in
theorem summed_any (N : Nat → Prop) (A : Option Addr) (c : Nat) (l : List (List UInt8)) (w : World) (hl : l.length < 1099511627776) (hx : ∀ x ∈ l, x.length < 1099511627776) (hr : RecAt N w A l) :
    Calls Tryz.prog 59 #[.slice A l.length c, .func (.func 60) #[] #[]] w fun e w' => e = .returned (.int .i64 (sumR l : Nat)) ∧ w' = w := by
  have HR := Lib.hid hr
  have HX := Lib.hid hx
  clear hr hx
  go_enter Tryz.func59, Tryz.ntmps59
  go_wp2_with fail
  go_loop [5, 7, 10] (fun s5 _ s10 => ∃ k n : Nat, k ≤ l.length ∧ s10 = .int .i64 k ∧ s5 = .int .i64 n ∧ Hid (n = sumR (l.take k))) (fun _ _ s10 => match s10 with | .int _ m => l.length - m.toNat | _ => 0)
  case atStart => exact ⟨0, 0, Nat.zero_le _, rfl, rfl, Lib.hid rfl⟩
  case round =>
    obtain ⟨k, n, hk, rfl, rfl, H⟩ := hrel
    by_cases hlt : k < l.length
    · obtain ⟨b, off, Au, cu, rfl, _, hc, _⟩ := HR.out k l[k] (by simp [hlt])
      have hn : n ≤ 482 * l.length := by
        rw [H.out]
        refine Nat.le_trans (sumR_le _) ?_
        rw [List.length_take]
        exact Nat.mul_le_mul_left _ (Nat.min_le_right _ _)
      have hln := HX.out l[k] (List.getElem_mem hlt)
      obtain ⟨m, hm⟩ : ∃ m, m = l[k].length := ⟨_, rfl⟩
      rw [← hm] at hc hln
      have H2 : Hid (n + (2 + min m 480) = sumR (l.take (k + 1))) := Lib.hid (by rw [sumR_take hlt, H.out, hm])
      clear hm
      go_wp2_with fail
      refine (size1_any _ _ _ _ (by omega)).mono ?_
      rintro e w1 ⟨rfl, rfl⟩
      go_wp2_with fail
      go_round
      case rel => exact ⟨k + 1, n + (2 + min m 480), by omega, by go_num, by go_num, H2⟩
      case measure => simp; omega
    · have hkk : k = l.length := by omega
      have E : Hid (n = sumR l) := Lib.hid (by rw [H.out, hkk, List.take_length])
      go_wp2
      go_ret
      refine ⟨ret_int ?_, rfl⟩
      rw [E.out]

set_option maxHeartbeats 1600000 in
theorem sizer_any (N : Nat → Prop) (A : Option Addr) (c : Nat) (l : List (List UInt8)) (w : World) (hl : l.length < 1099511627776) (hx : ∀ x ∈ l, x.length < 1099511627776) (hr : RecAt N w A l) :
    Calls Tryz.prog 20 #[.slice A l.length c] w fun e w' => e = .returned (.tuple #[.int .i64 ((sizeR l).1 : Nat), .int .i64 (sizeR l).2]) ∧ w' = w := by
  have HR := Lib.hid hr
  have HX := Lib.hid hx
  clear hr hx
  go_enter Tryz.func20, Tryz.ntmps20
  by_cases h0 : l.length < 1
  · have E : Hid (sizeR l = (0, 2)) := Lib.hid (by rw [sizeR, if_pos (.inl h0)])
    go_wp2
    go_ret2
    rw [E.out]
    exact ⟨rfl, rfl⟩
  · by_cases h1 : 16 < l.length
    · have E : Hid (sizeR l = (0, 2)) := Lib.hid (by rw [sizeR, if_pos (.inr h1)])
      go_wp2
      go_ret2
      rw [E.out]
      exact ⟨rfl, rfl⟩
    · have hs := sumR_le l
      have E : Hid (sizeR l = if 480 < 2 + sumR l then (0, 22) else (2 + sumR l, 0)) := Lib.hid (by rw [sizeR, if_neg (by omega)])
      go_wp2_with fail
      refine (summed_any N A c l _ hl HX.out HR.out).mono ?_
      rintro e w1 ⟨rfl, rfl⟩
      by_cases h2 : 480 < 2 + sumR l
      · go_wp2
        go_ret2
        rw [E.out, if_pos h2]
        exact ⟨rfl, rfl⟩
      · go_wp2
        go_ret2
        rw [E.out, if_neg h2]
        exact ⟨rfl, rfl⟩

theorem u8_info : (Tryz.prog.info? 5).map (fun i => (i.zero, i.size, i.bytes)) = some (some (.int .u8 0), 1, 1) := by kernel_rfl
theorem bytes_info : (Tryz.prog.info? 31).map (fun i => (i.zero, i.size, i.bytes)) = some (some (.slice none 0 0), 1, 24) := by kernel_rfl

set_option maxHeartbeats 1600000 in
/-- A copy: of none, none; else bytes of its own. -/
theorem bclone_any (A : Option Addr) (c : Nat) (x : List UInt8) (w : World) (hx : x.length < 1099511627776) (hr : RowV w A (bytesV x)) :
    Calls Tryz.prog 72 #[.slice A x.length c] w fun e w' => ∃ u, e = .returned u ∧ w'.ownsRow w.heap.size 5 1 u x.length (bytesV x) ∧ Below w.heap.size w w' := by
  obtain ⟨i0, hi, hz0, hz1, hz2⟩ := info_parts u8_info
  have HR := Lib.hid hr
  clear hr
  have q22 : ∀ (w : World) (a : Option Addr) (n c n' c' : Nat), (binOp .eql 31 (.slice a n c) (.slice none n' c')).run Tryz.prog w = .ok (.bool a.isNone) w := fun w a n c n' c' => Lib.run_eql_slice_nil w _ _ a n c n' c' Tryz.underlying31
  go_enter Tryz.func72, Tryz.ntmps72
  rcases A with _ | a
  · go_wp2
    go_ret
    have hx0 : x = [] := by
      rcases x with _ | ⟨y, r⟩
      · rfl
      · obtain ⟨b, off, h, _⟩ := HR.out 0 _ rfl
        cases h
    subst hx0
    exact ⟨_, rfl, ⟨rfl, .inl ⟨rfl, rfl⟩⟩, Below.refl _ _⟩
  · go_wp2_with (at_builtin; refine wpList_append_own _ rfl _ _ 31 rfl w.heap.size 5 i0 (.int .u8 0) 1 1 Tryz.underlying31 hi hz0 hz1 hz2 rfl (by decide) _ _ _ rfl (World.ownsRow_made w #[] 0 (Nat.le_refl _) (Nat.zero_le _) rfl) a x.length c (bytesV x) rfl ?qc1 ?qc2 ?qc3 ?qc4 ?qc5 ?qc6 ?_)
    case qc1 => rw [bytesV_length, Nat.mul_one]
    case qc2 =>
      intro j u hu
      obtain ⟨b, off, e, hc⟩ := HR.out j u hu
      cases e
      rw [Addr.add_lit]
      exact Lib.cell?_alloc_some _ hc
    case qc3 =>
      intro u hu
      obtain ⟨y, _, rfl⟩ := List.mem_map.1 hu
      rfl
    case qc4 => unfold maxLen; omega
    case qc5 => omega
    case qc6 => simp
    intro v' w' hown hg hnil
    go_wp2
    go_ret
    refine ⟨_, rfl, ?_, ?_⟩
    · simpa using hown
    · exact ((Below.refl _ w).alloc (Nat.le_refl _) _).grown hg (by simp) (by intro k hk; simp [Value.ownBlock] at hk; omega)

theorem own_stays {S : Nat → Prop} {w w' : World} {base : Nat} {e : TypeId} {size : Nat} {v : Value} {n : Nat} {xs : List Value} (h : w.ownsRow base e size v n xs) (hk : Kept S w w') (hs : ∀ k, v.ownBlock = some k → ¬ S k) : w'.ownsRow base e size v n xs := by
  refine ⟨h.1, ?_⟩
  rcases h.2 with h0 | ⟨g, cap, cur, rfl, hle, hg, r⟩
  · exact .inl h0
  · exact .inr ⟨g, cap, cur, rfl, hle, (hk.block g (Array.getElem?_eq_some_iff.1 hg).1 (hs g rfl)).trans hg, r⟩
theorem own_base {w : World} {base base' : Nat} {e : TypeId} {size : Nat} {v : Value} {n : Nat} {xs : List Value} (h : w.ownsRow base e size v n xs) (hb : base' ≤ base) : w.ownsRow base' e size v n xs := by
  refine ⟨h.1, ?_⟩
  rcases h.2 with h0 | ⟨g, cap, cur, rfl, hle, r⟩
  · exact .inl h0
  · exact .inr ⟨g, cap, cur, rfl, by omega, r⟩
theorem own_ge {w : World} {base : Nat} {e : TypeId} {size : Nat} {v : Value} {n : Nat} {xs : List Value} (h : w.ownsRow base e size v n xs) {k : Nat} (hk : v.ownBlock = some k) : base ≤ k ∧ k < w.heap.size := by
  rcases h.2 with ⟨rfl, _⟩ | ⟨g, cap, cur, rfl, hle, hg, _⟩
  · cases hk
  · have : g = k := by simpa [Value.ownBlock] using hk
    subst this
    exact ⟨hle, (Array.getElem?_eq_some_iff.1 hg).1⟩

/-- Records in memory of their own, from block B on: the outer slice v with the slices us. -/
def RecOwn (B : Nat) (w : World) (v : Value) (us : List Value) (l : List (List UInt8)) : Prop :=
  us.length = l.length ∧ (∃ b, v = .slice (some ⟨b, 0, none⟩) l.length l.length ∧ B ≤ b ∧ Whole w b 31 us.toArray) ∧ ∀ (i : Nat) (u : Value) (x : List UInt8), us[i]? = some u → l[i]? = some x → w.ownsRow B 5 1 u x.length (bytesV x)
theorem RecOwn.at_ {B : Nat} {w : World} {v : Value} {us : List Value} {l : List (List UInt8)} (h : RecOwn B w v us l) : ∃ A, v = .slice A l.length l.length ∧ RecAt (fun k => B ≤ k ∧ k < w.heap.size) w A l := by
  obtain ⟨hl, ⟨b, rfl, hb, hw⟩, hr⟩ := h
  refine ⟨_, rfl, fun i x hx => ?_⟩
  have hi : i < us.length := by
    have := (List.getElem?_eq_some_iff.1 hx).1
    omega
  have ho := hr i us[i] x (by simp [hi]) hx
  obtain ⟨A', c', e, hrow⟩ := own_row ho
  refine ⟨b, 0, A', c', rfl, ⟨hb, hw.lt⟩, ?_, hrow, fun a ha => ?_⟩
  · rw [hw.cell, ← e]
    simp [hi]
  · subst ha
    exact own_ge ho (k := a.block) (by rw [e]; rfl)

set_option maxHeartbeats 1600000 in
theorem clone_any (N : Nat → Prop) (A : Option Addr) (c : Nat) (l : List (List UInt8)) (w : World) (hl : l.length < 4294967296) (hx : ∀ x ∈ l, x.length < 1099511627776) (hr : RecAt N w A l) :
    Calls Tryz.prog 29 #[.slice A l.length c] w fun e w' => ∃ v us, e = .returned v ∧ RecOwn w.heap.size w' v us l ∧ Below w.heap.size w w' := by
  obtain ⟨i0, hi, hz0, hz1, hz2⟩ := info_parts bytes_info
  have hmk := run_make w 22 31 i0 (.slice none 0 0) Tryz.underlying22 hi hz0 .i64 .i64 l.length l.length (by omega) (by omega) (by rw [hz2]; omega) (by omega)
  rw [hz1, show (Value.slice none 0 0).cells = #[.slice none 0 0] from rfl, ← Lib.cellsOfV_nil] at hmk
  simp only [Int.toNat_natCast, Nat.mul_one] at hmk
  obtain ⟨w1, hw1⟩ : ∃ w1, w1 = w.alloc (.cells (Lib.cellsOfV [] l.length) 31) := ⟨_, rfl⟩
  rw [← hw1] at hmk
  have h1 : Whole w1 w.heap.size 31 (Lib.cellsOfV [] l.length) := by rw [hw1]; exact Whole.new _ _ _
  have hb1 : Below w.heap.size w w1 := by rw [hw1]; exact (Below.refl _ _).alloc (Nat.le_refl _) _
  have HR := Lib.hid hr
  have HX := Lib.hid hx
  have H1 := Lib.hid h1
  have HB1 := Lib.hid hb1
  clear hr hx h1 hb1 hw1
  go_enter Tryz.func29, Tryz.ntmps29
  go_wp2_with fail
  go_loopw [4, 5, 11] (fun _ _ s11 wr => ∃ (k : Nat) (us : List Value), k ≤ l.length ∧ s11 = .int .i64 k ∧ us.length = k ∧ Hid (Whole wr w.heap.size 31 (Lib.cellsOfV us l.length)) ∧ Hid (Below w.heap.size w wr) ∧ Hid (∀ (i : Nat) (u : Value) (x : List UInt8), us[i]? = some u → l[i]? = some x → wr.ownsRow w.heap.size 5 1 u x.length (bytesV x))) (fun _ _ s11 wr => match s11 with | .int _ m => l.length - m.toNat | _ => 0)
  case atStart => exact ⟨0, [], Nat.zero_le _, rfl, rfl, H1, HB1, Lib.hid (fun i u x h => by simp at h)⟩
  case round =>
    obtain ⟨k, us, hk, rfl, hus, HW, HB, HO⟩ := hrel
    by_cases hlt : k < l.length
    · have hr2 := HR.out.below HB.out
      obtain ⟨b, off, Au, cu, rfl, _, hc, hru, _⟩ := hr2 k l[k] (by simp [hlt])
      have hlx := HX.out l[k] (List.getElem_mem hlt)
      have HRU := Lib.hid hru
      clear hr2 hru
      obtain ⟨x, hx0⟩ : ∃ x, x = l[k] := ⟨_, rfl⟩
      rw [← hx0] at hc HRU hlx
      have HX0 := Lib.hid hx0
      clear hx0
      go_wp2_with fail
      refine (bclone_any _ _ _ _ hlx HRU.out).mono ?_
      rintro e w2 ⟨u, rfl, hu, hb2⟩
      have hw2 : Whole w2 w.heap.size 31 (Lib.cellsOfV us l.length) := (hb2.block _ HW.out.lt).trans HW.out
      have hc2 : w2.cell? ⟨w.heap.size, k, none⟩ = some (.slice none 0 0) := by
        rw [hw2.cell, ← hus]
        exact Lib.cellsOfV_next (by omega)
      have hf2 := hw2.frozen k
      have hne : u.ownBlock ≠ some w.heap.size := Lib.ownBlock_ne hu hw2 (by decide)
      have hsz : w.heap.size ≤ wr.heap.size := HB.out.size
      obtain ⟨Au2, cu2, eu, _⟩ := own_row hu
      have HU := Lib.hid hu
      have HB2 := Lib.hid hb2
      have HW2 := Lib.hid hw2
      have HNE := Lib.hid hne
      have EU := Lib.hid eu
      rw [eu]
      clear hu hb2 hw2 hne eu
      go_wp2_with fail
      go_roundw
      case rel =>
        refine ⟨k + 1, us ++ [u], by omega, by go_num, by simp [hus], ?_, ?_, ?_⟩
        · rw [← EU.out]
          have h := HW2.out.put k u
          rw [← hus, Lib.cellsOfV_set (by omega), hus] at h
          exact Lib.hid h
        · exact Lib.hid (Kept.to_below (S := fun i => i = w.heap.size) ((((Kept.below HB.out (fun i => i = w.heap.size)).trans (Kept.below HB2.out (fun i => i = w.heap.size)))).setCell (p := ⟨w.heap.size, k, none⟩) (.inl rfl) _) (Nat.le_refl _) (fun i hi e => by omega))
        · refine Lib.hid fun i u' x' hu' hx' => ?_
          have hk2 : Kept (fun i => i = w.heap.size) w2 (w2.setCell ⟨w.heap.size, k, none⟩ (.slice Au2 x.length cu2)) := (Kept.refl (fun i => i = w.heap.size) w2).setCell (p := ⟨w.heap.size, k, none⟩) (.inl rfl) _
          rcases Nat.lt_or_ge i k with hik | hik
          · rw [List.getElem?_append_left (by omega)] at hu'
            have h1 := HO.out i u' x' hu' hx'
            have hne' : u'.ownBlock ≠ some w.heap.size := Lib.ownBlock_ne h1 HW.out (by decide)
            have h2 : w2.ownsRow w.heap.size 5 1 u' x'.length (bytesV x') := own_stays h1 (Kept.below HB2.out fun _ => False) (fun _ _ h => h)
            exact own_stays h2 hk2 (fun j hj e => hne' (by rw [hj, e]))
          · have hik2 : i = k := by
              have := (List.getElem?_eq_some_iff.1 hu').1
              simp at this
              omega
            subst hik2
            rw [List.getElem?_append_right (by omega), hus, Nat.sub_self, List.getElem?_cons_zero, Option.some.injEq] at hu'
            subst hu'
            rw [List.getElem?_eq_getElem hlt, Option.some.injEq] at hx'
            subst hx'
            rw [← HX0.out]
            exact own_stays (own_base HU.out hsz) hk2 (fun j hj e => HNE.out (by rw [hj, e]))
      case measure => simp; omega
    · have hkk : k = l.length := by omega
      go_wp2_with fail
      go_ret
      refine ⟨_, us, rfl, ⟨by omega, ⟨w.heap.size, rfl, Nat.le_refl _, ?_⟩, HO.out⟩, HB.out⟩
      have h := HW.out
      rw [← hkk, ← hus, Lib.cellsOfV_full] at h
      exact h
end Go.Proofs.YtimdedkejadnfaaGreatDoor
