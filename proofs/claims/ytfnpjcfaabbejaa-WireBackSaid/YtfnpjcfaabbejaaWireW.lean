/-
  The walk of wire's Pack. Names of fewer than 2^40 bytes each.
-/
import Derived.Test.YtfnpjcfaabbejaaWireV
namespace Go.Wirep
open Go.Foldp
/-- Names, laid one behind the other: bytes, where each begins, the error (0: none). -/
def packG : List (List (List UInt8)) → Packed → List Nat → List UInt8 × List Nat × Int
  | [], p, ps => (p.1, ps, 0)
  | l :: r, p, ps => if checkL l = 0 then packG r (putF l p) (ps ++ [p.1.length]) else ([], [], checkL l)
def packL (ll : List (List (List UInt8))) : List UInt8 × List Nat × Int := if 64 < ll.length then ([], [], 2) else packG ll ([], []) []
theorem packG_on {ll : List (List (List UInt8))} {k : Nat} {p : Packed} {ps : List Nat} (hk : k < ll.length) (h : checkL ll[k] = 0) : packG (ll.drop k) p ps = packG (ll.drop (k + 1)) (putF ll[k] p) (ps ++ [p.1.length]) := by
  rw [List.drop_eq_getElem_cons hk, packG, if_pos h]
theorem packG_no {ll : List (List (List UInt8))} {k : Nat} {p : Packed} {ps : List Nat} (hk : k < ll.length) (h : checkL ll[k] ≠ 0) : packG (ll.drop k) p ps = ([], [], checkL ll[k]) := by
  rw [List.drop_eq_getElem_cons hk, packG, if_neg h]
theorem putF_small : ∀ (l : List (List UInt8)) (p : Packed), (∀ e ∈ p.2, e.2 < 16384) → p.2.length ≤ p.1.length → p.1.length + wireL l ≤ 16384 → (∀ e ∈ (putF l p).2, e.2 < 16384) ∧ (putF l p).2.length ≤ (putF l p).1.length
  | [], p, h1, h2, h3 => by
    rw [putF_nil]
    exact ⟨h1, by simp; omega⟩
  | s :: r, p, h1, h2, h3 => by
    rcases h : lookL (keyL (s :: r)) p.2 with _ | to
    · rw [putF_none h]
      have hpl : (putL p.1 s).length = p.1.length + (s.length + 1) := by
        simp [putL, lowL_length]
      simp only [wireL] at h3
      refine putF_small r _ (fun e he => ?_) (by simp only [hpl, List.length_cons]; omega) (by simp only [hpl]; omega)
      rcases List.mem_cons.1 he with rfl | he
      · simp only
        omega
      · exact h1 e he
    · rw [putF_some h]
      exact ⟨h1, by simp; omega⟩
theorem checkL_wire {l : List (List UInt8)} (h : checkL l = 0) : wireL l ≤ 255 := by
  unfold checkL at h
  split at h
  · split at h
    · cases h
    · omega
  · cases h
end Go.Wirep
namespace Go.Proofs.Ytfnpjcfaabbejaa
open Go.RowKit Go.Foldp Go.Colm Go.Wirep Go.Maps
set_option linter.unusedVariables false

def placesV (ps : List Nat) : List Value := ps.map fun n : Nat => .int .i64 (n : Int)
theorem placesV_length (ps : List Nat) : (placesV ps).length = ps.length := by simp [placesV]
theorem placesV_snoc (ps : List Nat) (n : Nat) : placesV (ps ++ [n]) = placesV ps ++ [.int .i64 (n : Int)] := by simp [placesV]
/-- A slice of names: slice i reads as the labels of name i. -/
def NamesV (w : World) (A : Option Addr) (ll : List (List (List UInt8))) : Prop :=
  ∀ i l, ll[i]? = some l → ∃ b off Au cu, A = some ⟨b, off, none⟩ ∧ w.cell? ⟨b, off + i, none⟩ = some (.slice Au l.length cu) ∧ l.length ≤ cu ∧ RowV w Au (labV l)
theorem NamesV.below {w w' : World} {A : Option Addr} {ll : List (List (List UInt8))} (h : NamesV w A ll) (hb : Below w.heap.size w w') : NamesV w' A ll := fun i l hl => by
  obtain ⟨b, off, Au, cu, e, hc, hcu, hr⟩ := h i l hl
  exact ⟨b, off, Au, cu, e, (hb.cell (lt_of_cell hc)).trans hc, hcu, hr.below hb⟩
/-- What comes of packing. -/
def PackIt (w : World) (g : List UInt8 × List Nat × Int) (e : Ending) (w' : World) : Prop :=
  ∃ Ab cb Ap cp, e = .returned (.tuple #[.slice Ab g.1.length cb, .slice Ap g.2.1.length cp, .int .i64 g.2.2]) ∧ RowV w' Ab (bytesV g.1) ∧ RowV w' Ap (placesV g.2.1) ∧ g.1.length ≤ cb ∧ (∀ a, Ab = some a → a.spot = none) ∧ Below w.heap.size w w'
theorem PackIt.err {w w' : World} {g : List UInt8 × List Nat × Int} {x : Int} (h : g = ([], [], x)) (hb : Below w.heap.size w w') : PackIt w g (.returned (.tuple #[.slice none 0 0, .slice none 0 0, .int .i64 x])) w' := by
  subst h
  exact ⟨none, 0, none, 0, rfl, RowV.nil _ _, RowV.nil _ _, Nat.le_refl _, (fun a h => by cases h), hb⟩
theorem own_more {w : World} {base : Nat} {e : TypeId} {v : Value} {n : Nat} {xs : List Value} (h : w.ownsRow base e 1 v n xs) : ∃ A c, v = .slice A n c ∧ n ≤ c ∧ (∀ a, A = some a → a.spot = none) ∧ RowV w A xs := by
  rcases h with ⟨hl, h⟩
  rcases h with ⟨rfl, rfl⟩ | ⟨g, cap, cur, rfl, _, hg, hn, _, hcs, ht⟩
  · have : xs = [] := List.eq_nil_of_length_eq_zero (by simpa using hl)
    subst this
    exact ⟨none, 0, rfl, Nat.le_refl _, (fun a e => by cases e), fun i v hv => by simp at hv⟩
  · refine ⟨_, cap, rfl, hn, (fun a e => by cases e; rfl), fun i v hv => ⟨g, 0, rfl, ?_⟩⟩
    have hi : i < xs.length := (List.getElem?_eq_some_iff.1 hv).1
    rw [← ht, List.getElem?_take_of_lt (by omega)] at hv
    simp only [World.cell?, hg, Nat.zero_add]
    simpa using hv
theorem int_info : (Try.prog.info? 3).map (fun i => (i.zero, i.size, i.bytes)) = some (some (.int .i64 0), 1, 8) := by kernel_rfl
theorem int_one (x : Int) : ∀ u ∈ [Value.int .i64 x], u.oneCell' = true := by
  intro u hu
  rcases List.mem_singleton.1 hu with rfl
  rfl
theorem PackAt.ints {pb mb B B2 n : Nat} {v u : Value} {p : Packed} {w w1 : World} {xs : List Value} (h : PackAt pb mb B v p w) (hown : w.ownsRow B2 3 1 u n xs) (hg : w.grownBy w1 u.ownBlock) : PackAt pb mb B v p w1 := by
  have kk := Kept.grown hg
  refine ⟨kk.whole h.box (Lib.ownBlock_ne hown h.box (by decide)), own_kept kk h.row fun j hj e => ?_, ?_, h.hpb, h.hmb⟩
  · rcases h.row.2 with ⟨e1, _⟩ | ⟨g, cap, cur, e1, _, hh, _⟩
    · subst e1
      simp [Value.ownBlock] at hj
    · subst e1
      have e2 : g = j := by simpa [Value.ownBlock] using hj
      subst e2
      exact Lib.ownBlock_ne hown hh (by decide) e
  · obtain ⟨es, ck, hm, F, hs, hD⟩ := h.map
    refine ⟨es, ck, (kk.block mb h.map.lt ?_).trans hm, F, hs, hD⟩
    intro e
    rcases hown.2 with ⟨e1, _⟩ | ⟨g, cap, cur, e1, _, hh, _⟩
    · subst e1
      simp [Value.ownBlock] at e
    · subst e1
      have e2 : g = mb := by simpa [Value.ownBlock] using e
      subst e2
      rw [hm] at hh
      cases hh
theorem own_keptT {B B2 n : Nat} {w w1 : World} {t : TypeId} {v : Value} {xs : List Value} (h : w.ownsRow B2 t 1 v n xs) (hk : KeptT B w w1) (h1 : t ≠ 5) (h2 : t ≠ 59) : w1.ownsRow B2 t 1 v n xs := by
  refine ⟨h.1, ?_⟩
  rcases h.2 with e | ⟨g, cap, cur, e1, e2, hh, e3⟩
  · exact .inl e
  · exact .inr ⟨g, cap, cur, e1, e2, hk.block g _ hh (.inr ⟨_, _, _, rfl, h1, h2⟩), e3⟩

/-- What is carried from name to name. -/
structure PackLoop (ll : List (List (List UInt8))) (w : World) (k : Nat) (p : Packed) (v u : Value) (ps : List Nat) (wr : World) : Prop where
  pack : PackAt (w.heap.size + 1) w.heap.size w.heap.size v p wr
  row : wr.ownsRow w.heap.size 3 1 u ps.length (placesV ps)
  all : packG ll ([], []) [] = packG (ll.drop k) p ps
  below : Below w.heap.size w wr
  small : ∀ e ∈ p.2, e.2 < 16384
  few : p.2.length ≤ p.1.length
  room : p.1.length ≤ 255 * k
  many : ps.length = k

theorem packLoop_start (ll : List (List (List UInt8))) (w : World) : PackLoop ll w 0 ([], []) (.slice none 0 0) (.slice none 0 0) [] ((w.alloc (.map #[] 0)).alloc (.cells #[.slice none 0 0, .map (some w.heap.size)] 59)) := by
  refine ⟨⟨?_, own_nil _ _ _ _, (World.ownsMap_made _ _ _ _).alloc _, by omega, Nat.le_refl _⟩, own_nil _ _ _ _, rfl, ((Below.refl _ w).alloc (Nat.le_refl _) _).alloc (by simp) _, by simp, Nat.le_refl _, by simp, rfl⟩
  have h := Whole.new (w.alloc (.map #[] 0)) 59 #[.slice none 0 0, .map (some w.heap.size)]
  rw [World.size_alloc] at h
  exact h
theorem PackLoop.next {ll : List (List (List UInt8))} {w wr w2 w' : World} {k : Nat} {p : Packed} {v v' u u' : Value} {ps : List Nat} (h : PackLoop ll w k p v u ps wr) (hlt : k < ll.length) (hc : checkL ll[k] = 0) (hsmall : k < 64)
    (hp : PackAt (w.heap.size + 1) w.heap.size w.heap.size v' (putF ll[k] p) w') (hrow : w2.ownsRow w.heap.size 3 1 u' (ps.length + 1) (placesV (ps ++ [p.1.length]))) (hb : Below w.heap.size w w2) (hk : KeptT w.heap.size w2 w') : PackLoop ll w (k + 1) (putF ll[k] p) v' u' (ps ++ [p.1.length]) w' := by
  have hw := checkL_wire hc
  have hlen := putF_len ll[k] p
  have hps := putF_small ll[k] p h.small h.few (by have := h.room; omega)
  have hr := h.room
  refine ⟨hp, ?_, ?_, hb.trans (hk.to_below hb.size), hps.1, hps.2, by omega, by have := h.many; simp; omega⟩
  · rw [List.length_append]
    exact own_keptT hrow hk (by decide) (by decide)
  · rw [h.all, packG_on hlt hc]

set_option maxRecDepth 100000 in
set_option maxHeartbeats 4000000 in
theorem pack_any (A : Option Addr) (c : Nat) (ll : List (List (List UInt8))) (w : World) (hr : NamesV w A ll) (hl : ∀ l ∈ ll, wireL l < 1099511627776) (hll : ll.length < 1099511627776) :
    Calls Try.prog 12 #[.slice A ll.length c] w (PackIt w (packL ll)) := by
  have hmm := @run_makeMap Try.prog
  by_cases h64 : 64 < ll.length
  · have HF : Hid (PackIt w (packL ll) (.returned (.tuple #[.slice none 0 0, .slice none 0 0, .int .i64 2])) w) := Lib.hid (PackIt.err (by rw [packL, if_pos h64]) (Below.refl _ _))
    clear hr hl
    go_enter Try.func12, Try.ntmps12
    go_wp2_with fail
    go_ret3
    exact HF.out
  · have HPK : Hid (PackLoop ll w 0 ([], []) (.slice none 0 0) (.slice none 0 0) [] ((w.alloc (.map #[] 0)).alloc (.cells #[.slice none 0 0, .map (some w.heap.size)] 59))) := Lib.hid (packLoop_start ll w)
    have HPL : Hid (packL ll = packG ll ([], []) []) := Lib.hid (by rw [packL, if_neg h64])
    have HR := Lib.hid hr
    have HL := Lib.hid hl
    clear hr hl
    go_enter Try.func12, Try.ntmps12
    go_wp2_with fail
    go_loopw [6, 18] (fun u6 i wr => ∃ (k : Nat) (p : Packed) (v : Value) (ps : List Nat), k ≤ ll.length ∧ i = .int .i64 k ∧ Hid (PackLoop ll w k p v u6 ps wr)) (fun _ i _ => ll.length - (intOf i).toNat)
    case atStart => exact ⟨0, _, _, _, Nat.zero_le _, rfl, HPK⟩
    case round =>
      obtain ⟨k, p, v, ps, hk, rfl, HPK⟩ := hrel
      by_cases hlt : k < ll.length
      · obtain ⟨b, off, Au, cu, rfl, hc, hcu, hrow⟩ := (HR.out.below HPK.out.below) k _ (List.getElem?_eq_getElem hlt)
        have hwl := HL.out ll[k] (List.getElem_mem hlt)
        have hck := check_any ll[k] Au cu wr hrow hwl (fun s hs => by have := wireL_mem hs; omega)
        have HRW0 : Hid (∀ W, Below w.heap.size w W → RowV W Au (labV ll[k])) := Lib.hid (fun W hb => by
          obtain ⟨b', off', Au', cu', e', hc', _, hr'⟩ := HR.out k _ (List.getElem?_eq_getElem hlt)
          cases e'
          have hcc := (HPK.out.below.cell (lt_of_cell hc')).trans hc'
          rw [hc] at hcc
          cases hcc
          exact hr'.below hb)
        by_cases h0 : checkL ll[k] = 0
        · rw [h0] at hck
          have h255 := checkL_wire h0
          have HCK := Lib.hid hck
          have HNX := Lib.hid (fun v' u' w2 w' => HPK.out.next (v' := v') (u' := u') (w2 := w2) (w' := w') hlt h0 (by omega))
          obtain ⟨l, hl⟩ : ∃ l, l = ll[k] := ⟨_, rfl⟩
          simp only [← hl] at hc HCK hcu HRW0 HNX h255
          obtain ⟨i0, hi, hz0, hz1, hz2⟩ := info_parts int_info
          have hroom := HPK.out.room
          have hpsl := HPK.out.many
          clear hck h0 hrow hwl hl
          go_wp2_with fail
          refine HCK.out.mono ?_
          rintro e w2 ⟨rfl, hb2⟩
          have HP2 := Lib.hid (HPK.out.pack.below hb2)
          have HB2 := Lib.hid (HPK.out.below.trans (hb2.mono HPK.out.below.size))
          have HR2 := Lib.hid (own_kept (Kept.below hb2 (fun _ => False)) HPK.out.row fun _ _ => id)
          have c0 : w2.cell? ⟨w.heap.size + 1, 0, none⟩ = some v := HP2.out.box.cell 0
          obtain ⟨Av, cv, hv, _⟩ := own_row HP2.out.row
          subst hv
          have hsz2 := HB2.out.size
          clear hb2
          go_wp2_with (at_builtin; refine wpList_append_own _ rfl _ _ 34 rfl w.heap.size 3 i0 (.int .i64 0) 1 8 Try.underlying34 hi hz0 hz1 hz2 rfl (by decide) u6 ps.length (placesV ps) rfl (HR2.out.alloc _) ⟨w2.heap.size, 0, none⟩ 1 1 [.int .i64 (p.1.length : Int)] rfl rfl (cell_one_new _ _ _) (int_one _) (by unfold maxLen; omega) (by omega) (by simp; omega) ?_; intro u3 w3 hown3 hg3 _; have hp3 := (HP2.out.alloc _).ints (HR2.out.alloc _) hg3; have hb3 : Below w.heap.size w w3 := own_below (HR2.out.alloc _) (HB2.out.alloc HB2.out.size _) (by simp; omega) hg3; rw [← placesV_snoc] at hown3; have HP3 := Lib.hid hp3; have HB3 := Lib.hid hb3; have HOWN3 := Lib.hid hown3; clear hown3 hg3 hp3 hb3)
          have hput := put_any (w.heap.size + 1) w.heap.size w.heap.size (.slice Av p.1.length cv) p Au cu l w3 HP3.out (fun W hk => HRW0.out W (HB3.out.trans (hk.to_below HB3.out.size))) hcu HB3.out.size HPK.out.small HPK.out.few (by omega) h255
          refine hput.mono ?_
          rintro e w4 ⟨rfl, ⟨v4, hp4⟩, hk4⟩
          have HN := Lib.hid (HNX.out v4 u3 w3 w4 hp4 HOWN3.out HB3.out hk4)
          clear hput hp4 hk4
          go_wp2_with fail
          go_roundw
          case rel => exact ⟨k + 1, _, _, _, by omega, by go_num, HN⟩
          case measure => simp [intOf]; omega
        · have HF : Hid (∀ W, Below w.heap.size w W → PackIt w (packL ll) (.returned (.tuple #[.slice none 0 0, .slice none 0 0, .int .i64 (checkL ll[k])])) W) := Lib.hid (fun W hb => PackIt.err (by rw [HPL.out, HPK.out.all, packG_no hlt h0]) hb)
          obtain ⟨ce, hce⟩ : ∃ ce, ce = checkL ll[k] := ⟨_, rfl⟩
          rw [← hce] at h0 hck
          simp only [← hce] at HF
          have t1 : (ce != 0) = true := by rwa [bne_iff_ne]
          have HCK := Lib.hid hck
          have HBW := Lib.hid HPK.out.below
          clear hck hrow hwl hce h0
          go_wp2_with fail
          refine HCK.out.mono ?_
          rintro e w2 ⟨rfl, hb2⟩
          have HFF := Lib.hid (HF.out w2 (HBW.out.trans (hb2.mono HBW.out.size)))
          clear hb2
          go_wp2_with fail
          go_ret3
          exact HFF.out
      · obtain rfl : k = ll.length := by omega
        obtain ⟨Av, cv, hv, hcv, hsp, hrv⟩ := own_more HPK.out.pack.row
        obtain ⟨Au, cu, hu, hru⟩ := own_row HPK.out.row
        have c0 : wr.cell? ⟨w.heap.size + 1, 0, none⟩ = some v := HPK.out.pack.box.cell 0
        have HF : Hid (PackIt w (packL ll) (.returned (.tuple #[v, u6, .int .i64 0])) wr) := Lib.hid (by
          rw [HPL.out, HPK.out.all, List.drop_length, packG]
          exact ⟨Av, cv, Au, cu, by rw [hv, hu], hrv, hru, hcv, hsp, HPK.out.below⟩)
        clear hv hu hrv hru hsp hcv
        go_wp2_with fail
        go_ret3
        exact HF.out

end Go.Proofs.Ytfnpjcfaabbejaa
