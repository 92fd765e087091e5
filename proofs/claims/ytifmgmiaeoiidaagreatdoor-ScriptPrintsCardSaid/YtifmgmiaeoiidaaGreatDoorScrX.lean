/-
  The walk of layer script's unset: a word's records. Fewer than 2^32 - 15 bytes.
-/
import Derived.Test.YtifmgmiaeoiidaaGreatDoorScrV
import Derived.Test.YtifmgmiaeoiidaaGreatDoorScrC
namespace Go.Scrp
open Go.RowKit Go.Colm
set_option linter.unusedVariables false
/-- A record of its word; a word's records. -/
def itemU (x : List UInt8) : Option (List UInt8) := if x = [45] then some [] else match unhexL x with | some b => if b = [] then none else some b | none => none
def unsetItems : List (List UInt8) → Option (List (List UInt8))
  | [] => some []
  | x :: r => match itemU x with | some b => (unsetItems r).map (b :: ·) | none => none
def unsetL (s : List UInt8) : Option (List (List UInt8)) := if s = [46] then some [] else unsetItems (sepL 44 s)
theorem unset_step {ps done : List (List UInt8)} {k : Nat} {b : List UInt8} (H : unsetItems ps = (unsetItems (ps.drop k)).map (done ++ ·)) (h : k < ps.length) (hb : itemU ps[k] = some b) : unsetItems ps = (unsetItems (ps.drop (k + 1))).map ((done ++ [b]) ++ ·) := by
  rw [H, List.drop_eq_getElem_cons h, unsetItems, hb]
  cases unsetItems (ps.drop (k + 1)) <;> simp
theorem unset_stop {ps done : List (List UInt8)} {k : Nat} (H : unsetItems ps = (unsetItems (ps.drop k)).map (done ++ ·)) (h : k < ps.length) (hb : itemU ps[k] = none) : unsetItems ps = none := by
  rw [H, List.drop_eq_getElem_cons h, unsetItems, hb]
  rfl
theorem unset_end {ps done : List (List UInt8)} {k : Nat} (H : unsetItems ps = (unsetItems (ps.drop k)).map (done ++ ·)) (h : ps.length ≤ k) : unsetItems ps = some done := by
  rw [H, List.drop_eq_nil_of_le h, unsetItems]
  simp
/-- The cells of a row of records. -/
def RecsV (N : Nat → Prop) (w : World) : List (List UInt8) → List Value → Prop
  | [], vs => vs = []
  | r :: rs, vs => ∃ A cp ys, vs = .slice A r.length cp :: ys ∧ (r.length ≤ cp ∧ cp ≤ maxLen) ∧ RowN N w A (bytesV r) ∧ RecsV N w rs ys
theorem RecsV.turn {N N' : Nat → Prop} {w w' : World} (hk : Turn N N' w w') : ∀ {l : List (List UInt8)} {vs : List Value}, RecsV N w l vs → RecsV N' w' l vs
  | [], _, h => h
  | r :: rs, _, ⟨A, cp, ys, e, h1, h2, h3⟩ => ⟨A, cp, ys, e, h1, h2.turn hk, RecsV.turn hk h3⟩
theorem RecsV.snoc {N : Nat → Prop} {w : World} {r : List UInt8} {A : Option Addr} {cp : Nat} (h1 : r.length ≤ cp ∧ cp ≤ maxLen) (h2 : RowN N w A (bytesV r)) : ∀ {l : List (List UInt8)} {vs : List Value}, RecsV N w l vs → RecsV N w (l ++ [r]) (vs ++ [.slice A r.length cp])
  | [], _, h => by
    have h : _ = [] := h
    subst h
    exact ⟨A, cp, [], rfl, h1, h2, rfl⟩
  | x :: rs, _, ⟨A', cp', ys, e, h3, h4, h5⟩ => by
    subst e
    exact ⟨A', cp', ys ++ [.slice A r.length cp], rfl, h3, h4, RecsV.snoc h1 h2 h5⟩
theorem RecsV.get {N : Nat → Prop} {w : World} : ∀ {l : List (List UInt8)} {vs : List Value} {i : Nat} (hi : i < l.length), RecsV N w l vs → ∃ A cp, vs[i]? = some (.slice A l[i].length cp) ∧ (l[i].length ≤ cp ∧ cp ≤ maxLen) ∧ RowN N w A (bytesV l[i])
  | r :: rs, _, 0, _, ⟨A, cp, ys, e, h1, h2, h3⟩ => by
    subst e
    exact ⟨A, cp, rfl, h1, h2⟩
  | r :: rs, _, i + 1, hi, ⟨A, cp, ys, e, h1, h2, h3⟩ => by
    subst e
    obtain ⟨A', cp', g⟩ := RecsV.get (i := i) (by simpa using hi) h3
    exact ⟨A', cp', by simpa using g⟩
end Go.Scrp
namespace Go.Proofs.YtifmgmiaeoiidaaGreatDoor
open Go.RowKit Go.Colm Go.Scrp
set_option linter.unusedVariables false

theorem own_at {w : World} {base : Nat} {e : TypeId} {size : Nat} {v : Value} {n : Nat} {xs : List Value} (h : w.ownsRow base e size v n xs) {k : Nat} (hk : v.ownBlock = some k) : k < w.heap.size := (h.lt k hk).2
theorem own_from {w : World} {base : Nat} {e : TypeId} {size : Nat} {v : Value} {n : Nat} {xs : List Value} (h : w.ownsRow base e size v n xs) {k : Nat} (hk : v.ownBlock = some k) : base ≤ k := (h.lt k hk).1
/-- An own row's cells lie in its block. -/
theorem own_rowN {w : World} {base : Nat} {e : TypeId} {v : Value} {n : Nat} {xs : List Value} (h : w.ownsRow base e 1 v n xs) : ∃ A c, v = .slice A n c ∧ (n ≤ c ∧ c ≤ maxLen) ∧ RowN (fun k => base ≤ k) w A xs := by
  rcases h.2 with ⟨rfl, h0⟩ | ⟨g, cap, cur, rfl, hbg, hg, hnc, hcm, hcs, htake⟩
  · subst h0
    have hx : xs = [] := List.eq_nil_of_length_eq_zero (by simpa using h.1)
    subst hx
    exact ⟨none, 0, rfl, by unfold maxLen; omega, fun i v hv => by simp at hv⟩
  · refine ⟨_, _, rfl, ⟨hnc, hcm⟩, fun i v hv => ⟨g, 0, rfl, hbg, ?_⟩⟩
    have := h.cells (g := g) rfl i v hv
    rw [Nat.zero_add]
    simpa [Addr.add_lit] using this
theorem sl8_info : (Tryz.prog.info? 44).map (fun i => (i.zero, i.size, i.bytes)) = some (some (.slice none 0 0), 1, 24) := by kernel_rfl

/-- What comes of a word of records. -/
def UnsetIt (w : World) (s : List UInt8) (e : Ending) (w' : World) : Prop :=
  (unsetL s = none → e = .returned (.tuple #[.slice none 0 0, .bool false])) ∧
  (∀ l, unsetL s = some l → ∃ A c, e = .returned (.tuple #[.slice A l.length c, .bool true]) ∧ (l.length ≤ c ∧ c ≤ maxLen) ∧ RecsAt (fun k => w.heap.size ≤ k) w' A l) ∧ Below w.heap.size w w'
/-- What the loop carries. -/
structure UnsetLoop (ps : List (List UInt8)) (w : World) (k : Nat) (v : Value) (done : List (List UInt8)) (wr : World) : Prop where
  row : ∃ vs, wr.ownsRow w.heap.size 44 1 v k vs ∧ RecsV (fun j => w.heap.size ≤ j ∧ v.ownBlock ≠ some j) wr done vs
  len : done.length = k
  rest : unsetItems ps = (unsetItems (ps.drop k)).map (done ++ ·)
  below : Below w.heap.size w wr

theorem UnsetLoop.app {ps done : List (List UInt8)} {w wr W w3 : World} {k : Nat} {v v' : Value} {b : List UInt8} {A : Option Addr} {c : Nat} {vs : List Value} (h : UnsetLoop ps w k v done wr) (hlt : k < ps.length) (hb : itemU ps[k] = some b)
    (hvs : wr.ownsRow w.heap.size 44 1 v k vs) (hrv : RecsV (fun j => w.heap.size ≤ j ∧ v.ownBlock ≠ some j) wr done vs)
    (hW : Below wr.heap.size wr W) (hn : b.length ≤ c ∧ c ≤ maxLen) (hr : RowN (fun j => wr.heap.size ≤ j) W A (bytesV b)) (hWl : ∀ j i u, W.cell? ⟨j, i, none⟩ = some u → j < W.heap.size)
    (hown : w3.ownsRow w.heap.size 44 1 v' (k + 1) (vs ++ [.slice A b.length c])) (hg : (W.alloc (.cells #[.slice A b.length c] 44)).grownBy w3 v.ownBlock) (hat : v'.ownBlock = v.ownBlock ∨ v'.ownBlock = some (W.alloc (.cells #[.slice A b.length c] 44)).heap.size) :
    UnsetLoop ps w (k + 1) v' (done ++ [b]) w3 := by
  have hvl : ∀ j, v.ownBlock = some j → j < wr.heap.size := fun j e => own_at hvs e
  have hsz := hW.size
  have hsw := h.below.size
  have hka : Kept (fun _ => False) W (W.alloc (.cells #[.slice A b.length c] 44)) := (Kept.refl _ _).alloc _
  have hk3 := Kept.grown hg
  have hne : ∀ j, j < W.heap.size → v.ownBlock ≠ some j → v'.ownBlock ≠ some j := by
    intro j hj h1 h2
    rcases hat with e | e
    · exact h1 (e.symm.trans h2)
    · rw [e] at h2
      have h3 := Option.some.inj h2
      simp at h3
      omega
  refine ⟨⟨_, hown, RecsV.snoc hn ?_ (RecsV.turn ?_ hrv)⟩, by simp [h.len], unset_step h.rest hlt hb, ?_⟩
  · refine RowN.turn (fun j i u hj hc => ?_) hr
    have hjl := hWl _ _ _ hc
    have hjv : v.ownBlock ≠ some j := fun e => by
      have := hvl j e
      omega
    refine ⟨⟨by omega, hne j hjl hjv⟩, hk3.cell (hka.cell hc id) hjv⟩
  · rintro j i u ⟨hj1, hj2⟩ hc
    have hjl := lt_of_cell (a := ⟨j, i, none⟩) hc
    dsimp only at hjl
    exact ⟨⟨hj1, hne j (by omega) hj2⟩, hk3.cell (hka.cell ((hW.cell (p := ⟨j, i, none⟩) hjl).trans hc) id) hj2⟩
  · exact (below_chain h.below hW).trans (((Below.refl _ _).alloc (by omega) _).grown hg (by simp; omega) fun j e => own_from hvs e)

set_option maxRecDepth 100000 in
set_option maxHeartbeats 4000000 in
theorem unset_any (s : List UInt8) (w : World) (E : Env w) (hs : s.length < 4294967281) : Calls Tryz.prog 96 #[.string ⟨s.toArray⟩] w (UnsetIt w s) := by
  obtain ⟨i0, hi, hz0, hz1, hz2⟩ := info_parts sl8_info
  obtain ⟨S, hS⟩ : ∃ S : ByteArray, S = ⟨s.toArray⟩ := ⟨_, rfl⟩
  have hq : (S.toList == [46]) = decide (s = [46]) := by rw [hS]; exact str_beq2 s [46]
  have HSP := Lib.hid (split_parts 44 s w E.maxl hs)
  rw [← hS] at HSP ⊢
  by_cases h46 : s = [46]
  · rw [decide_eq_true h46] at hq
    have hu : unsetL s = some [] := by rw [unsetL, if_pos h46]
    have HF : Hid (UnsetIt w s (.returned (.tuple #[.slice none 0 0, .bool true])) w) := Lib.hid ⟨fun h => (by rw [hu] at h; cases h), fun l h => (by rw [hu] at h; cases h; exact ⟨none, 0, rfl, by unfold maxLen; simp, RecsAt.nil _ _ _⟩), Below.refl _ _⟩
    clear hu h46 hS E
    go_enter Tryz.func96, Tryz.ntmps96
    go_wp2_with fail
    go_ret2
    exact HF.out
  rw [decide_eq_false h46] at hq
  obtain ⟨ps, hps⟩ : ∃ ps, ps = sepL 44 s := ⟨_, rfl⟩
  have hu : unsetL s = unsetItems ps := by rw [unsetL, if_neg h46, hps]
  have hpl : ∀ k (hk : k < ps.length), ps[k].length ≤ s.length := fun k hk => by
    subst hps
    exact sep_len s _ (List.getElem_mem hk)
  rw [← hps] at HSP
  have HU := Lib.hid hu
  have HPL := Lib.hid hpl
  clear hu h46 hS E hpl
  go_enter Tryz.func96, Tryz.ntmps96
  go_wp2_with fail
  refine HSP.out.mono ?_
  rintro e w1 ⟨A, c, rfl, hrow, hc, hb1⟩
  have HROW := Lib.hid hrow
  have HL0 : Hid (UnsetLoop ps w1 0 (.slice none 0 0) [] w1) := Lib.hid ⟨⟨[], own_nil _ _ _ _, rfl⟩, rfl, by simp, Below.refl _ _⟩
  have HB1 := Lib.hid hb1
  have hpsl : ps.length ≤ 9223372036854775807 := by
    have := sep_many (d := 44) s
    rw [← hps] at this
    omega
  have hpsn := sep_many (d := 44) s
  rw [← hps] at hpsn
  clear hrow hb1 hps
  go_wp2_with fail
  go_loopw [4, 14] (fun v i wr => ∃ (k : Nat) (done : List (List UInt8)), k ≤ ps.length ∧ i = .int .i64 k ∧ Hid (UnsetLoop ps w1 k v done wr)) (fun _ i _ => ps.length - (intOf i).toNat)
  case atStart => exact ⟨0, [], Nat.zero_le _, rfl, HL0⟩
  case round =>
    obtain ⟨k, done, hk, rfl, HC⟩ := hrel
    by_cases hlt : k < ps.length
    · obtain ⟨bA, offA, rfl, hcell⟩ := (HROW.out.below HC.out.below) k (.string ⟨ps[k].toArray⟩) (by simp [txtV, hlt])
      obtain ⟨X, hX⟩ : ∃ X : ByteArray, X = ⟨ps[k].toArray⟩ := ⟨_, rfl⟩
      rw [← hX] at hcell
      have hXl : X.data.toList = ps[k] := by rw [hX]
      have hXs : X.size = ps[k].length := by rw [hX, str_size]
      have hXle := HPL.out k hlt
      have hx45 : (X.toList == [45]) = decide (ps[k] = [45]) := by rw [hX]; exact str_beq2 _ _
      obtain ⟨vs, hvs, hrv⟩ := HC.out.row
      have hsw := HC.out.below.size
      have HVS := Lib.hid hvs
      have HRV := Lib.hid hrv
      clear hvs hrv
      by_cases h45 : ps[k] = [45]
      · rw [decide_eq_true h45] at hx45
        have hit : itemU ps[k] = some [] := by rw [itemU, if_pos h45]
        have HIT := Lib.hid hit
        clear hit h45 hX hXl hXs
        go_wp2_with (at_builtin; refine wpList_append_own_at _ rfl _ _ 45 rfl w1.heap.size 44 i0 (.slice none 0 0) 1 24 Tryz.underlying45 hi hz0 hz1 hz2 rfl (by decide) _ k vs rfl (HVS.out.alloc _) ⟨wr.heap.size, 0, none⟩ 1 1 [.slice none 0 0] rfl rfl (cell_one_new _ _ _) (fun x hx => by simp at hx; subst hx; rfl) (by unfold maxLen; omega) (by omega) (by simp; omega) ?_; intro v3 w3 hown3 hg3 _ hat3; obtain ⟨A3, c3, rfl, _⟩ := own_more hown3; have HN3 := Lib.hid (UnsetLoop.app (b := []) HC.out hlt HIT.out HVS.out HRV.out (Below.refl _ _) (by unfold maxLen; simp) (fun i v hv => by simp [bytesV] at hv) (fun j i u h => lt_of_cell (a := ⟨j, i, none⟩) h) hown3 hg3 hat3); clear hown3 hg3 hat3)
        go_wp2_with fail
        go_roundw
        case rel => exact ⟨k + 1, _, by omega, by go_num, HN3⟩
        case measure => simp [intOf]; omega
      · rw [decide_eq_false h45] at hx45
        have hux := unhex_any X wr (by omega)
        rw [hXl] at hux
        have HUX := Lib.hid hux
        have HI0 : Hid (itemU ps[k] = match unhexL ps[k] with | some b => if b = [] then none else some b | none => none) := Lib.hid (by rw [itemU, if_neg h45])
        clear hux h45 hX hXl hXs
        go_wp2_with fail
        refine HUX.out.mono ?_
        rintro e w2 ⟨hno, hyes, hb2⟩
        have HB2 := Lib.hid hb2
        have hsz2 := hb2.size
        cases hun : unhexL ps[k] with
        | none =>
          have he := hno hun
          subst he
          have HF : Hid (UnsetIt w s (.returned (.tuple #[.slice none 0 0, .bool false])) w2) := Lib.hid ⟨fun _ => rfl, fun l h => (by rw [HU.out, unset_stop HC.out.rest hlt (by rw [HI0.out, hun])] at h; cases h), below_chain HB1.out (below_chain HC.out.below hb2)⟩
          clear hno hyes hb2 hun
          go_wp2_with fail
          go_ret2
          exact HF.out
        | some bb =>
          obtain ⟨A2, c2, he, hown2⟩ := hyes bb hun
          subst he
          by_cases hb0 : bb = []
          · have HF : Hid (UnsetIt w s (.returned (.tuple #[.slice none 0 0, .bool false])) w2) := Lib.hid ⟨fun _ => rfl, fun l h => (by rw [HU.out, unset_stop HC.out.rest hlt (by rw [HI0.out, hun]; exact if_pos hb0)] at h; cases h), below_chain HB1.out (below_chain HC.out.below hb2)⟩
            subst hb0
            clear hno hyes hb2 hun hown2
            go_wp2_with fail
            go_ret2
            exact HF.out
          · have hbl : 0 < bb.length := by
              rcases bb with _ | ⟨q, bb⟩
              · exact absurd rfl hb0
              · simp
            have t0 : ((bb.length : Int) == 0) = false := by
              rw [beq_eq_false_iff_ne]
              omega
            have HIT : Hid (itemU ps[k] = some bb) := Lib.hid (by rw [HI0.out, hun]; exact if_neg hb0)
            obtain ⟨A4, c4, e4, hc4, hrn⟩ := own_rowN hown2
            cases e4
            have HRN := Lib.hid hrn
            have HC4 := Lib.hid hc4
            have HV2 := Lib.hid (own_kept (Kept.below hb2 (fun _ => False)) HVS.out fun _ _ => id)
            clear hno hyes hb2 hun hown2 hrn hc4 hb0
            go_wp2_with (at_builtin; refine wpList_append_own_at _ rfl _ _ 45 rfl w1.heap.size 44 i0 (.slice none 0 0) 1 24 Tryz.underlying45 hi hz0 hz1 hz2 rfl (by decide) _ k vs rfl (HV2.out.alloc _) ⟨w2.heap.size, 0, none⟩ 1 1 [.slice A2 bb.length c2] rfl rfl (cell_one_new _ _ _) (fun x hx => by simp at hx; subst hx; rfl) (by unfold maxLen; omega) (by omega) (by simp; omega) ?_; intro v3 w3 hown3 hg3 _ hat3; obtain ⟨A3, c3, rfl, _⟩ := own_more hown3; have HN3 := Lib.hid (UnsetLoop.app (b := bb) HC.out hlt HIT.out HVS.out HRV.out HB2.out HC4.out HRN.out (fun j i u h => lt_of_cell (a := ⟨j, i, none⟩) h) hown3 hg3 hat3); clear hown3 hg3 hat3)
            go_wp2_with fail
            go_roundw
            case rel => exact ⟨k + 1, _, by omega, by go_num, HN3⟩
            case measure => simp [intOf]; omega
    · have he := unset_end HC.out.rest (Nat.le_of_not_lt hlt)
      obtain ⟨vs, hvs, hrv⟩ := HC.out.row
      have hdl := HC.out.len
      obtain ⟨A2, c2, hv, hc2, hrn⟩ := own_rowN hvs
      have HF : Hid (UnsetIt w s (.returned (.tuple #[.slice A2 k c2, .bool true])) wr) := Lib.hid ⟨fun h => (by rw [HU.out, he] at h; cases h), fun l h => (by
        rw [HU.out, he] at h
        cases h
        refine ⟨A2, c2, by rw [hdl], by rw [hdl]; exact hc2, fun i hi => ?_⟩
        obtain ⟨A', cp, h1, h2, h3⟩ := RecsV.get hi hrv
        obtain ⟨b5, off5, e5, h5, h6⟩ := hrn i _ h1
        exact ⟨b5, off5, A', cp, e5, Nat.le_trans HB1.out.size h5, h6, h2, RowN.turn (fun j i u hj hc => ⟨Nat.le_trans HB1.out.size hj.1, hc⟩) h3⟩), below_chain HB1.out HC.out.below⟩
      clear hvs hrn hrv
      subst hv
      go_wp2_with fail
      go_ret2
      exact HF.out
end Go.Proofs.YtifmgmiaeoiidaaGreatDoor
