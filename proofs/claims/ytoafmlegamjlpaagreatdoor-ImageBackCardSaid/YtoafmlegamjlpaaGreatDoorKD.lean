/-
  The walks of layout's Runs: rows of runs of one's own. No condition but the table of sizes.
  The walk of layout.Runs. No condition but the table of sizes.
-/
import Derived.Test.YtoafmlegamjlpaaGreatDoorKC
import Derived.Maps.AppendAt
import Derived.OwnWalk
import Derived.Test.YtoafmlegamjlpaaGreatDoorKA
namespace Go.Proofs.YtoafmlegamjlpaaGreatDoor
open Go.RowKit Go.Colm Go.Cap Go.Maps
set_option linter.unusedVariables false
set_option linter.unusedSimpArgs false

theorem run_info : (Tryz.prog.info? 101).map (fun i => (i.zero, i.size, i.bytes)) = some (some (.agg #[.int .i64 0, .int .i64 0, .int .i64 0]), 3, 24) := by kernel_rfl
/-- The cells of runs. -/
def runV (r : Rn) : List Value := [.int .i64 (r.a : Int), .int .i64 (r.n : Int), .int .i64 (r.k : Int)]
def runsV (l : List Rn) : List Value := l.flatMap runV
theorem runsV_length (l : List Rn) : (runsV l).length = l.length * 3 := by
  induction l with
  | nil => rfl
  | cons r l ih => rw [runsV, List.flatMap_cons, List.length_append, ← runsV, ih]; simp [runV]; omega
theorem runsV_snoc (l : List Rn) (r : Rn) : runsV (l ++ [r]) = runsV l ++ runV r := by simp [runsV]
theorem runsV_get (l : List Rn) (i : Nat) (h : i < l.length) : (runsV l)[i * 3]? = some (.int .i64 (l[i].a : Int)) ∧ (runsV l)[i * 3 + 1]? = some (.int .i64 (l[i].n : Int)) ∧ (runsV l)[i * 3 + 2]? = some (.int .i64 (l[i].k : Int)) := by
  induction l generalizing i with
  | nil => simp at h
  | cons r l ih =>
    have e : runsV (r :: l) = runV r ++ runsV l := rfl
    cases i with
    | zero => exact ⟨rfl, rfl, rfl⟩
    | succ i =>
      have h1 := ih i (by simpa using h)
      have e3 : (runV r).length = 3 := rfl
      rw [e, List.getElem?_append_right (by rw [e3]; omega), List.getElem?_append_right (by rw [e3]; omega), List.getElem?_append_right (by rw [e3]; omega), e3, show (i + 1) * 3 - 3 = i * 3 by omega, show (i + 1) * 3 + 1 - 3 = i * 3 + 1 by omega, show (i + 1) * 3 + 2 - 3 = i * 3 + 2 by omega]
      simpa using h1
/-- A row of runs of one's own, from block B on. -/
def RunsOwn (B : Nat) (w : World) (v : Value) (l : List Rn) : Prop := w.ownsRow B 101 3 v l.length (runsV l)
theorem RunsOwn.nil (B : Nat) (w : World) : RunsOwn B w (.slice none 0 0) [] := ⟨rfl, .inl ⟨rfl, rfl⟩⟩
theorem cell_three_new (w : World) (x y z : Value) (t : TypeId) : ∀ j u, [x, y, z][j]? = some u → (w.alloc (.cells #[x, y, z] t)).cell? ((⟨w.heap.size, 0, none⟩ : Addr).add j) = some u := by
  intro j u hj
  have h := Whole.new w t #[x, y, z]
  rw [Addr.add_lit, h.cell, Nat.zero_add]
  simpa using hj
/-- Of runs, where the next one begins. -/
def nextR (l : List Rn) : Nat := match l.getLast? with | none => 0 | some r => r.a + r.n
def layR (l : List Rn) (e k : Nat) : List Rn := if nextR l < e then l ++ [⟨nextR l, e - nextR l, k⟩] else l
theorem own_slice {w : World} {base : Nat} {e : TypeId} {size : Nat} {v : Value} {n : Nat} {xs : List Value} (h : w.ownsRow base e size v n xs) : ∃ A c, v = .slice A n c := by
  rcases h.2 with ⟨rfl, h0⟩ | ⟨g, cap, cur, rfl, _⟩
  · subst h0
    exact ⟨none, 0, rfl⟩
  · exact ⟨_, cap, rfl⟩
theorem own_cells {w : World} {base : Nat} {e : TypeId} {size : Nat} {A : Option Addr} {c n : Nat} {xs : List Value} (h : w.ownsRow base e size (.slice A n c) n xs) (hn : 1 ≤ n) (hs : 1 ≤ size) : ∃ g, A = some ⟨g, 0, none⟩ ∧ base ≤ g ∧ n ≤ c ∧ ∀ i v, xs[i]? = some v → w.cell? ⟨g, i, none⟩ = some v := by
  rcases h with ⟨hl, ⟨e0, _⟩ | ⟨g, cap, cur, e1, h2, h3, h4, h5, h6, h7⟩⟩
  · injection e0 with e1 e2 e3
    omega
  · injection e1 with e1 e2 e3
    subst e1 e3
    refine ⟨g, rfl, h2, h4, fun i v hv => ?_⟩
    have hi := (List.getElem?_eq_some_iff.1 hv).1
    rw [← h7, List.getElem?_take_of_lt (by omega)] at hv
    simp only [World.cell?, h3]
    simpa using hv
theorem own_far {w : World} {base : Nat} {e t : TypeId} {size : Nat} {v : Value} {n : Nat} {xs : List Value} {g : Nat} {cs : Array Value} (h : w.ownsRow base e size v n xs) (hw : Whole w g t cs) (ht : t ≠ e) : v.ownBlock ≠ some g := by
  intro hb
  rcases h.2 with ⟨rfl, _⟩ | ⟨g', cap, cur, rfl, _, h3, _⟩
  · cases hb
  · have e1 : g' = g := by simpa [Value.ownBlock] using hb
    subst e1
    unfold Whole at hw
    rw [hw] at h3
    injection h3 with h4
    injection h4 with h5 h6
    exact ht h6
set_option maxHeartbeats 3200000 in
theorem lay_ok (lb B e k : Nat) (v : Value) (l : List Rn) (w : World) (hb : Whole w lb 67 #[v]) (hr : RunsOwn B w v l) (hB : B ≤ w.heap.size) (he : e < 8589934592) (hk : k < 256) (hl : l.length < 100000) (hn : nextR l < 8589934592) :
    Calls Tryz.prog 211 #[.int .i64 (e : Int), .int .i64 (k : Int), .pointer (some ⟨lb, 0, none⟩)] w fun x w' => x = .returned (.tuple #[]) ∧ ∃ v', Whole w' lb 67 #[v'] ∧ RunsOwn B w' v' (layR l e k) ∧ Kept (fun j => j = lb ∨ v.ownBlock = some j) w w' ∧ (v'.ownBlock = v.ownBlock ∨ ∃ j, w.heap.size ≤ j ∧ v'.ownBlock = some j) := by
  obtain ⟨i0, hi, hz0, hz1, hz2⟩ := info_parts run_info
  obtain ⟨A, c, rfl⟩ := own_slice hr
  have c0 : w.cell? ⟨lb, 0, none⟩ = some (.slice A l.length c) := hb.cell 0
  have f0 := hb.frozen 0
  have HB := Lib.hid hb
  have HR := Lib.hid hr
  rcases Nat.eq_zero_or_pos l.length with h0 | hpos
  · have hnx : nextR l = 0 := by
      rw [List.eq_nil_of_length_eq_zero h0]
      rfl
    have HNX := Lib.hid hnx
    have HLEN := Lib.hid h0
    rw [h0] at c0
    have HR2 : Hid (w.ownsRow B 101 3 (.slice A 0 c) 0 (runsV l)) := Lib.hid (by rw [RunsOwn, h0] at hr; exact hr)
    have HB2 : Hid (Whole w lb 67 #[.slice A 0 c]) := Lib.hid (by rw [← h0]; exact hb)
    have HFAR : Hid ((Value.slice A 0 c).ownBlock ≠ some lb) := Lib.hid (by rw [← h0]; exact own_far hr hb (by decide))
    clear hb hr hnx h0 hn hl
    go_enter Tryz.func211, Tryz.ntmps211
    have HOB : Hid ((Value.slice A 0 c).ownBlock = (Value.slice A l.length c).ownBlock) := Lib.hid (by cases A <;> rfl)
    by_cases hlt : 0 < e
    · have HSUB : Hid ((e : Int) = ((e - 0 : Nat) : Int)) := Lib.hid (by omega)
      go_wp2_with (at_builtin; refine wpList_append_own_at _ rfl _ _ 67 rfl B 101 i0 (.agg #[.int .i64 0, .int .i64 0, .int .i64 0]) 3 24 Tryz.underlying67 hi hz0 hz1 hz2 rfl (by decide) (.slice A 0 c) 0 (runsV l) rfl (HR2.out.alloc _) ⟨w.heap.size, 0, none⟩ 1 1 [.int .i64 0, .int .i64 (e : Int), .int .i64 (k : Int)] rfl rfl (cell_three_new _ _ _ _ _) (fun x hx => by simp at hx; rcases hx with rfl | rfl | rfl <;> rfl) (by unfold maxLen; omega) (by omega) (by simp; omega) ?_; intro v' w3 hown3 hg3 _ hat3; have ht3 : Whole w3 lb 67 #[.slice A 0 c] := (Kept.grown hg3).whole (((Kept.refl (fun _ => False) w).alloc (.cells #[.int .i64 0, .int .i64 (e : Int), .int .i64 (k : Int)] 101)).whole HB2.out (fun h => h)) HFAR.out; have hc3 : w3.cell? ⟨lb, 0, none⟩ = some (.slice A 0 c) := ht3.cell 0; have hf3 := ht3.frozen 0; have HN3 := Lib.hid (own_far hown3 ht3 (by decide)); obtain ⟨A3, cap3, hv3⟩ := own_slice hown3; have HV3 := Lib.hid hv3; have HT3 := Lib.hid ht3; have HO3 := Lib.hid hown3; have HG3 := Lib.hid hg3; rw [hv3]; clear hv3 ht3 hown3 hg3)
      go_end0
      refine ⟨rfl, v', ?_, ?_, ?_, ?_⟩
      · rw [HV3.out]
        exact HT3.out.put 0 _
      · rw [RunsOwn, layR, if_pos (by rw [HNX.out]; exact hlt), runsV_snoc, List.length_append, HNX.out]
        have h := own_stays HO3.out ((Kept.refl (fun j => j = lb) w3).setCell (p := ⟨lb, 0, none⟩) (.inl rfl) (.slice A3 (0 + 1) cap3)) (fun j hj e => HN3.out (by rw [hj, e]))
        rw [HSUB.out] at h
        rw [HLEN.out]
        exact h
      · exact (((Kept.refl (fun j => j = lb ∨ (Value.slice A l.length c).ownBlock = some j) w).alloc _).trans ((Kept.grown HG3.out).mono (S' := fun j => j = lb ∨ (Value.slice A l.length c).ownBlock = some j) fun k _ h => Or.inr (by rw [← HOB.out]; exact h))).setCell (p := ⟨lb, 0, none⟩) (.inl (.inl rfl)) _
      · rcases hat3 with h | h
        · exact .inl (by rw [← HOB.out]; exact h)
        · exact .inr ⟨_, by simp, h⟩
    · go_wp2_with fail
      go_end0
      refine ⟨rfl, _, HB.out, ?_, Kept.refl _ _, .inl rfl⟩
      rw [RunsOwn, layR, if_neg (by rw [HNX.out]; exact hlt)]
      exact HR.out
  · obtain ⟨g, rfl, _, hcap, hcell⟩ := own_cells hr hpos (by decide)
    obtain ⟨p, hp⟩ : ∃ p, l.length = p + 1 := ⟨l.length - 1, by omega⟩
    obtain ⟨g0, g1, g2⟩ := runsV_get l p (by omega)
    have d0 := hcell _ _ g0
    have d1 := hcell _ _ g1
    obtain ⟨x, hx⟩ : ∃ x, x = l[p].a := ⟨_, rfl⟩
    obtain ⟨y, hy⟩ : ∃ y, y = l[p].n := ⟨_, rfl⟩
    rw [← hx] at d0
    rw [← hy] at d1
    have hnx : nextR l = x + y := by
      rw [nextR, List.getLast?_eq_getElem?, hp, Nat.add_sub_cancel, List.getElem?_eq_getElem (by omega), hx, hy]
    have HNX := Lib.hid hnx
    have HLEN := Lib.hid hp
    rw [hnx] at hn
    have HR2 : Hid (w.ownsRow B 101 3 (.slice (some ⟨g, 0, none⟩) (p + 1) c) (p + 1) (runsV l)) := Lib.hid (by rw [← hp]; exact hr)
    have HB2 : Hid (Whole w lb 67 #[.slice (some ⟨g, 0, none⟩) (p + 1) c]) := Lib.hid (by rw [← hp]; exact hb)
    have HFAR : Hid ((Value.slice (some ⟨g, 0, none⟩) (p + 1) c).ownBlock ≠ some lb) := Lib.hid (by rw [← hp]; exact own_far hr hb (by decide))
    rw [hp] at c0 hcap hl
    clear hcell g0 g1 g2 hb hr hnx hx hy hpos hp
    go_enter Tryz.func211, Tryz.ntmps211
    go_wp2_with fail
    go_quiet (fail)
    clear d0 d1
    obtain ⟨z, hz⟩ : ∃ z : Nat, z = x + y := ⟨_, rfl⟩
    rw [show (x : Int) + (y : Int) = (z : Int) by omega]
    have HNX : Hid (nextR l = z) := Lib.hid (by rw [hz]; exact HNX.out)
    rw [← hz] at hn
    clear hz
    by_cases hlt : z < e
    · have HSUB : Hid (((e : Int) - (z : Int)) = ((e - z : Nat) : Int)) := Lib.hid (by omega)
      go_wp2_with (at_builtin; refine wpList_append_own_at _ rfl _ _ 67 rfl B 101 i0 (.agg #[.int .i64 0, .int .i64 0, .int .i64 0]) 3 24 Tryz.underlying67 hi hz0 hz1 hz2 rfl (by decide) (.slice (some ⟨g, 0, none⟩) (p + 1) c) (p + 1) (runsV l) rfl (HR2.out.alloc _) ⟨w.heap.size, 0, none⟩ 1 1 [.int .i64 (z : Int), .int .i64 ((e : Int) - (z : Int)), .int .i64 (k : Int)] rfl rfl (cell_three_new _ _ _ _ _) (fun x hx => by simp at hx; rcases hx with rfl | rfl | rfl <;> rfl) (by unfold maxLen; omega) (by omega) (by simp; omega) ?_; intro v' w3 hown3 hg3 _ hat3; have ht3 : Whole w3 lb 67 #[.slice (some ⟨g, 0, none⟩) (p + 1) c] := (Kept.grown hg3).whole (((Kept.refl (fun _ => False) w).alloc (.cells #[.int .i64 (z : Int), .int .i64 ((e : Int) - (z : Int)), .int .i64 (k : Int)] 101)).whole HB2.out (fun h => h)) HFAR.out; have hc3 : w3.cell? ⟨lb, 0, none⟩ = some (.slice (some ⟨g, 0, none⟩) (p + 1) c) := ht3.cell 0; have hf3 := ht3.frozen 0; have HN3 := Lib.hid (own_far hown3 ht3 (by decide)); obtain ⟨A3, cap3, hv3⟩ := own_slice hown3; have HV3 := Lib.hid hv3; have HT3 := Lib.hid ht3; have HO3 := Lib.hid hown3; have HG3 := Lib.hid hg3; rw [hv3]; clear hv3 ht3 hown3 hg3)
      go_end0
      refine ⟨rfl, v', ?_, ?_, ?_, ?_⟩
      · rw [HV3.out]
        exact HT3.out.put 0 _
      · rw [RunsOwn, layR, if_pos (by rw [HNX.out]; exact hlt), runsV_snoc, List.length_append, HNX.out]
        have h := own_stays HO3.out ((Kept.refl (fun j => j = lb) w3).setCell (p := ⟨lb, 0, none⟩) (.inl rfl) (.slice A3 (p + 1 + 1) cap3)) (fun j hj e => HN3.out (by rw [hj, e]))
        rw [HSUB.out] at h
        rw [HLEN.out]
        exact h
      · exact ((((Kept.refl (fun j => j = lb ∨ (Value.slice (some ⟨g, 0, none⟩) l.length c).ownBlock = some j) w).drewN nq).alloc _).trans ((Kept.grown HG3.out).mono (S' := fun j => j = lb ∨ (Value.slice (some ⟨g, 0, none⟩) l.length c).ownBlock = some j) fun k _ h => Or.inr h)).setCell (p := ⟨lb, 0, none⟩) (.inl (.inl rfl)) _
      · rcases hat3 with h | h
        · exact .inl h
        · exact .inr ⟨_, by simp, h⟩
    · go_wp2_with fail
      go_end0
      refine ⟨rfl, _, HB.out, ?_, (Kept.refl _ _).drewN _, .inl rfl⟩
      rw [RunsOwn, layR, if_neg (by rw [HNX.out]; exact hlt)]
      exact HR.out
end Go.Proofs.YtoafmlegamjlpaaGreatDoor
namespace Go.Proofs.YtoafmlegamjlpaaGreatDoor
open Go.RowKit Go.Colm Go.Cap Go.Maps
set_option linter.unusedVariables false
set_option linter.unusedSimpArgs false

/-- A box with a row of runs. -/
def LayAt (lb : Nat) (l : List Rn) (w : World) : Prop := ∃ v, Whole w lb 67 #[v] ∧ RunsOwn lb w v l
theorem LayAt.below {lb : Nat} {l : List Rn} {w w' : World} (h : LayAt lb l w) (hb : Below w.heap.size w w') : LayAt lb l w' := by
  obtain ⟨v, h1, h2⟩ := h
  exact ⟨v, (hb.block _ h1.lt).trans h1, own_stays h2 (Kept.below hb fun _ => False) fun _ _ h => h⟩
theorem layB_ok (lb e k : Nat) (l : List Rn) (w : World) (h : LayAt lb l w) (he : e < 8589934592) (hk : k < 256) (hl : l.length < 100000) (hn : nextR l < 8589934592) :
    Calls Tryz.prog 211 #[.int .i64 (e : Int), .int .i64 (k : Int), .pointer (some ⟨lb, 0, none⟩)] w fun x w' => x = .returned (.tuple #[]) ∧ LayAt lb (layR l e k) w' ∧ Kept (fun j => lb ≤ j) w w' := by
  obtain ⟨v, h1, h2⟩ := h
  refine (lay_ok lb lb e k v l w h1 h2 (Nat.le_of_lt h1.lt) he hk hl hn).mono ?_
  rintro x w' ⟨rfl, v', g1, g2, g3, _⟩
  refine ⟨rfl, ⟨v', g1, g2⟩, g3.mono fun j hj hh => ?_⟩
  rcases hh with rfl | hh
  · exact Nat.le_refl _
  · exact (own_ge h2 hh).1
theorem nextR_snoc (l : List Rn) (r : Rn) : nextR (l ++ [r]) = r.a + r.n := by simp [nextR]
theorem nextR_layR (l : List Rn) (e k : Nat) : nextR (layR l e k) = max (nextR l) e := by
  unfold layR
  split
  · rw [nextR_snoc]
    show nextR l + (e - nextR l) = _
    omega
  · omega
theorem layR_length (l : List Rn) (e k : Nat) : (layR l e k).length ≤ l.length + 1 := by
  unfold layR
  split <;> simp
/-- An arena's parts. -/
def runsC (s n : Nat) : List Rn := layR (layR (layR (layR (layR (layR [] 8 1) 128 2) (slotsC s) 3) (slotsC s + n * 4) 4) (baseC s n) 8) (sizeC s n) 7
theorem heldK {B : Nat} {w W W2 : World} {p q : Addr} {u v : Value} (h : Kept (fun j => B ≤ j) w W ∧ W.cell? p = some u ∧ W.cell? q = some v) (k : Below W.heap.size W W2) : Kept (fun j => B ≤ j) w W2 ∧ W2.cell? p = some u ∧ W2.cell? q = some v :=
  ⟨h.1.trans (Kept.below k _), (k.cell (lt_of_cell h.2.1)).trans h.2.1, (k.cell (lt_of_cell h.2.2)).trans h.2.2⟩
theorem heldL {B b : Nat} {w W W2 : World} {i j : Nat} {u v : Value} (hb : b < B) (h : Kept (fun j => B ≤ j) w W ∧ W.cell? ⟨b, i, none⟩ = some u ∧ W.cell? ⟨b, j, none⟩ = some v) (k : Kept (fun j => B ≤ j) W W2) : Kept (fun j => B ≤ j) w W2 ∧ W2.cell? ⟨b, i, none⟩ = some u ∧ W2.cell? ⟨b, j, none⟩ = some v :=
  ⟨h.1.trans k, k.cell h.2.1 (by simp; omega), k.cell h.2.2 (by simp; omega)⟩

set_option maxHeartbeats 6400000 in
theorem runs_any (s n : Nat) (w : World) (hs : Sz w) (ok : okC s n = true) : Calls Tryz.prog 150 #[.agg #[.int .i64 (s : Int), .int .i64 (n : Int)]] w fun e w' => ∃ v, e = .returned v ∧ RunsOwn w.heap.size w' v (runsC s n) ∧ Below w.heap.size w w' := by
  obtain ⟨w0, hw0, hb0, x0, x1⟩ := cfg_box s n w
  have hk := okC_iff.1 ok
  have HR := Lib.hid (right_any s n w0 (hs.below hb0) (by omega) (by omega))
  have HB0 := Lib.hid hb0
  have HS := Lib.hid hs
  have HOK := Lib.hid ok
  have hn : n ≤ 8192 := hk.2.2.2.2
  have hs64 : s ≤ 64 := hk.2.1
  have hsz := sizeC_le ok
  obtain ⟨z, hz⟩ : ∃ z, z = slotsC s := ⟨_, rfl⟩
  have hz2 : z ≤ 2000 := by rw [hz, slotsC]; omega
  have HZ := Lib.hid hz
  have hsl := fun W => slots_any s n W (by omega)
  rw [← hz] at hsl
  have HSL := Lib.hid hsl
  have hbz : baseC s n ≤ 200000 := by omega
  have hsz2 : sizeC s n ≤ 200000 := hsz.1
  have HB := Lib.hid hbz
  have HSZ := Lib.hid hsz2
  rw [ok] at HR
  clear hb0 hs hsl ok hk hz hsz hbz hsz2
  go_enter Tryz.func150, Tryz.ntmps150
  go_upto_region 1 with fail
  rw [← hw0]
  clear hw0
  go_wp2_with fail
  refine HR.out.mono ?_
  rintro e w1 ⟨rfl, hb1⟩
  have y0 := cell_on x0 hb1
  have y1 := cell_on x1 hb1
  have HB1 := Lib.hid (below_chain HB0.out hb1)
  obtain ⟨lb, hlb⟩ : ∃ lb, lb = w1.heap.size := ⟨_, rfl⟩
  have hlt : w.heap.size < lb := by rw [hlb]; exact lt_of_cell y0
  obtain ⟨w2, hw2⟩ : ∃ w2, w2 = w1.alloc (.cells #[.slice none 0 0] 67) := ⟨_, rfl⟩
  have hb2 : Below w1.heap.size w1 w2 := by rw [hw2]; exact (Below.refl _ _).alloc (Nat.le_refl _) _
  have hl2 : LayAt lb [] w2 := by
    refine ⟨.slice none 0 0, ?_, RunsOwn.nil _ _⟩
    rw [hw2, hlb]
    exact Whole.new _ _ _
  have HL2 := Lib.hid (layB_ok lb 8 1 [] w2 hl2 (by omega) (by omega) (by simp) (by simp [nextR]))
  have HB2 := Lib.hid (below_chain HB1.out hb2)
  have z0 := cell_on y0 hb2
  have z1 := cell_on y1 hb2
  have HZ0 := Lib.hid z0
  have HZ1 := Lib.hid z1
  have HLB := Lib.hid hlb
  have HLT := Lib.hid hlt
  rw [hw2] at HL2
  have HW2 := Lib.hid hw2
  rw [hlb] at HL2
  clear x0 x1 hb1 y0 y1 hb2 hl2 z0 z1 hlb hlt hw2
  go_wp2_with fail
  refine HL2.out.mono ?_
  rintro e w3 ⟨rfl, hl3, hk3⟩
  rw [← HW2.out, ← HLB.out] at hk3
  rw [← HLB.out] at hl3
  rw [← HLB.out]
  obtain ⟨l3, hl3e⟩ : ∃ l3, l3 = layR [] 8 1 := ⟨_, rfl⟩
  have NX3 : Hid (nextR l3 = 8 ∧ l3.length ≤ 1) := Lib.hid (by rw [hl3e]; exact ⟨rfl, by decide⟩)
  rw [← hl3e] at hl3
  have HL4 := Lib.hid (layB_ok lb 128 2 l3 w3 hl3 (by omega) (by omega) (by have := NX3.out; omega) (by have := NX3.out; omega))
  have HK3 := Lib.hid (heldL (b := w.heap.size) HLT.out ⟨Kept.refl _ _, HZ0.out, HZ1.out⟩ hk3)
  have E3 := Lib.hid hl3e
  clear hl3 hk3 hl3e HL2
  go_wp2_with fail
  refine HL4.out.mono ?_
  rintro e w4 ⟨rfl, hl4, hk4⟩
  obtain ⟨l4, hl4e⟩ : ∃ l4, l4 = layR l3 128 2 := ⟨_, rfl⟩
  have NX4 : Hid (nextR l4 = 128 ∧ l4.length ≤ 2) := Lib.hid (by
    have h1 := layR_length l3 128 2
    have h2 := nextR_layR l3 128 2
    have h3 := NX3.out
    rw [hl4e]
    omega)
  rw [← hl4e] at hl4
  have hh4 := heldL (b := w.heap.size) HLT.out HK3.out hk4
  have HK4 := Lib.hid hh4
  have y0 := hh4.2.1
  have y1 := hh4.2.2
  have E4 := Lib.hid hl4e
  have HA4 := Lib.hid hl4
  clear hl4 hk4 hl4e HL4 hh4
  go_wp2_with fail
  refine (HSL.out _).mono ?_
  rintro e w5 ⟨rfl, hb5⟩
  have hl5 := HA4.out.below hb5
  have hh5 := heldK HK4.out hb5
  have HK5 := Lib.hid hh5
  have HL6 := Lib.hid (layB_ok lb z 3 l4 w5 hl5 (by omega) (by omega) (by have := NX4.out; omega) (by have := NX4.out; omega))
  clear y0 y1 hb5 hl5 hh5
  go_wp2_with fail
  refine HL6.out.mono ?_
  rintro e w6 ⟨rfl, hl6, hk6⟩
  obtain ⟨l6, hl6e⟩ : ∃ l6, l6 = layR l4 z 3 := ⟨_, rfl⟩
  have NX6 : Hid (nextR l6 ≤ 2000 ∧ l6.length ≤ 3) := Lib.hid (by
    have h1 := layR_length l4 z 3
    have h2 := nextR_layR l4 z 3
    have h3 := NX4.out
    rw [hl6e]
    omega)
  rw [← hl6e] at hl6
  have hh6 := heldL (b := w.heap.size) HLT.out HK5.out hk6
  have HK6 := Lib.hid hh6
  have y0 := hh6.2.1
  have y1 := hh6.2.2
  have E6 := Lib.hid hl6e
  have HA6 := Lib.hid hl6
  have hlay7 := fun W (h : Below w6.drew.heap.size w6.drew W) => layB_ok lb (z + n * 4) 4 l6 W (hl6.below (below_chain (Below.refl _ w6).drew h)) (by omega) (by omega) (by have := NX6.out; omega) (by have := NX6.out; omega)
  rw [show ((z + n * 4 : Nat) : Int) = (z : Int) + (n : Int) * 4 by omega, show ((4 : Nat) : Int) = 4 from rfl] at hlay7
  have HL7 := Lib.hid hlay7
  clear hl6 hk6 hl6e HL6 hh6 hlay7
  have hw1 : IntKind.i64.wrap ((n : Int) * 4) = (n : Int) * 4 := IntWalk.i64_in _ (by omega)
  have hw2 : IntKind.i64.wrap ((z : Int) + (n : Int) * 4) = (z : Int) + (n : Int) * 4 := IntWalk.i64_in _ (by omega)
  go_wp2_with fail
  have hs0 : Kept (fun j => lb ≤ j) w6 w6.drew ∧ w6.drew.cell? ⟨w.heap.size, 0, none⟩ = some (.int .i64 (s : Int)) ∧ w6.drew.cell? ⟨w.heap.size, 1, none⟩ = some (.int .i64 (n : Int)) := ⟨(Kept.refl _ _).drew, y0, y1⟩
  have hlt := HLT.out
  go_region_held3 (fun w' => Kept (fun j => lb ≤ j) w6 w' ∧ w'.cell? ⟨w.heap.size, 0, none⟩ = some (.int .i64 (s : Int)) ∧ w'.cell? ⟨w.heap.size, 1, none⟩ = some (.int .i64 (n : Int)))
    (first | exact hs0 | assumption | exact heldK (by assumption) (by assumption) | exact heldL hlt (by assumption) (by assumption))
    (first
      | ((go_at_call 161; with_reducible refine (HSL.out _).mono ?_); rintro e w7 ⟨rfl, hb7⟩)
      | ((go_at_call 211; with_reducible refine (HL7.out _ (by assumption)).mono ?_); rintro e w8 ⟨rfl, hl8, hk8⟩))
  obtain ⟨l8, hl8e⟩ : ∃ l8, l8 = layR l6 (z + n * 4) 4 := ⟨_, rfl⟩
  have NX8 : Hid (nextR l8 ≤ 200000 ∧ l8.length ≤ 4) := Lib.hid (by
    have h1 := layR_length l6 (z + n * 4) 4
    have h2 := nextR_layR l6 (z + n * 4) 4
    have h3 := NX6.out
    rw [hl8e]
    omega)
  rw [← hl8e] at hl8
  have hh8 : Kept (fun j => lb ≤ j) w6 w8 ∧ w8.cell? ⟨w.heap.size, 0, none⟩ = some (.int .i64 (s : Int)) ∧ w8.cell? ⟨w.heap.size, 1, none⟩ = some (.int .i64 (n : Int)) := by assumption
  have hh8' : Kept (fun j => lb ≤ j) w2 w8 ∧ w8.cell? ⟨w.heap.size, 0, none⟩ = some (.int .i64 (s : Int)) ∧ w8.cell? ⟨w.heap.size, 1, none⟩ = some (.int .i64 (n : Int)) := ⟨HK6.out.1.trans hh8.1, hh8.2⟩
  have hbel : ∀ {W : World}, Kept (fun j => lb ≤ j) w2 W → Below w.heap.size w W := fun {W} h => HB2.out.trans (h.to_below HB2.out.size fun k hk hj => by have := HLT.out; omega)
  have HBEL : Hid (∀ W : World, Kept (fun j => lb ≤ j) w2 W → Below w.heap.size w W) := Lib.hid (fun W h => hbel h)
  have HK8 := Lib.hid hh8'
  have v0 := hh8'.2.1
  have v1 := hh8'.2.2
  have E8 := Lib.hid hl8e
  have HA8 := Lib.hid hl8
  have HBA := Lib.hid (base_any s n w8 (HS.out.below (hbel hh8'.1)) HOK.out)
  clear hl8 hk8 hl8e hh8 hh8' hbel hs0 hb7 hlt hw1 hw2 y0 y1 HL7
  go_wp2_with fail
  refine HBA.out.mono ?_
  rintro e w9 ⟨rfl, hb9⟩
  obtain ⟨bc, hbc⟩ : ∃ bc, bc = baseC s n := ⟨_, rfl⟩
  have hbc2 : bc ≤ 200000 := by rw [hbc]; exact HB.out
  rw [← hbc]
  have hl9 := HA8.out.below hb9
  have hh9 := heldK HK8.out hb9
  have HK9 := Lib.hid hh9
  have HL10 := Lib.hid (layB_ok lb bc 8 l8 w9 hl9 (by omega) (by omega) (by have := NX8.out; omega) (by have := NX8.out; omega))
  have EBC := Lib.hid hbc
  clear v0 v1 hb9 hl9 hh9 hbc HBA
  go_wp2_with fail
  refine HL10.out.mono ?_
  rintro e w10 ⟨rfl, hl10, hk10⟩
  obtain ⟨l10, hl10e⟩ : ∃ l10, l10 = layR l8 bc 8 := ⟨_, rfl⟩
  have NX10 : Hid (nextR l10 ≤ 200000 ∧ l10.length ≤ 5) := Lib.hid (by
    have h1 := layR_length l8 bc 8
    have h2 := nextR_layR l8 bc 8
    have h3 := NX8.out
    rw [hl10e]
    omega)
  rw [← hl10e] at hl10
  have hh10 := heldL (b := w.heap.size) HLT.out HK9.out hk10
  have HK10 := Lib.hid hh10
  have v0 := hh10.2.1
  have v1 := hh10.2.2
  have E10 := Lib.hid hl10e
  have HA10 := Lib.hid hl10
  have HSI := Lib.hid (size_any s n w10 (HS.out.below (HBEL.out _ hh10.1)) HOK.out)
  clear hl10 hk10 hl10e hh10 HL10
  go_wp2_with fail
  refine HSI.out.mono ?_
  rintro e w11 ⟨rfl, hb11⟩
  obtain ⟨sc, hsc⟩ : ∃ sc, sc = sizeC s n := ⟨_, rfl⟩
  have hsc2 : sc ≤ 200000 := by rw [hsc]; exact HSZ.out
  rw [← hsc]
  have hl11 := HA10.out.below hb11
  have hh11 := heldK HK10.out hb11
  have HK11 := Lib.hid hh11
  have HL12 := Lib.hid (layB_ok lb sc 7 l10 w11 hl11 (by omega) (by omega) (by have := NX10.out; omega) (by have := NX10.out; omega))
  have ESC := Lib.hid hsc
  clear v0 v1 hb11 hl11 hh11 hsc HSI
  go_wp2_with fail
  refine HL12.out.mono ?_
  rintro e w12 ⟨rfl, ⟨v, hv1, hv2⟩, hk12⟩
  have hh12 := heldL (b := w.heap.size) HLT.out HK11.out hk12
  have c0 : w12.cell? ⟨lb, 0, none⟩ = some v := hv1.cell 0
  have HV2 := Lib.hid hv2
  have HBF := Lib.hid (HBEL.out _ hh12.1)
  obtain ⟨A, c, hv⟩ := own_slice hv2
  have HVE := Lib.hid hv
  rw [hv] at c0
  have HWL : Hid (w.heap.size ≤ lb) := Lib.hid (Nat.le_of_lt HLT.out)
  clear hv1 hv2 hk12 hh12 HL12 hv
  go_wp2_with fail
  go_ret
  have h := HV2.out
  rw [HVE.out] at h
  have h2 := own_base h HWL.out
  have e : runsC s n = layR l10 sc 7 := by
    rw [E10.out, E8.out, E6.out, E4.out, E3.out, EBC.out, ESC.out, HZ.out]
    rfl
  rw [e]
  exact ⟨_, rfl, h2, HBF.out⟩
end Go.Proofs.YtoafmlegamjlpaaGreatDoor
