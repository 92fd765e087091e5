/-
  The walks of a watch's Runs, and a memory's. No condition but what lies there.
  The walk of a watch's Runs, and a memory's. No condition but what lies there.
  The walks of a memory's Runs, and of slices.Equal over equal rows of runs, and of numbers. No condition but what lies there.
-/
import Derived.Test.YtoafmlegamjlpaaGreatDoorKM
set_option linter.unusedVariables false
set_option linter.unusedSimpArgs false
namespace Go.Proofs.YtoafmlegamjlpaaGreatDoor
open Go.RowKit Go.Colm Go.Cap Go.Maps Go.Shelf
set_option linter.unusedVariables false
set_option linter.unusedSimpArgs false
attribute [local go_sem] Oper.semAt_some
theorem each_stops (n : Nat) (hn : 1 ≤ n) (Bs wb kb kc N : Nat) (t : Tr) (hN : N < 1000000) (w : World) (hK : KE Bs wb kb kc N t w) :
    SeqStopsK Fence.wide n Tryz.prog 302 #[.pointer (some ⟨Bs, 0, none⟩)] (fun x : PlaceN (allK t N).length => #[runA (allK t N) x]) (keepE Bs wb kb kc N t) (fun xs => xs.map (·.1) = List.range (allK t N).length) (fun pre => ∃ k, k ≤ (allK t N).length ∧ pre.map (·.1) = List.range k) (allK t N).length w :=
  fun l J Jx W hW hJ _ hY h0 => each1_in n hn l Bs wb kb kc N t hN W.heap.size J Jx hJ hY W ⟨(hW.cell (lt_of_cell hK.1)).trans hK.1, hK.2.kept (Kept.below hW fun _ => False) id id⟩ h0
theorem keepE_t {Bs wb kb kc N : Nat} {t : Tr} {A B C : World} (h : keepE Bs wb kb kc N t A B) (k : keepE Bs wb kb kc N t B C) : keepE Bs wb kb kc N t A C := fun x => k (h x)
theorem keepE_b {Bs wb kb kc N : Nat} {t : Tr} (W : World) (l : Nat) (o o' : Obj) (hl : W.heap[l]? = some o) (ho : o.isCells = false) : keepE Bs wb kb kc N t W (W.putObj l o') := by
  rintro ⟨h1, ⟨c, h2⟩, ⟨cs, h3, h4⟩, h5⟩
  have hne : ∀ {b : Nat} {v : Value}, W.cell? ⟨b, 0, none⟩ = some v → b ≠ l := fun {b v} hv e => by
    subst e
    simp only [World.cell?, hl] at hv
    cases o <;> simp [Obj.isCells] at ho hv
  have hwh : ∀ {b : Nat} {T : TypeId} {xs : Array Value}, Whole W b T xs → Whole (W.putObj l o') b T xs := fun {b T xs} hw => by
    have hb : b ≠ l := fun e => by
      subst e
      unfold Whole at hw
      rw [hl] at hw
      cases hw
      cases ho
    exact (World.putObj_heap_other hb).trans hw
  refine ⟨?_, ⟨c, hwh h2⟩, ⟨cs, hwh h3, h4⟩, h5⟩
  rw [World.cell?_of_block (w := W) (World.putObj_heap_other (hne h1))]
  exact h1
set_option maxHeartbeats 800000 in
theorem each_in (n wb : Nat) (w : World) :
    CallsIn Fence.wide n Tryz.prog 293 #[.pointer (some ⟨wb, 0, none⟩)] w fun e w' => e = .returned (.func (.func 302) #[] #[.pointer (some ⟨w.heap.size, 0, none⟩)]) ∧ w' = w.alloc (.cells #[.pointer (some ⟨wb, 0, none⟩)] 76) := by
  have hmf : ∀ (fn : Fn) (first cap : Array Value) (w : World), (Instr.makeFunc fn first cap).run Tryz.prog w = .ok (.func fn first cap) w := fun _ _ _ _ => rfl
  refine callsIn_of_wp Tryz.func293 rfl trivial ?_ rfl
  simp only [Tryz.ntmps293, List.size_toArray, List.length_cons, List.length_nil, Nat.reduceAdd, Nat.reduceSub, Array.replicate_succ, Array.replicate_zero, List.push_toArray, List.append_toArray, List.nil_append, List.cons_append]
  gi_wp2
  refine bodyPost_ret (results_tmp rfl _ _ _) rfl ?_
  exact ⟨rfl, rfl⟩
/-- The runs that have come. -/
def gotR (R : List Rn) (pre : List (PlaceN R.length)) : List Rn := pre.map fun x => R[x.1]'x.2
theorem gotR_snoc (R : List Rn) (pre : List (PlaceN R.length)) (x : PlaceN R.length) : gotR R (pre ++ [x]) = gotR R pre ++ [R[x.1]'x.2] := by simp [gotR]
theorem gotR_all {R : List Rn} {xs : List (PlaceN R.length)} (h : xs.map (·.1) = List.range R.length) : gotR R xs = R := by
  have hl : xs.length = R.length := by
    have := congrArg List.length h
    simpa using this
  apply List.ext_getElem
  · simp [gotR, hl]
  · intro i h1 h2
    have hi : i < xs.length := by rw [hl]; exact h2
    have := congrArg (·[i]?) h
    simp only [List.getElem?_map, List.getElem?_eq_getElem hi, Option.map_some, List.getElem?_range h2, Option.some.injEq] at this
    simp only [gotR, List.getElem_map]
    congr 1
/-- Between two rounds: what the box holds. -/
def RunAt (R : List Rn) (w0 : World) (pre : List (PlaceN R.length)) (W : World) : Prop :=
  ∃ v, Boxed W w0.heap.size 67 v ∧ RunsOwn (w0.heap.size + 2) W v (gotR R pre) ∧ Below w0.heap.size w0 W ∧ w0.heap.size + 2 ≤ W.heap.size
theorem own_grown2 {W W' : World} {row : Option Nat} {base : Nat} {e : TypeId} {size : Nat} {v : Value} {k : Nat} {xs : List Value} (h : W.ownsRow base e size v k xs) (hg : W.grownBy W' row)
    (hr : ∀ r, row = some r → ∃ o : Obj, W.heap[r]? = some o ∧ o.isCells = false) : W'.ownsRow base e size v k xs := by
  refine h.kept hg ?_
  rcases h.2 with ⟨rfl, _⟩ | ⟨g, cap, cur, rfl, _, hh, _⟩
  · exact .inl rfl
  · refine .inr fun e' => ?_
    obtain ⟨o, ho, hc⟩ := hr g (by simpa [Value.ownBlock] using e'.symm)
    rw [hh] at ho
    cases ho
    cases hc
theorem runAt_own (R : List Rn) (w0 : World) (B : Nat) (hB : w0.heap.size ≤ B) : OwnFrom B (RunAt R w0) := by
  rintro s W W' row ⟨v, hb, hown, hbel, hsz⟩ hg hr
  have hr2 : ∀ r, row = some r → ∃ o : Obj, W.heap[r]? = some o ∧ o.isCells = false := fun r e => (hr r e).2
  refine ⟨v, hb.kept hg (fun e => ?_), own_grown2 hown hg hr2, hbel.grown hg hbel.size fun k e => Nat.le_trans hB (hr k e).1, Nat.le_trans hsz hg.size⟩
  obtain ⟨o, ho, hc⟩ := hr2 _ e.symm
  unfold Boxed at hb
  rw [hb] at ho
  cases ho
  cases hc
/-- The loop's variable, in a box of its own. -/
def AxR (R : List Rn) (w0 : World) (fr : PlaceN R.length → Nat → Act) (x : PlaceN R.length) (a : Act) (W : World) : Prop :=
  ∃ b, a = fr x b ∧ w0.heap.size + 2 ≤ b ∧ Whole W b 101 #[.int .i64 ((R[x.1]'x.2).a : Int), .int .i64 ((R[x.1]'x.2).n : Int), .int .i64 ((R[x.1]'x.2).k : Int)]
theorem axR_own (R : List Rn) (w0 : World) (fr : PlaceN R.length → Nat → Act) (B : Nat) (x : PlaceN R.length) (a : Act) : OwnFrom B (fun (_ : Unit) W => AxR R w0 fr x a W) := by
  rintro s W W' row ⟨b, h1, h2, h3⟩ hg hr
  refine ⟨b, h1, h2, (hg.block b h3.lt fun e => ?_).trans h3⟩
  obtain ⟨_, o, ho, hc⟩ := hr b e.symm
  unfold Whole at h3
  rw [h3] at ho
  cases ho
  cases hc
end Go.Proofs.YtoafmlegamjlpaaGreatDoor
namespace Go.Proofs.YtoafmlegamjlpaaGreatDoor
open Go.RowKit Go.Colm Go.Cap Go.Maps Go.Shelf
set_option linter.unusedVariables false
set_option linter.unusedSimpArgs false
attribute [local go_sem] Oper.semAt_some
/-- One run more. -/
theorem runAt_more {R : List Rn} {w0 : World} {pre : List (PlaceN R.length)} {x : PlaceN R.length} {W w4 : World} {v v' : Value} {tmp : Obj} {wb kb kc N : Nat} {t : Tr} {m : Nat} (hbel : Below w0.heap.size w0 W) (hsz : w0.heap.size + 2 ≤ W.heap.size)
    (hb : Boxed W w0.heap.size 67 v) (hown : RunsOwn (w0.heap.size + 2) W v (gotR R pre)) (hg : (W.alloc tmp).grownBy w4 v.ownBlock)
    (hown4 : w4.ownsRow (w0.heap.size + 2) 101 3 v' m (runsV (gotR R pre) ++ runV (R[x.1]'x.2))) (hm : m = (gotR R pre).length + 1) :
    (w4.cell? ⟨w0.heap.size, 0, none⟩ = some v ∧ w4.frozen? ⟨w0.heap.size, 0, none⟩ = false) ∧ KeepsOthers W (w4.setCell ⟨w0.heap.size, 0, none⟩ v') ∧ keepE (w0.heap.size + 1) wb kb kc N t W (w4.setCell ⟨w0.heap.size, 0, none⟩ v') ∧ RunAt R w0 (pre ++ [x]) (w4.setCell ⟨w0.heap.size, 0, none⟩ v') := by
  have hbx : Whole W w0.heap.size 67 #[v] := hb
  have k3 : Kept (fun _ => False) W (W.alloc tmp) := (Kept.refl _ _).alloc _
  have k4 : Kept (fun k => v.ownBlock = some k) W w4 := (k3.mono fun _ _ h => h.elim).trans (Kept.grown hg)
  have hbx4 : Whole w4 w0.heap.size 67 #[v] := k4.whole hbx (hown.far hbx (by decide))
  have k5 : Kept (fun k => v.ownBlock = some k ∨ k = w0.heap.size) W (w4.setCell ⟨w0.heap.size, 0, none⟩ v') := (k4.mono fun _ _ h => .inl h).setCell (.inl (.inr rfl)) _
  have hvb : ∀ j, v.ownBlock = some j → w0.heap.size + 2 ≤ j := fun j hj => (own_ge hown hj).1
  have hcel : ∀ j, v.ownBlock = some j → ∃ cs fz, W.heap[j]? = some (.cells cs 101 fz) := fun j hj => by
    rcases hown.2 with ⟨rfl, _⟩ | ⟨g, cap, cur, rfl, hb, hh, _⟩
    · simp [Value.ownBlock] at hj
    · have e : g = j := by simpa [Value.ownBlock] using hj
      subst e
      exact ⟨_, _, hh⟩
  refine ⟨⟨hbx4.cell 0, hbx4.frozen 0⟩, ⟨k5.size, fun j o ho hc => ?_⟩, ?_, v', hbx4.put 0 v', ?_, ?_, Nat.le_trans hsz k5.size⟩
  · have hlt : j < W.heap.size := (Array.getElem?_eq_some_iff.1 ho).1
    refine (k5.block j hlt ?_).trans ho
    rintro (e | e)
    · obtain ⟨cs, fz, hh⟩ := hcel j e
      rw [hh] at ho
      cases ho
      cases hc
    · subst e
      rw [hbx] at ho
      cases ho
      cases hc
  · rintro ⟨h1, ⟨c, h2⟩, ⟨cs, h3, h4⟩, h5⟩
    have hn : ∀ {b : Nat} {T : TypeId} {xs : Array Value}, Whole W b T xs → T ≠ 101 → T ≠ 67 → ¬ (v.ownBlock = some b ∨ b = w0.heap.size) := fun {b T xs} hw t1 t2 h => by
      rcases h with h | h
      · exact (hown.far hw t1) h
      · exact whole_apart hw hbx t2 h
    refine ⟨k5.cell h1 ?_, ⟨c, k5.whole h2 (hn h2 (by decide) (by decide))⟩, ⟨cs, k5.whole h3 (hn h3 (by decide) (by decide)), h4⟩, h5⟩
    rintro (e | e)
    · have := hvb _ e
      dsimp only at this
      omega
    · dsimp only at e
      omega
  · rw [RunsOwn, gotR_snoc, runsV_snoc, List.length_append]
    rw [hm] at hown4
    exact own_stays hown4 ((Kept.refl (fun k => k = w0.heap.size) w4).setCell (.inl rfl) _) (fun j hj e => by
      have := (own_ge hown4 hj).1
      omega)
  · exact hbel.trans (k5.to_below hbel.size fun j hj => by
      rintro (e | e)
      · have := hvb _ e
        omega
      · omega)
set_option maxRecDepth 100000 in
set_option maxHeartbeats 3200000 in
theorem wruns_in (n : Nat) (hn : 5 ≤ n) (wb kb kc N : Nat) (t : Tr) (hN : N < 1000000) (w : World) (h : WaA wb kb kc N t w) (hR : (allK t N).length < 1000000) :
    CallsIn Fence.wide n Tryz.prog 268 #[.pointer (some ⟨wb, 0, none⟩)] w fun e w' => ∃ v, e = .returned v ∧ RunsOwn w.heap.size w' v (allK t N) ∧ Below w.heap.size w w' := by
  have HNO := Lib.hid (fun m => (callsIn_wide (n := m)).2 (wnone_W h))
  have HW := Lib.hid h
  clear h
  refine callsIn_of_wp_marks Tryz.func268 rfl trivial ?_ rfl
  simp only [Tryz.ntmps268, List.size_toArray, List.length_cons, List.length_nil, Nat.reduceAdd, Nat.reduceSub, Array.replicate_succ, Array.replicate_zero, List.push_toArray, List.append_toArray, List.nil_append, List.cons_append]
  gi_wp2
  refine ⟨trivial, fun _ => by omega, (HNO.out _).mono ?_⟩
  rintro e w1 ⟨rfl, rfl⟩
  gi_wp2
  refine ⟨trivial, fun _ => by omega, (each_in _ _ _).mono ?_⟩
  rintro e w2 ⟨rfl, hw2⟩
  gi_wp2
  clear hw2
  have hke : KE (w1.heap.size + 1) wb kb kc N t ((w1.alloc (.cells #[.slice none 0 0] 67)).alloc (.cells #[.pointer (some ⟨wb, 0, none⟩)] 76)) := by
    refine ⟨?_, HW.out.kept (S := fun _ => False) (((Kept.refl _ w1).alloc _).alloc _) id id⟩
    have h := (Whole.new (w1.alloc (.cells #[.slice none 0 0] 67)) 76 #[.pointer (some ⟨wb, 0, none⟩)]).cell 0
    rw [World.size_alloc] at h
    exact h
  have h0 : RunAt (allK t N) w1 [] ((w1.alloc (.cells #[.slice none 0 0] 67)).alloc (.cells #[.pointer (some ⟨wb, 0, none⟩)] 76)) :=
    ⟨.slice none 0 0, (Boxed.new w1 _ _).alloc _, RunsOwn.nil _ _, ((Below.refl _ w1).alloc (Nat.le_refl _) _).alloc (by simp) _, by simp⟩
  refine wpIn_rangeFunc_ownH rfl (by omega) (gf := 302) (lb := #[.pointer (some ⟨w1.heap.size + 1, 0, none⟩)]) rfl trivial (enters_of Tryz.func302 (by kernel_rfl) rfl)
    (each_stops (n - 1) (by omega) (w1.heap.size + 1) wb kb kc N t hN _ hke) keepE_t (fun W k o o' _ e1 e2 _ => keepE_b W k o o' e1 e2) (Below.refl _ _) (fun _ => rfl)
    (RunAt (allK t N) w1) (fun _ _ _ => False) (runAt_own _ w1 _ (by simp; omega)) (fun _ _ _ _ _ hs _ _ => hs) h0
    (AxR (allK t N) w1 (fun x b => { tmps := #[.pointer (some ⟨wb, 0, none⟩), undef, .slice none 0 0, .pointer (some ⟨w1.heap.size, 0, none⟩), .pointer (some ⟨b, 0, none⟩), .pointer (some ⟨wb, 0, none⟩), .bool false, .pointer (some ⟨wb, 0, none⟩), .func (.func 302) #[] #[.pointer (some ⟨w1.heap.size + 1, 0, none⟩)], runA (allK t N) x, undef, undef, undef, undef, undef], defers := [] }))
    (fun x a' => axR_own _ _ _ _ x a') ?assign ?body ?done ?stop
  case assign =>
    intro k pre x W K hI hK
    obtain ⟨v, hb, hown, hbel, hsz⟩ := hI
    unfold runA at hK ⊢
    gi_wp2
    refine hK _ _ ((KeepsOthers.alloc W _).from _) ?_ ⟨v, hb.alloc _, own_stays hown (S := fun _ => False) ((Kept.refl _ W).alloc _) (fun _ _ => id), hbel.alloc hbel.size _, by simp; omega⟩ ⟨W.heap.size, rfl, hsz, Whole.new W _ _⟩
    rintro ⟨h1, h2⟩
    exact ⟨(World.cell?_alloc_lt W _ _ (lt_of_cell h1)).trans h1, h2.kept (S := fun _ => False) ((Kept.refl _ W).alloc _) id id⟩
  case body =>
    rintro k pre x a' W hk hrec ⟨v, hb, hown, hbel, hsz⟩ ⟨b, rfl, hbb, hwh⟩ hpl
    have hbc := hb.cell
    have hbf := hb.frozen
    have y0 : W.cell? ⟨b, 0, none⟩ = _ := hwh.cell 0
    have y1 : W.cell? ⟨b, 1, none⟩ = _ := hwh.cell 1
    have y2 : W.cell? ⟨b, 2, none⟩ = _ := hwh.cell 2
    obtain ⟨r, hr⟩ : ∃ r, r = (allK t N)[x.1]'x.2 := ⟨_, rfl⟩
    have hsn := gotR_snoc (allK t N) pre x
    rw [← hr] at y0 y1 y2 hwh hsn
    simp only [List.getElem?_toArray, List.getElem?_cons_zero, List.getElem?_cons_succ] at y0 y1 y2
    obtain ⟨i0, hi, hz0, hz1, hz2⟩ := info_parts run_info
    have HMORE := Lib.hid (fun (w4 : World) (v' : Value) (tmp : Obj) (m : Nat) (hg : (W.alloc tmp).grownBy w4 v.ownBlock) (h4 : w4.ownsRow (w1.heap.size + 2) 101 3 v' m (runsV (gotR (allK t N) pre) ++ runV r)) (hm : m = (gotR (allK t N) pre).length + 1) => runAt_more (wb := wb) (kb := kb) (kc := kc) (N := N) (t := t) (x := x) hbel hsz hb hown hg (by rw [← hr]; exact h4) hm)
    have hlen : (gotR (allK t N) pre).length < 1000000 := by simp [gotR]; omega
    have hoa : ∀ o : Obj, (W.alloc o).ownsRow (w1.heap.size + 2) 101 3 v (gotR (allK t N) pre).length (runsV (gotR (allK t N) pre)) := fun o => own_stays (S := fun _ => False) hown ((Kept.refl _ W).alloc _) (fun _ _ => id)
    have HOA := Lib.hid hoa
    obtain ⟨rv, hrv⟩ : ∃ rv, rv = runA (allK t N) x := ⟨_, rfl⟩
    obtain ⟨ra, rn, rk⟩ := r
    dsimp only at y0 y1 y2
    have HRV : Hid (∀ j u, (runV ⟨ra, rn, rk⟩)[j]? = some u → (W.alloc (.cells #[.int .i64 (ra : Int), .int .i64 (rn : Int), .int .i64 (rk : Int)] 101)).cell? ((⟨W.heap.size, 0, none⟩ : Addr).add j) = some u) := Lib.hid (fun j u hj => by
      rw [Addr.add_lit, Nat.zero_add, (Whole.new W 101 #[.int .i64 (ra : Int), .int .i64 (rn : Int), .int .i64 (rk : Int)]).cell]
      simpa [runV] using hj)
    have HSZ : Hid (∀ o : Obj, w1.heap.size + 2 ≤ (W.alloc o).heap.size) := Lib.hid (fun o => by simp; omega)
    have HLE := Lib.hid hlen
    dsimp only
    rw [← hrv]
    clear hr hsn hrv hoa hb hown hwh hlen
    gi_wp2_with (gi_at_builtin; refine wpListIn_append_own _ rfl _ _ 67 rfl (w1.heap.size + 2) 101 i0 (.agg #[.int .i64 0, .int .i64 0, .int .i64 0]) 3 24 Tryz.underlying67 hi hz0 hz1 hz2 rfl (by decide) v (gotR (allK t N) pre).length (runsV (gotR (allK t N) pre)) rfl (HOA.out _) ⟨W.heap.size, 0, none⟩ 1 1 (runV ⟨ra, rn, rk⟩) rfl rfl HRV.out (fun u hu => by simp [runV] at hu; rcases hu with rfl | rfl | rfl <;> rfl) (by have := HLE.out; unfold maxLen; omega) (by have := HLE.out; omega) (HSZ.out _) ?_; intro v' w4 hown4 hg4 _; obtain ⟨⟨z0, f0⟩, hfin⟩ := HMORE.out w4 v' _ _ hg4 hown4 rfl; obtain ⟨A4, c4, hv4⟩ := own_slice hown4; have HFIN := Lib.hid hfin; obtain ⟨l4, hl4⟩ : ∃ l4, l4 = (gotR (allK t N) pre).length + 1 := ⟨_, rfl⟩; rw [← hl4] at hv4; subst hv4; clear hfin hown4 hg4 hl4)
    exact ⟨HFIN.out.1.from _, HFIN.out.2⟩
  case done =>
    rintro D ys W hD hS ⟨v, hb, hown, hbel, hsz⟩ hK
    have hbc := hb.cell
    rw [gotR_all hS] at hown
    have hsz' : w1.heap.size ≤ D := by
      simp at hD
      omega
    obtain ⟨A3, c3, hv3⟩ := hown.slice
    subst hv3
    have hbD : Below w1.heap.size w1 (W.putObj D (.deferred none)) := hbel.trans (belowK_b (w := w1) (Nat.le_refl _) W D _ _ hsz' hK rfl rfl)
    have HOD : Hid (RunsOwn w1.heap.size (W.putObj D (.deferred none)) (.slice A3 (allK t N).length c3) (allK t N) ∧ Below w1.heap.size w1 (W.putObj D (.deferred none))) := Lib.hid ⟨ownsRow_putObj (own_base hown (show w1.heap.size ≤ w1.heap.size + 2 by omega)) _ hK rfl, hbD⟩
    clear hbD hown hbel
    gi_wp2
    refine ⟨by simp, .inl ⟨_, _, rfl, run_takeDeferred hK, ?_⟩⟩
    exact ⟨_, (results_tmp (t := 2) rfl _ _ _).trans rfl, _, rfl, HOD.out⟩
  case stop =>
    rintro D c pre W _ _ h _
    exact h.elim
theorem wruns_ok {wb kb kc N : Nat} {t : Tr} {w : World} (hN : N < 1000000) (h : WaA wb kb kc N t w) (hR : (allK t N).length < 1000000) :
    Calls Tryz.prog 268 #[.pointer (some ⟨wb, 0, none⟩)] w fun e w' => ∃ v, e = .returned v ∧ RunsOwn w.heap.size w' v (allK t N) ∧ Below w.heap.size w w' :=
  (callsIn_wide (n := 5)).1 (wruns_in 5 (Nat.le_refl _) wb kb kc N t hN w h hR)
end Go.Proofs.YtoafmlegamjlpaaGreatDoor
namespace Go.Proofs.YtoafmlegamjlpaaGreatDoor
open Go.RowKit Go.Colm Go.Cap Go.Maps
set_option linter.unusedVariables false
set_option linter.unusedSimpArgs false
section
variable {Λ : MLay} {μ : Mm} {w : World}
set_option maxHeartbeats 1600000 in
theorem cruns_ok {wb kb kc N : Nat} {t : Tr} (hN : N < 1000000) (h : WaA wb kb kc N t w) (hR : (allK t N).length < 1000000) :
    Calls Tryz.prog 229 #[.agg #[.pointer (some ⟨wb, 0, none⟩)]] w fun e w' => ∃ v, e = .returned v ∧ RunsOwn w.heap.size w' v (allK t N) ∧ Below w.heap.size w w' := by
  obtain ⟨w0, hw0⟩ : ∃ w0, w0 = w.alloc (.cells #[.pointer (some ⟨wb, 0, none⟩)] 78) := ⟨_, rfl⟩
  have hb0 : Below w.heap.size w w0 := by rw [hw0]; exact (Below.refl _ w).alloc (Nat.le_refl _) _
  have x0 : w0.cell? ⟨w.heap.size, 0, none⟩ = some (.pointer (some ⟨wb, 0, none⟩)) := by rw [hw0]; exact (Whole.new w _ _).cell 0
  have HR := Lib.hid (wruns_ok hN (h.kept (Kept.below hb0 fun _ => False) id id) hR)
  have HB0 := Lib.hid hb0
  clear h hb0 hR
  go_enter Tryz.func229, Tryz.ntmps229
  go_upto_region 1 with fail
  rw [← hw0]
  clear hw0
  go_wp2_with fail
  refine HR.out.mono ?_
  rintro e w1 ⟨v, rfl, hv, hb1⟩
  go_wp2_with fail
  go_ret
  exact ⟨v, rfl, own_base hv HB0.out.size, below_chain HB0.out hb1⟩
set_option maxHeartbeats 1600000 in
theorem mruns_ok (h : HasM Λ μ w) (hR : (allK μ.k (μ.size / 4)).length < 1000000) :
    Calls Tryz.prog 172 #[.pointer (some ⟨Λ.mb, 0, none⟩)] w fun e w' => ∃ v, e = .returned v ∧ RunsOwn w.heap.size w' v (allK μ.k (μ.size / 4)) ∧ Below w.heap.size w w' := by
  have HN := Lib.hid (mnone_any h)
  have hz : μ.size / 4 < 1000000 := by
    have := (sizeC_le h.ok).1
    have e : μ.size = sizeC μ.slabs μ.slots := rfl
    omega
  have HR := Lib.hid (cruns_ok hz h.wa hR)
  obtain ⟨c0, c1, _, _⟩ := h.mc
  clear h hz hR
  go_enter Tryz.func172, Tryz.ntmps172
  go_wp2_with fail
  refine HN.out.mono ?_
  rintro e w1 ⟨rfl, rfl⟩
  go_wp2_with fail
  refine HR.out.mono ?_
  rintro e w2 ⟨v, rfl, hv, hb⟩
  go_wp2_with fail
  go_ret
  exact ⟨v, rfl, hv, hb⟩
end
set_option maxRecDepth 100000 in
set_option maxHeartbeats 3200000 in
theorem eqruns_ok (l : List Rn) (G G' L c c' : Nat) (w : World) (hl : L = l.length) (hc : L ≤ c) (hc' : L ≤ c') (hm : L < 1000000)
    (h : ∀ i v, (runsV l)[i]? = some v → w.cell? ⟨G, i, none⟩ = some v) (h' : ∀ i v, (runsV l)[i]? = some v → w.cell? ⟨G', i, none⟩ = some v) :
    Calls Tryz.prog 171 #[.slice (some ⟨G, 0, none⟩) L c, .slice (some ⟨G', 0, none⟩) L c'] w fun e w' => e = .returned (.bool true) ∧ Below w.heap.size w w' := by
  have H := Lib.hid h
  have H' := Lib.hid h'
  have HL := Lib.hid hl
  have HB0 := Lib.hid (Below.refl w.heap.size w)
  clear h h' hl
  go_enter Tryz.func171, Tryz.ntmps171
  go_wp2_with fail
  go_loopw [4, 13] (fun _ s13 wr => ∃ i : Nat, i ≤ L ∧ s13 = .int .i64 i ∧ Hid (Below w.heap.size w wr)) (fun _ s13 _ => match s13 with | .int _ m => L - m.toNat | _ => 0)
  case atStart => exact ⟨0, Nat.zero_le _, rfl, HB0⟩
  case round =>
    obtain ⟨i, hi, rfl, HG⟩ := hrel
    by_cases hlt : i < L
    · have hlt2 : i < l.length := by have := HL.out; omega
      obtain ⟨g0, g1, g2⟩ := runsV_get l i hlt2
      have d0 := cell_on (H.out _ _ g0) HG.out
      have d1 := cell_on (H.out _ _ g1) HG.out
      have d2 := cell_on (H.out _ _ g2) HG.out
      have q0 := cell_on (H'.out _ _ g0) HG.out
      have q1 := cell_on (H'.out _ _ g1) HG.out
      have q2 := cell_on (H'.out _ _ g2) HG.out
      obtain ⟨r, hr⟩ : ∃ r, r = l[i] := ⟨_, rfl⟩
      rw [← hr] at d0 d1 d2 q0 q1 q2
      obtain ⟨ra, rn, rk⟩ := r
      dsimp only at d0 d1 d2 q0 q1 q2
      clear hr g0 g1 g2
      go_wp2_with fail
      go_quiet (fail)
      clear d0 d1 d2 q0 q1 q2
      go_wp2_with fail
      go_roundw
      case rel => exact ⟨i + 1, hlt, by go_num, Lib.hid (below_drewN HG.out _)⟩
      case measure => simp; omega
    · have hii : i = L := by omega
      go_wp2_with fail
      go_ret
      exact ⟨rfl, HG.out⟩
end Go.Proofs.YtoafmlegamjlpaaGreatDoor
