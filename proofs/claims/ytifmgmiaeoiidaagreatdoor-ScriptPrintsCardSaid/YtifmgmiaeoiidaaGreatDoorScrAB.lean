/-
  The walk of layer script's Parse. Texts of fewer than 2^31 bytes.
-/
import Derived.Test.YtifmgmiaeoiidaaGreatDoorScrAA
namespace Go.Proofs.YtifmgmiaeoiidaaGreatDoor
open Go.RowKit Go.Colm Go.Scrp
set_option linter.unusedVariables false

theorem str_nilP (s : List UInt8) : ((ByteArray.mk s.toArray).toList == []) = decide (s = []) := by
  cases s <;> simp [ByteArray.toList_mk]
theorem read_all (L : List (List UInt8)) : ∀ f, ReadOK L f := fun f => by
  induction f using Nat.strongRecOn with
  | _ f ih => exact read_step ih

/-- What comes of a text. -/
def ParseIt (w : World) (s : List UInt8) (e : Ending) (w' : World) : Prop :=
  ∃ (A : Option Addr) (n c E b : Nat), e = .returned (.tuple #[.slice A n c, .agg #[.int .i64 (E : Int), .int .i64 (b : Int)]]) ∧ Below w.heap.size w w' ∧
    (∀ b', parseL s = .bad b' → E = 50 ∧ b = b' ∧ A = none ∧ n = 0 ∧ c = 0) ∧ (∀ out k, parseL s = .ok out k → E = 0 ∧ b = 0 ∧ n = out.length ∧ (n ≤ c ∧ c ≤ maxLen) ∧ OpdsAt (fun j => w.heap.size ≤ j) w' A 0 out)

theorem parse_bad {s : List UInt8} {ps L : List (List UInt8)} {n b : Nat} (hps : ps = sepL 10 s) (hn : n = ps.length - 1) (hL : L = ps.take n) (hst : stp L (n + 1) 1 0 [] = .bad b) : parseL s = if ps.getD n [] ≠ [] ∧ n < b then .bad (n + 1) else .bad b := by
  unfold parseL
  subst hps hn hL
  simp only [hst]
theorem parse_ok {s : List UInt8} {ps L : List (List UInt8)} {n k : Nat} {out : List Opd} (hps : ps = sepL 10 s) (hn : n = ps.length - 1) (hL : L = ps.take n) (hst : stp L (n + 1) 1 0 [] = .ok out k) : parseL s = if ps.getD n [] ≠ [] then .bad (n + 1) else .ok out k := by
  unfold parseL
  subst hps hn hL
  simp only [hst]

theorem parse_no {w w' : World} {s : List UInt8} {b : Nat} (h : parseL s = .bad b) (hb : Below w.heap.size w w') : ParseIt w s (.returned (.tuple #[.slice none 0 0, .agg #[.int .i64 50, .int .i64 (b : Int)]])) w' :=
  ⟨none, 0, 0, 50, b, rfl, hb, fun b' e => (by rw [h] at e; cases e; exact ⟨rfl, rfl, rfl, rfl, rfl⟩), fun out k e => (by rw [h] at e; cases e)⟩
theorem parse_yes {w W w3 w' : World} {s : List UInt8} {out : List Opd} {k : Nat} {A : Option Addr} {c : Nat} (h : parseL s = .ok out k) (hm : out.length ≤ c ∧ c ≤ maxLen) (ho : OpdsAt (fun j => W.heap.size ≤ j) w3 A 0 out) (hW : w.heap.size < W.heap.size) (hb : Below w.heap.size w w') (hk : Kept (fun j => j = w.heap.size) w3 w') :
    ParseIt w s (.returned (.tuple #[.slice A out.length c, .agg #[.int .i64 0, .int .i64 0]])) w' :=
  ⟨A, out.length, c, 0, 0, rfl, hb, fun b' e => (by rw [h] at e; cases e), fun o k' e => (by
    rw [h] at e
    cases e
    exact ⟨rfl, rfl, rfl, hm, OpdsAt.turn (fun j i u hj hc => ⟨by omega, hk.cell hc (fun e => by have e : j = w.heap.size := e; omega)⟩) A 0 _ ho⟩)⟩
theorem view_far {w3 : World} {g rb : Nat} {T : TypeId} {cs : Array Value} {i : Nat} (h : Whole w3 g T cs) (hne : rb ≠ g) (v : Value) : Whole (w3.setCell ⟨rb, i, none⟩ v) g T cs := ((Kept.refl (fun j => j = rb) w3).setCell (p := ⟨rb, i, none⟩) (.inl rfl) v).whole h (fun e => hne e.symm)
theorem results_tmp_row {P : Program} {fn : Func} {p u : Tmp} {ty : TypeId} (h : fn.results = #[.tmp u, .cell p ty]) (tmps : Array Value) (w : World) (g : Nat) (t : TypeId) (cs : Array Value) (fr : Nat × Nat) (d : TypeDesc)
    (hp : tmps.getD p undef = .pointer (some ⟨g, 0, none⟩)) (hg : w.heap[g]? = some (.cells cs t fr))
    (hu : P.underlying ty = some d) (hd : (match d with | .struct _ | .array _ _ => true | _ => false) = true) (hi : (P.info? ty).map (·.size) = some cs.size) :
    (results fn tmps).run P w = .ok (.tuple #[tmps.getD u undef, .agg cs]) w := by
  have e : (results fn tmps).run P w = ((asAddr (tmps.getD p undef)).run P w).andThen fun a w₁ => ((loadVar ty a).run P w₁).andThen fun v w₂ => .ok (.tuple #[tmps.getD u undef, v]) w₂ := by
    simp only [results, h]
    simp [Sem.run_bind, Result.andThen]
  rw [e, hp]
  simp [asAddr, run_loadVar_row w g t ty cs fr d hg hu hd hi, Result.andThen]

set_option maxRecDepth 100000 in
set_option maxHeartbeats 8000000 in
theorem parse_any (s : List UInt8) (w : World) (E : Env w) (hs : s.length ≤ 2147483647) :
    Calls Tryz.prog 15 #[.string ⟨s.toArray⟩] w (ParseIt w s) := by
  obtain ⟨ps, hps⟩ : ∃ ps, ps = sepL 10 s := ⟨_, rfl⟩
  obtain ⟨n, hn⟩ : ∃ n, n = ps.length - 1 := ⟨_, rfl⟩
  obtain ⟨L, hL⟩ : ∃ L, L = ps.take n := ⟨_, rfl⟩
  have hp0 : 0 < ps.length := by
    obtain ⟨x, xs, e⟩ := sep_some (d := 10) s
    rw [hps, e]
    simp
  have hpm : ps.length ≤ s.length + 1 := by rw [hps]; exact sep_many s
  have hLl : L.length = n := by rw [hL, List.length_take]; omega
  have hLs : ∀ x ∈ L, x.length ≤ 2147483648 := fun x hx => by
    have := sep_len (d := 10) s x (by rw [← hps]; rw [hL] at hx; exact List.mem_of_mem_take hx)
    omega
  obtain ⟨w0, hw0⟩ : ∃ W, W = w.alloc (.cells #[.int .i64 0, .int .i64 0] 36) := ⟨_, rfl⟩
  have hb0 : Below w.heap.size w w0 := by rw [hw0]; exact (Below.refl _ _).alloc (Nat.le_refl _) _
  have hx0 : Whole w0 w.heap.size 36 #[.int .i64 0, .int .i64 0] := by rw [hw0]; exact Whole.new _ _ _
  have hsp := split_parts 10 s w0 (E.below hb0).maxl (by omega)
  rw [← hps] at hsp
  have HSP := Lib.hid hsp
  have HB0 := Lib.hid hb0
  have HX0 := Lib.hid hx0
  have HE := Lib.hid E
  have HLS := Lib.hid hLs
  have HRA := Lib.hid (read_all L)
  have HL := Lib.hid hL
  have HLL := Lib.hid hLl
  have HPS := Lib.hid hps
  have HN := Lib.hid hn
  clear hsp hb0 hx0 E hLs hL hLl hps
  rw [hw0] at HSP HB0 HX0
  clear hw0
  have hn1 : ps.length = n + 1 := by omega
  have HN1 := Lib.hid hn1
  have hcut := fun A c (h : ps.length ≤ c) W => run_cut_to (P := Tryz.prog) Tryz.underlying71 Tryz.sizeOf9 A (n + 1) c .i64 (n : Int) (by omega) (by omega) W
  have HCUT := Lib.hid hcut
  clear hn hcut
  go_enter Tryz.func15, Tryz.ntmps15
  go_wp2_with fail
  refine HSP.out.mono ?_
  rintro e w1 ⟨A, c, rfl, hrow, hc, hb1⟩
  have cut1 := HCUT.out A c hc
  rw [hn1]
  have HROW := Lib.hid hrow
  have HB1 := Lib.hid (HB0.out.trans (hb1.mono HB0.out.size))
  have HX1 : Hid (Whole w1 w.heap.size 36 #[.int .i64 0, .int .i64 0]) := Lib.hid ((hb1.block _ HX0.out.lt).trans HX0.out)
  have hsn : s.length + 1 ≥ n + 1 := by omega
  clear hrow hb1 hn1 hp0 hpm
  go_wp2_with fail
  have hx2 : Whole (w1.alloc (.cells #[.slice A n c, .int .i64 0, .int .i64 0] 78)) w1.heap.size 78 (rdV A L.length c 0 0) := by rw [HLL.out]; exact Whole.new _ _ _
  have hb2 : Below w1.heap.size w1 (w1.alloc (.cells #[.slice A n c, .int .i64 0, .int .i64 0] 78)) := (Below.refl _ _).alloc (Nat.le_refl _) _
  obtain ⟨bA, offA, rfl, hcell⟩ := HROW.out n (.string ⟨(ps.getD n []).toArray⟩) (by
    have h := HN1.out
    simp [txtV, List.getD_eq_getElem?_getD, List.getElem?_eq_getElem (show n < ps.length by omega)])
  have hbA := lt_of_cell hcell
  dsimp only at hbA
  have hread := HRA.out (n + 1) 1 0 w1.heap.size (some ⟨bA, offA, none⟩) c _ (HE.out.below (HB1.out.trans (hb2.mono HB1.out.size))) hx2 (fun i v hv => by
    obtain ⟨b', off', e1, h2⟩ := ((HROW.out.take n).below hb2) i v (by
      rw [HL.out] at hv
      simpa [txtV] using hv)
    cases e1
    exact ⟨bA, offA, rfl, by omega, h2⟩) (by omega) (by omega) (by omega) (by rw [HLL.out]; omega) (by rw [HLL.out]; omega) HLS.out (fun W hW => HE.out.below ((HB1.out.trans (hb2.mono HB1.out.size)).trans (hW.to_below (Nat.le_trans HB1.out.size hb2.size) fun j hj e => by
      have e : j = w1.heap.size := e
      have := HB1.out.size
      omega)))
  have HREAD := Lib.hid hread
  have HB2 := Lib.hid hb2
  obtain ⟨X, hX⟩ : ∃ X : ByteArray, X = ⟨(ps.getD n []).toArray⟩ := ⟨_, rfl⟩
  rw [← hX] at hcell
  have hq0 : (X.toList == []) = decide (ps.getD n [] = []) := by rw [hX]; exact str_nilP _
  have HQ0 := Lib.hid hq0
  have HC := Lib.hid hcell
  have hw1 := HX1.out.lt
  have hsz1 := HB1.out.size
  clear hx2 hb2 hread hX hq0 hcell cut1
  refine HREAD.out.mono ?_
  rintro e w3 ⟨A3, m3, c3, k', b, rfl, hk3, hr3, hkb, hbad, hyes⟩
  have d1 : w3.cell? ⟨bA, offA + n, none⟩ = some (.string X) := hk3.cell ((HB2.out.cell (p := ⟨bA, offA + n, none⟩) hbA).trans HC.out) (fun e => by
    have e : bA = w1.heap.size := e
    omega)
  have y2 : w3.cell? ⟨w1.heap.size, 2, none⟩ = some (.int .i64 (b : Int)) := hr3.cell 2
  have g2 := hr3.frozen 2
  have hxf : Whole w3 w.heap.size 36 #[.int .i64 0, .int .i64 0] := hk3.whole ((HB2.out.block _ hw1).trans HX1.out) (fun e => by
    have e : w.heap.size = w1.heap.size := e
    omega)
  have x0 : w3.cell? ⟨w.heap.size, 0, none⟩ = some (.int .i64 0) := hxf.cell 0
  have x1 : w3.cell? ⟨w.heap.size, 1, none⟩ = some (.int .i64 0) := hxf.cell 1
  have f0 := hxf.frozen 0
  have f1 := hxf.frozen 1
  have hlt3 := hxf.lt
  have hne1 : w.heap.size ≠ w1.heap.size := by omega
  have hne2 : w1.heap.size ≠ w.heap.size := by omega
  have hbel : Below w.heap.size w w3 := (HB1.out.trans (HB2.out.mono hsz1)).trans (hk3.to_below (Nat.le_trans hsz1 HB2.out.size) fun j hj e => by
      have e : j = w1.heap.size := e
      omega)
  have HXF := Lib.hid hxf
  have HBEL := Lib.hid hbel
  clear hk3 hr3 hxf hbel
  have hpl : ∀ b', stp L (n + 1) 1 0 [] = .bad b' → parseL s = if ps.getD n [] ≠ [] ∧ n < b' then .bad (n + 1) else .bad b' := fun b' h => parse_bad HPS.out HN.out HL.out h
  have hpk : ∀ out k, stp L (n + 1) 1 0 [] = .ok out k → parseL s = if ps.getD n [] ≠ [] then .bad (n + 1) else .ok out k := fun out k h => parse_ok HPS.out HN.out HL.out h
  cases hst : stp L (n + 1) 1 0 [] with
  | bad b' =>
    have hb' := hbad b' hst
    subst hb'
    have hb1 := (stp_bad hst (by omega) (by omega)).1
    have hb2 := (stp_bad hst (by omega) (by omega)).2 (by rw [HLL.out]; omega)
    rw [HLL.out] at hb2
    have tb0 : ((b : Int) == 0) = false := by
      rw [beq_eq_false_iff_ne]
      omega
    have tb : decide ((0 : Int) < (b : Int)) = true := by
      rw [decide_eq_true_iff]
      omega
    have HPL := Lib.hid (hpl b hst)
    clear hpl hpk hst hbad hyes
    by_cases hl : ps.getD n [] = []
    · rw [decide_eq_true hl] at HQ0
      have hq := HQ0.out
      have hpb : parseL s = .bad b := by rw [HPL.out, if_neg (fun h => h.1 hl)]
      have HPB := Lib.hid hpb
      clear hl hpb
      go_wp2_with fail
      go_region
      go_wp2_with fail
      refine bodyPost_ret (results_tmp_row rfl _ _ w.heap.size 36 #[.int .i64 50, .int .i64 ((b : Nat) : Int)] (0, 0) _ rfl ((HXF.out.put 0 _).put 1 _) Tryz.underlying36 rfl (by kernel_rfl)) rfl ?_
      exact parse_no HPB.out ((HBEL.out.setCell (p := ⟨w.heap.size, 0, none⟩) (Nat.le_refl _) _).setCell (p := ⟨w.heap.size, 1, none⟩) (Nat.le_refl _) _).drew
    · rw [decide_eq_false hl] at HQ0
      have hq := HQ0.out
      by_cases hbn : n < b
      · have tn : decide ((n : Int) < (b : Int)) = true := by
          rw [decide_eq_true_iff]
          omega
        have hpb : parseL s = .bad (n + 1) := by rw [HPL.out, if_pos ⟨hl, hbn⟩]
        have HPB := Lib.hid hpb
        clear hl hpb
        have tn1 : decide ((0 : Int) < (n : Int) + 1) = true := by
          rw [decide_eq_true_iff]
          omega
        go_wp2_with fail
        go_region
        go_wp2_with fail
        refine bodyPost_ret (results_tmp_row rfl _ _ w.heap.size 36 #[.int .i64 50, .int .i64 ((n + 1 : Nat) : Int)] (0, 0) _ rfl (((view_far HXF.out hne2 _).put 0 _).put 1 _) Tryz.underlying36 rfl (by kernel_rfl)) rfl ?_
        exact parse_no HPB.out (((((HBEL.out.setCell (p := ⟨w1.heap.size, 2, none⟩) hsz1 _)).setCell (p := ⟨w.heap.size, 0, none⟩) (Nat.le_refl _) _).setCell (p := ⟨w.heap.size, 1, none⟩) (Nat.le_refl _) _).drew)
      · have tn : decide ((n : Int) < (b : Int)) = false := by
          rw [decide_eq_false_iff_not]
          omega
        have hpb : parseL s = .bad b := by rw [HPL.out, if_neg (fun h => hbn h.2)]
        have HPB := Lib.hid hpb
        have tn2 : decide (n < b) = false := decide_eq_false hbn
        clear hl hpb
        go_wp2_with fail
        go_region
        go_wp2_with fail
        refine bodyPost_ret (results_tmp_row rfl _ _ w.heap.size 36 #[.int .i64 50, .int .i64 ((b : Nat) : Int)] (0, 0) _ rfl ((HXF.out.put 0 _).put 1 _) Tryz.underlying36 rfl (by kernel_rfl)) rfl ?_
        exact parse_no HPB.out ((HBEL.out.setCell (p := ⟨w.heap.size, 0, none⟩) (Nat.le_refl _) _).setCell (p := ⟨w.heap.size, 1, none⟩) (Nat.le_refl _) _).drew
  | ok out k2 =>
    obtain ⟨rfl, rfl, rfl, hmc, hops⟩ := hyes out k2 hst
    have HPL := Lib.hid (hpk out k' hst)
    have HMC := Lib.hid hmc
    have HOPS := Lib.hid hops
    have hszw := HBEL.out.size
    clear hpl hpk hst hbad hyes hmc hops
    by_cases hl : ps.getD n [] = []
    · rw [decide_eq_true hl] at HQ0
      have hq := HQ0.out
      have hpb : parseL s = .ok out k' := by rw [HPL.out, if_neg (fun h => h hl)]
      have HPB := Lib.hid hpb
      clear hl hpb
      go_wp2_with fail
      refine bodyPost_ret (results_tmp_row rfl _ _ w.heap.size 36 #[.int .i64 0, .int .i64 0] (0, 0) _ rfl ((HXF.out.put 0 _).put 1 _) Tryz.underlying36 rfl (by kernel_rfl)) rfl ?_
      exact parse_yes HPB.out HMC.out HOPS.out (by have := HB2.out.size; simp; omega) (((HBEL.out.setCell (p := ⟨w.heap.size, 0, none⟩) (Nat.le_refl _) _).setCell (p := ⟨w.heap.size, 1, none⟩) (Nat.le_refl _) _)) (((Kept.refl (fun j => j = w.heap.size) _).setCell (p := ⟨w.heap.size, 0, none⟩) (.inl rfl) _).setCell (p := ⟨w.heap.size, 1, none⟩) (.inl rfl) _)
    · rw [decide_eq_false hl] at HQ0
      have hq := HQ0.out
      have hpb : parseL s = .bad (n + 1) := by rw [HPL.out, if_pos hl]
      have HPB := Lib.hid hpb
      have tn1 : decide ((0 : Int) < (n : Int) + 1) = true := by
        rw [decide_eq_true_iff]
        omega
      clear hl hpb
      go_wp2_with fail
      go_region
      go_wp2_with fail
      refine bodyPost_ret (results_tmp_row rfl _ _ w.heap.size 36 #[.int .i64 50, .int .i64 ((n + 1 : Nat) : Int)] (0, 0) _ rfl (((view_far HXF.out hne2 _).put 0 _).put 1 _) Tryz.underlying36 rfl (by kernel_rfl)) rfl ?_
      exact parse_no HPB.out (((((HBEL.out.setCell (p := ⟨w1.heap.size, 2, none⟩) hsz1 _)).setCell (p := ⟨w.heap.size, 0, none⟩) (Nat.le_refl _) _).setCell (p := ⟨w.heap.size, 1, none⟩) (Nat.le_refl _) _).drew)
end Go.Proofs.YtifmgmiaeoiidaaGreatDoor
