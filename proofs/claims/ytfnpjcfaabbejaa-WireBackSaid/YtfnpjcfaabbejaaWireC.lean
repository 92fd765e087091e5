/-
  The walk of the getter's take. Bytes fewer than 2^40.
-/
import Derived.Test.YtfnpjcfaabbejaaWireB
import Derived.Deep.AppendLies
import Derived.Deep.RegionLaw
import Derived.Maps.AppendAt
namespace Go.Colm
open Go.RowKit
theorem run_cut_mid {P : Program} {t e : TypeId} {s : Nat} (ht : P.underlying t = some (.slice e)) (hs : ∀ w, (sizeOf e).run P w = .ok s w) (A : Option Addr) (n c : Nat) (kd ke : IntKind) (lo hi : Int) (h0 : 0 ≤ lo) (h1 : lo ≤ hi) (h2 : hi ≤ c) (w : World) :
    (Instr.slice t (.slice A n c) (some (.int kd lo)) (some (.int ke hi)) none).run P w = .ok (.slice (cutA A c lo.toNat s) (hi.toNat - lo.toNat) (c - lo.toNat)) w := by
  have e1 : (Instr.sliceBound (.int ke hi) c .sliceAcap).run P w = .ok hi.toNat w := run_sliceBound w ke hi c _ (by omega) h2
  have e2 : ∀ code, (Instr.sliceBound (.int kd lo) hi.toNat code).run P w = .ok lo.toNat w := fun code => run_sliceBound w kd lo hi.toNat code h0 (by omega)
  simp [Instr.slice, run_underlying ht, Instr.sliceBounds, e1, e2, hs, cutA]
/-- A call of a Go function by its contract, as one step of a region that draws its order. -/
theorem step_call {P : Program} {ops : Array Oper} {o : Oper} {a : Act} {w : World} {K : Act → World → Prop} {Q : Exit → Act → World → Prop} {E : Prop} (hg : o.guard = none) (f : FuncId) (args : Array Value) (hrun : (execOp a.eval o).run P w = .ok (.enter f args) w)
    (v : Value) (R : World → Prop) (hc : Calls P f args w fun e w' => e = .returned v ∧ R w') (h : ∀ w', R w' → K (a.put o.dst v) w') :
    if Region.wanted o (yielded ops a.tmps) = true then Oper.wp P o a w K Q else E := by
  have hw : Region.wanted o (yielded ops a.tmps) = true := by simp [Region.wanted, hg]
  rw [if_pos hw]
  unfold Oper.wp
  rw [hrun, Oper.upon_enter]
  refine hc.mono fun e w' hh => ?_
  obtain ⟨rfl, hR⟩ := hh
  exact h w' hR
end Go.Colm
namespace Go.Proofs.Ytfnpjcfaabbejaa
open Go.RowKit Go.Foldp Go.Colm Go.Wirep
set_option linter.unusedVariables false

theorem str_info : (Try.prog.info? 9).map (fun i => (i.zero, i.size, i.bytes)) = some (some (.string ByteArray.empty), 1, 16) := by kernel_rfl

/-- The n bytes behind place at. -/
def midL (b : List UInt8) (at_ n : Nat) : List UInt8 := (b.drop (at_ + 1)).take n
theorem midL_length {b : List UInt8} {at_ n : Nat} (h : at_ + 1 + n ≤ b.length) : (midL b at_ n).length = n := by
  simp [midL]
  omega
theorem mid_row {w : World} {A : Option Addr} {b : List UInt8} {cb at_ n : Nat} (hr : RowV w A (bytesV b)) (hc : b.length ≤ cb) : RowV w (cutA A cb (at_ + 1) 1) (bytesV (midL b at_ n)) := by
  have h := ((hr.cut (c := cb) (k := at_ + 1) (s := 1) (by rw [bytesV_length]; omega)).take n)
  rw [Nat.mul_one] at h
  simpa [bytesV, midL] using h

theorem get_app {gb B : Nat} {A : Option Addr} {cb : Nat} {b : List UInt8} {at_ begin_ next : Nat} {v v' : Value} {l : List (List UInt8)} {lm : List UInt8} {W w' : World} {o : Obj} (h : GetAt gb B A cb b at_ begin_ next v l W)
    (hown : w'.ownsRow B 9 1 v' (l.length + 1) (labV l ++ [.string ⟨lm.toArray⟩])) (hgr : (W.alloc o).grownBy w' v.ownBlock) (hat : v'.ownBlock = v.ownBlock ∨ v'.ownBlock = some (W.alloc o).heap.size) :
      Whole w' gb 49 #[.slice A b.length cb, .int .i64 (at_ : Int), .int .i64 (begin_ : Int), .int .i64 (next : Int), v] ∧
      GetAt gb B A cb b at_ begin_ next v' (l ++ [lm]) (w'.setCell ⟨gb, 4, none⟩ v') ∧ Kept (fun j => j = gb ∨ v.ownBlock = some j) W (w'.setCell ⟨gb, 4, none⟩ v') ∧ (v'.ownBlock = v.ownBlock ∨ ∃ k, W.heap.size ≤ k ∧ v'.ownBlock = some k) := by
  have ka : Kept (fun _ => False) W (W.alloc o) := (Kept.refl _ _).alloc _
  have ht3 : Whole w' gb 49 #[.slice A b.length cb, .int .i64 (at_ : Int), .int .i64 (begin_ : Int), .int .i64 (next : Int), v] := (Kept.grown hgr).whole (ka.whole h.1 id) h.far
  have hne : v'.ownBlock ≠ some gb := Lib.ownBlock_ne hown ht3 (by decide)
  refine ⟨ht3, ⟨ht3.put 4 v', ?_⟩, ?_, ?_⟩
  · rw [labV_snoc, List.length_append]
    exact hown.kept (row := some gb) ⟨rfl, rfl, rfl, by simp [World.setCell], fun k _ hk => Below.heap_setCell _ _ _ _ (fun e => hk (by simp [e]))⟩ (Or.inr hne)
  · exact (((ka.mono fun _ _ h => h.elim).trans ((Kept.grown hgr).mono fun k _ hk => .inr hk)).setCell (p := ⟨gb, 4, none⟩) (.inl (.inl rfl)) _)
  · rcases hat with h | h
    · exact .inl h
    · exact .inr ⟨_, by simp, h⟩

theorem get_wire {gb B : Nat} {A : Option Addr} {cb : Nat} {b : List UInt8} {at_ begin_ next g n cap : Nat} {l : List (List UInt8)} {w : World} (h : GetAt gb B A cb b at_ begin_ next (.slice (some ⟨g, 0, none⟩) n cap) l w) (hl : wireL l < 1099511627776) :
    Calls Try.prog 31 #[.slice (some ⟨g, 0, none⟩) n cap] w fun e w' => e = .returned (.int .i64 (wireL l : Nat)) ∧ w' = w := by
  obtain ⟨A', c', e, hr⟩ := own_row h.2
  simp only [Value.slice.injEq] at e
  obtain ⟨rfl, rfl, rfl⟩ := e
  exact wire_any l _ _ w hr hl
theorem take_own {v v' : Value} {w w2 : World} (hk : Kept (fun _ => False) w w2) (h : v'.ownBlock = v.ownBlock ∨ ∃ k, w2.heap.size ≤ k ∧ v'.ownBlock = some k) : v'.ownBlock = v.ownBlock ∨ ∃ k, w.heap.size ≤ k ∧ v'.ownBlock = some k := by
  rcases h with h | ⟨k, hk2, h⟩
  · exact .inl h
  · exact .inr ⟨k, Nat.le_trans hk.size hk2, h⟩

set_option maxHeartbeats 1000000 in
theorem take_short (gb B : Nat) (A : Option Addr) (cb : Nat) (b : List UInt8) (at_ begin_ next n : Nat) (v : Value) (l : List (List UInt8)) (w : World) (h : GetAt gb B A cb b at_ begin_ next v l w) (hb : b.length < 1099511627776) (ha : at_ < b.length) (hn : n < 64) (h2 : ¬ at_ + 1 + n ≤ b.length) :
    Calls Try.prog 20 #[.pointer (some ⟨gb, 0, none⟩), .int .i64 (n : Int)] w fun e w' => e = .returned (.int .i64 3) ∧ Kept (fun j => j = gb) w w' := by
  have c0 : w.cell? ⟨gb, 0, none⟩ = some (.slice A b.length cb) := h.1.cell 0
  have c1 : w.cell? ⟨gb, 1, none⟩ = some (.int .i64 (at_ : Int)) := h.1.cell 1
  have hx : (b.length : Int) - at_ - 1 < n := by omega
  have H := Lib.hid h
  clear h
  go_enter Try.func20, Try.ntmps20
  go_wp2_with fail
  go_quiet (fail)
  go_wp2_with fail
  go_ret
  exact ⟨rfl, (Kept.refl _ _).drewN _⟩

set_option maxHeartbeats 2000000 in
theorem take_no (gb B : Nat) (A : Option Addr) (cb : Nat) (b : List UInt8) (at_ begin_ next n : Nat) (v : Value) (l : List (List UInt8)) (w : World) (h : GetAt gb B A cb b at_ begin_ next v l w) (hr : RowV w A (bytesV b)) (hcb : b.length ≤ cb) (hA : ∀ a, A = some a → a.spot = none) (hb : b.length < 1099511627776) (ha : at_ < b.length) (hn : n < 64) (h2 : at_ + 1 + n ≤ b.length)
    (h3 : labelE (midL b at_ n) ≠ 0) :
    Calls Try.prog 20 #[.pointer (some ⟨gb, 0, none⟩), .int .i64 (n : Int)] w fun e w' => e = .returned (.int .i64 4) ∧ Below w.heap.size w w' := by
  have c0 : w.cell? ⟨gb, 0, none⟩ = some (.slice A b.length cb) := h.1.cell 0
  have c1 : w.cell? ⟨gb, 1, none⟩ = some (.int .i64 (at_ : Int)) := h.1.cell 1
  have hx : ¬ (b.length : Int) - at_ - 1 < n := by omega
  have hml := midL_length h2
  have hcut := fun W => run_cut_mid (P := Try.prog) Try.underlying22 Try.sizeOf5 A b.length cb .i64 .i64 ((at_ : Int) + 1) ((at_ : Int) + 1 + n) (by omega) (by omega) (by omega) W
  have htx : ∀ k, (convert 22 9 (.slice (cutA A cb (at_ + 1) 1) (midL b at_ n).length (cb - (at_ + 1)))).run Try.prog (w.drewN k) = .ok (.string ⟨(midL b at_ n).toArray⟩) (w.drewN k) := fun k =>
    run_text (P := Try.prog) Try.underlying22 Try.underlying5 (w.drewN k) _ (midL b at_ n) _ ((mid_row hr hcb).drewN k) (fun a e => by
      unfold cutA at e
      split at e
      · exact hA a e
      · rcases A with _ | a'
        · cases e
        · cases e
          simp only [Addr.add]
          split
          · exact hA a' rfl
          · rfl) 9 Try.underlying9
  rw [show ((at_ : Int) + 1).toNat = at_ + 1 by omega, show ((at_ : Int) + 1 + n).toNat - (at_ + 1) = n by omega] at hcut
  rw [hml] at htx
  obtain ⟨le, hle⟩ : ∃ le, le = labelE (midL b at_ n) := ⟨_, rfl⟩
  rw [← hle] at h3
  have t3 : (le != 0) = true := by rwa [bne_iff_ne]
  have hlab : ∀ W, Calls Try.prog 29 #[.string ⟨(midL b at_ n).toArray⟩] W fun e w' => e = .returned (.int .i64 le) ∧ Below W.heap.size W w' := fun W => by
    rw [hle]
    exact label_is ⟨(midL b at_ n).toArray⟩ W (by show (midL b at_ n).toArray.size ≤ _; simp only [List.size_toArray, hml]; omega)
  obtain ⟨sm, hsm⟩ : ∃ sm, sm = ByteArray.mk (midL b at_ n).toArray := ⟨_, rfl⟩
  simp only [← hsm] at htx hlab
  obtain ⟨Am, hAm⟩ : ∃ Am, Am = cutA A cb (at_ + 1) 1 := ⟨_, rfl⟩
  simp only [← hAm] at htx hcut
  have HLAB := Lib.hid hlab
  clear h hr hA hlab hle hsm hAm hml h3
  go_enter Try.func20, Try.ntmps20
  go_wp2_with fail
  go_quiet (fail)
  go_wp2_with fail
  go_quiet (fail)
  go_wp2_with fail
  refine (HLAB.out _).mono ?_
  rintro e w2 ⟨rfl, hb2⟩
  go_wp2_with fail
  go_ret
  exact ⟨rfl, below_chain (below_of_drewN w _) hb2⟩

set_option maxRecDepth 100000 in
set_option maxHeartbeats 4000000 in
theorem take_yes (gb B : Nat) (A : Option Addr) (cb : Nat) (b : List UInt8) (at_ begin_ next n : Nat) (v : Value) (l : List (List UInt8)) (w : World) (h : GetAt gb B A cb b at_ begin_ next v l w) (hr : RowV w A (bytesV b)) (hcb : b.length ≤ cb) (hA : ∀ a, A = some a → a.spot = none) (hb : b.length < 1099511627776) (ha : at_ < b.length) (hn : n < 64) (h2 : at_ + 1 + n ≤ b.length)
    (h3 : labelE (midL b at_ n) = 0) (hB : B ≤ gb) (hll : wireL l < 1000) :
    Calls Try.prog 20 #[.pointer (some ⟨gb, 0, none⟩), .int .i64 (n : Int)] w fun e w' => e = .returned (.int .i64 (if 255 < wireL (l ++ [lowL (midL b at_ n)]) then 21 else 0)) ∧
      Kept (fun j => j = gb ∨ v.ownBlock = some j) w w' ∧ ∃ v', GetAt gb B A cb b (if 255 < wireL (l ++ [lowL (midL b at_ n)]) then at_ else at_ + 1 + n) begin_ next v' (l ++ [lowL (midL b at_ n)]) w' ∧ (v'.ownBlock = v.ownBlock ∨ ∃ k, w.heap.size ≤ k ∧ v'.ownBlock = some k) := by
  have c0 : w.cell? ⟨gb, 0, none⟩ = some (.slice A b.length cb) := h.1.cell 0
  have c1 : w.cell? ⟨gb, 1, none⟩ = some (.int .i64 (at_ : Int)) := h.1.cell 1
  have hx : ¬ (b.length : Int) - at_ - 1 < n := by omega
  have hml := midL_length h2
  have hcut := fun W => run_cut_mid (P := Try.prog) Try.underlying22 Try.sizeOf5 A b.length cb .i64 .i64 ((at_ : Int) + 1) ((at_ : Int) + 1 + n) (by omega) (by omega) (by omega) W
  have htx : ∀ k, (convert 22 9 (.slice (cutA A cb (at_ + 1) 1) (midL b at_ n).length (cb - (at_ + 1)))).run Try.prog (w.drewN k) = .ok (.string ⟨(midL b at_ n).toArray⟩) (w.drewN k) := fun k =>
    run_text (P := Try.prog) Try.underlying22 Try.underlying5 (w.drewN k) _ (midL b at_ n) _ ((mid_row hr hcb).drewN k) (fun a e => by
      unfold cutA at e
      split at e
      · exact hA a e
      · rcases A with _ | a'
        · cases e
        · cases e
          simp only [Addr.add]
          split
          · exact hA a' rfl
          · rfl) 9 Try.underlying9
  rw [show ((at_ : Int) + 1).toNat = at_ + 1 by omega, show ((at_ : Int) + 1 + n).toNat - (at_ + 1) = n by omega] at hcut
  rw [hml] at htx
  have hlab : ∀ W, Calls Try.prog 29 #[.string ⟨(midL b at_ n).toArray⟩] W fun e w' => e = .returned (.int .i64 0) ∧ Below W.heap.size W w' := fun W => by
    have h := label_is ⟨(midL b at_ n).toArray⟩ W (by show (midL b at_ n).toArray.size ≤ _; simp only [List.size_toArray, hml]; omega)
    rw [show labelE (ByteArray.mk (midL b at_ n).toArray).data.toList = 0 from h3] at h
    exact h
  have hlow : ∀ W, Calls Try.prog 30 #[.string ⟨(midL b at_ n).toArray⟩] W fun e w' => e = .returned (.string ⟨(lowL (midL b at_ n)).toArray⟩) ∧ Below W.heap.size W w' := fun W =>
    lower_any ⟨(midL b at_ n).toArray⟩ W (by show (midL b at_ n).toArray.size ≤ _; simp only [List.size_toArray, hml]; omega)
  have hlml : (lowL (midL b at_ n)).length = n := by rw [lowL_length, hml]
  have hwl : wireL (l ++ [lowL (midL b at_ n)]) = wireL l + (n + 1) := by rw [wireL_snoc, hlml]
  obtain ⟨i0, hi, hz0, hz1, hz2⟩ := info_parts str_info
  have hgn : ∀ k, GetAt gb B A cb b at_ begin_ next v l (w.drewN k) := fun k => h
  obtain ⟨lm, hlm⟩ : ∃ lm, lm = lowL (midL b at_ n) := ⟨_, rfl⟩
  rw [← hlm] at hlow hwl ⊢
  obtain ⟨WL, hWL⟩ : ∃ WL, WL = wireL (l ++ [lm]) := ⟨_, rfl⟩
  rw [← hWL] at hwl ⊢
  have HGN := Lib.hid hgn
  have hwl0 : wireL (l ++ [lm]) < 1099511627776 := by omega
  have HWL := Lib.hid hWL
  obtain ⟨sm, hsm⟩ : ∃ sm, sm = ByteArray.mk (midL b at_ n).toArray := ⟨_, rfl⟩
  simp only [← hsm] at htx hlab hlow
  obtain ⟨Am, hAm⟩ : ∃ Am, Am = cutA A cb (at_ + 1) 1 := ⟨_, rfl⟩
  simp only [← hAm] at htx hcut
  have HLAB := Lib.hid hlab
  have HLOW := Lib.hid hlow
  have hll2 := wireL_len l
  clear h hr hA hlab hlow hsm hAm hml h3 hlm hlml hWL hgn
  go_enter Try.func20, Try.ntmps20
  go_wp2_with fail
  go_quiet (fail)
  go_wp2_with fail
  go_quiet (fail)
  go_wp2_with fail
  refine (HLAB.out _).mono ?_
  rintro e w2 ⟨rfl, hb2⟩
  have k2 : Kept (fun _ => False) w w2 := Kept.below (below_chain (below_of_drewN w _) hb2) _
  have hg2 : GetAt gb B A cb b at_ begin_ next v l w2 := ⟨k2.whole (HGN.out 0).1 id, own_kept k2 (HGN.out 0).2 fun _ _ => id⟩
  have d4 : w2.cell? ⟨gb, 4, none⟩ = some v := hg2.1.cell 4
  have HG2 := Lib.hid hg2
  have HK2 := Lib.hid k2
  clear hb2 k2 hg2
  go_wp2_with fail
  go_region_law (first
    | (refine step_call (w := w2.drew) rfl 30 #[.string sm] (by first | kernel_rfl | rfl | (simp [execOp, go_sem])) _ _ (HLOW.out w2.drew) ?_
       intro w3 hb3
       have k3 : Kept (fun _ => False) w2 w3 := Kept.below (below_chain (below_of_drewN w2 1) hb3) _
       have hg3 : GetAt gb B A cb b at_ begin_ next v l w3 := ⟨k3.whole HG2.out.1 id, own_kept k3 HG2.out.2 fun _ _ => id⟩
       have d43 : w3.cell? ⟨gb, 4, none⟩ = some v := hg3.1.cell 4
       have d44 : (w3.alloc (.cells #[.string ⟨lm.toArray⟩] 9)).cell? ⟨gb, 4, none⟩ = some v := Kept.cell (S := fun _ => False) ((Kept.refl _ _).alloc _) d43 id
       have hb3' : ∀ o, B ≤ (w3.alloc o).heap.size := fun o => by
         have := hg3.1.lt
         simp
         omega
       have HK3 := Lib.hid k3
       have HG3 := Lib.hid hg3
       clear hb3 k3 hg3)
    | (refine step_append_lies _ rfl _ _ _ rfl B 9 i0 (.string ByteArray.empty) 1 16 Try.underlying24 hi hz0 hz1 hz2 rfl (by decide) v l.length (labV l) rfl (HG3.out.2.alloc _) ⟨_, 0, none⟩ 1 1 [.string ⟨lm.toArray⟩] rfl rfl (cell_one_new _ _ _) (fun x hx => by simp at hx; subst hx; rfl) (by decide) (by unfold maxLen; omega) (by omega) (hb3' _) _ rfl ?_
       intro g cap w4 hown4 hg4 hat4 hlt4
       have happ := get_app (lm := lm) HG3.out hown4 hg4 (hat4.elim (fun h => Or.inl (by rw [h]; rfl)) (fun h => Or.inr (by rw [h]; rfl)))
       have z4 : w4.cell? ⟨gb, 4, none⟩ = some v := happ.1.cell 4
       have z4f := happ.1.frozen 4
       have y1 : (w4.setCell ⟨gb, 4, none⟩ (.slice (some ⟨g, 0, none⟩) (l.length + 1) cap)).cell? ⟨gb, 1, none⟩ = some (.int .i64 (at_ : Int)) := happ.2.1.1.cell 1
       have y4 : (w4.setCell ⟨gb, 4, none⟩ (.slice (some ⟨g, 0, none⟩) (l.length + 1) cap)).cell? ⟨gb, 4, none⟩ = some (.slice (some ⟨g, 0, none⟩) (l.length + 1) cap) := happ.2.1.1.cell 4
       have y1f := happ.2.1.1.frozen 1
       have HWI := Lib.hid (get_wire happ.2.1 hwl0)
       have HAPP := Lib.hid happ
       clear happ hown4 hg4 hat4))
  all_goals
    go_wp2_with fail
    refine HWI.out.mono ?_
    rintro e w6 ⟨rfl, rfl⟩
    rw [← HWL.out]
    by_cases hW : 255 < WL
    · go_wp2_with fail
      go_ret
      exact ⟨rfl, ((HK2.out.trans HK3.out).mono fun _ _ h => h.elim).trans HAPP.out.2.2.1, _, HAPP.out.2.1, take_own (HK2.out.trans HK3.out) HAPP.out.2.2.2⟩
    · go_wp2_with fail
      go_ret
      have kx : Kept (fun j => j = gb) (w4.setCell ⟨gb, 4, none⟩ (.slice (some ⟨g, 0, none⟩) (l.length + 1) cap)) ((w4.setCell ⟨gb, 4, none⟩ (.slice (some ⟨g, 0, none⟩) (l.length + 1) cap)).setCell ⟨gb, 1, none⟩ (.int .i64 ((at_ : Int) + ((n : Int) + 1)))) := (Kept.refl (fun j => j = gb) _).setCell (p := ⟨gb, 1, none⟩) (.inl rfl) _
      refine ⟨rfl, (((HK2.out.trans HK3.out).mono fun _ _ h => h.elim).trans HAPP.out.2.2.1).trans (kx.mono fun _ _ h => .inl h), _, HAPP.out.2.1.put kx ?_, take_own (HK2.out.trans HK3.out) HAPP.out.2.2.2⟩
      rw [show ((at_ + 1 + n : Nat) : Int) = (at_ : Int) + ((n : Int) + 1) by omega]
      exact HAPP.out.2.1.1.put 1 _

end Go.Proofs.Ytfnpjcfaabbejaa
