/-
  The walk of layer lend's Play: what comes of any steps, with a book or without. Fewer than 2^40 notes.
-/
import Derived.Test.YtopmcjpnfnfjiaaLendJ
import Derived.Test.YtopmcjpnfnfjiaaLendD2
namespace Go.Proofs.Ytopmcjpnfnfjiaa
open Go.RowKit Go.Colm Go.Lendp
set_option linter.unusedVariables false

set_option maxHeartbeats 800000 in
theorem play1_any (p3 p5 tb : Nat) (A : Option Addr) (n cp : Nat) (o : Option Int) (w : World) (R : World → Prop)
    (h5 : w.cell? ⟨p5, 0, none⟩ = some (.pointer (some ⟨tb, 0, none⟩))) (h3 : w.cell? ⟨p3, 0, none⟩ = some (.slice A n cp))
    (h : Calls Try.prog 24 #[.pointer (some ⟨tb, 0, none⟩), .slice A n cp, .int .i64 ((1 : Nat) : Int)] w fun e w' => e = endOf o ∧ R w') :
    Calls Try.prog 23 #[.pointer (some ⟨p5, 0, none⟩), .pointer (some ⟨p3, 0, none⟩)] w fun e w' => e = endOf o ∧ R w' := by
  have H := Lib.hid h
  clear h
  go_enter Try.func23, Try.ntmps23
  go_wp2_with fail
  rcases o with _ | c
  · refine H.out.mono ?_
    rintro e w' ⟨rfl, hR⟩
    have HR := Lib.hid hR
    clear hR
    unfold endOf
    go_wp2_with fail
    go_end0
    exact ⟨rfl, HR.out⟩
  · refine H.out.mono ?_
    rintro e w' ⟨rfl, hR⟩
    have HR := Lib.hid hR
    clear hR
    unfold endOf
    go_wp2_with fail
    exact ⟨rfl, rfl, HR.out⟩

theorem caught_play {N : Nat → Prop} {tb B : Nat} {bp : Option Nat} {l : List Stp} (H : DoOK N tb B bp l) (hBt : B ≤ tb)
    (v : Value) (ns : List Int) (d m : Nat) (A : Option Addr) (cp p3 p5 : Nat) (w : World) (ht : Teller tb B bp v ns w) (hb : Book bp w d m) (hs : StpsAt N w A 0 l) (hc : ns.length + cntL l < 1099511627776) (hd : d ≤ 1)
    (h5 : w.cell? ⟨p5, 0, none⟩ = some (.pointer (some ⟨tb, 0, none⟩))) (h3 : w.cell? ⟨p3, 0, none⟩ = some (.slice A l.length cp)) :
    Calls Try.prog 22 #[.func (.func 23) #[] #[.pointer (some ⟨p5, 0, none⟩), .pointer (some ⟨p3, 0, none⟩)]] w fun e w' =>
      e = .returned (.tuple #[.agg #[.int .i64 ((doL bp.isNone d 1 l).2.2.getD 0)], .bool (doL bp.isNone d 1 l).2.2.isSome]) ∧
      Carry tb B bp v ns d m w (doL bp.isNone d 1 l).1 (doL bp.isNone d 1 l).2.1 w' := by
  have kW : Kept (fun _ => False) w (caughtW w) := ((Kept.refl _ w).alloc _).alloc _
  have hf : Whole (caughtW w) w.heap.size 53 #[.int .i64 0] := Kept.whole ((Kept.refl (fun _ => False) _).alloc _) (Whole.new w 53 #[.int .i64 0]) id
  have hg : Whole (caughtW w) (w.heap.size + 1) 4 #[.bool false] := by
    have h := Whole.new (w.alloc (.cells #[.int .i64 0] 53)) 4 #[.bool false]
    rw [World.size_alloc] at h
    exact h
  have hlt := ht.1.lt
  have hW := H v ns d m A cp 1 (caughtW w) (ht.kept kW id fun _ _ => id) (hb.kept kW fun _ _ => id) (hs.kept kW fun _ _ => id) hc hd (by omega)
  have hdo := play1_any p3 p5 tb A l.length cp _ (caughtW w) _ (kW.cell h5 id) (kW.cell h3 id) hW
  have hbl : ∀ b, bp = some b → b < w.heap.size := fun b e => (hb b e).lt
  have hvl : ∀ k, v.ownBlock = some k → k < w.heap.size := fun k e => own_at ht.2 e
  have hfin : ∀ w2 w', Carry tb B bp v ns d m (caughtW w) (doL bp.isNone d 1 l).1 (doL bp.isNone d 1 l).2.1 w2 → Kept (fun k => k = w.heap.size ∨ k = w.heap.size + 1) w2 w' →
      Carry tb B bp v ns d m w (doL bp.isNone d 1 l).1 (doL bp.isNone d 1 l).2.1 w' := by
    rintro w2 w' ⟨v2, t2, b2, k2, o2⟩ k3
    have hsz : (caughtW w).heap.size = w.heap.size + 2 := by simp [caughtW]
    refine ⟨v2, t2.kept k3 ?_ ?_, b2.kept k3 ?_, ((kW.mono fun _ _ h => h.elim).trans k2).on k3 ?_, ?_⟩
    · omega
    · rintro k hk h
      rcases o2 with o | ⟨j, hj, o⟩
      · rw [o] at hk
        have := hvl k hk
        omega
      · rw [o] at hk
        cases hk
        omega
    · rintro b hb' h
      have := hbl b hb'
      omega
    · rintro k hk h
      omega
    · rcases o2 with o | ⟨j, hj, o⟩
      · exact .inl o
      · exact .inr ⟨j, by omega, o⟩
  have hkeep : ∀ w2, Carry tb B bp v ns d m (caughtW w) (doL bp.isNone d 1 l).1 (doL bp.isNone d 1 l).2.1 w2 → Whole w2 w.heap.size 53 #[.int .i64 0] ∧ Whole w2 (w.heap.size + 1) 4 #[.bool false] := by
    rintro w2 ⟨v2, t2, b2, k2, o2⟩
    have hn : ∀ j, w.heap.size ≤ j → ¬ doS_ tb bp v j := by
      rintro j hj (h | h | h)
      · omega
      · have := hbl j h
        omega
      · have := hvl j h
        omega
    exact ⟨k2.whole hf (hn _ (by omega)), k2.whole hg (hn _ (by omega))⟩
  rcases eo : (doL bp.isNone d 1 l).2.2 with _ | c
  · refine (caught_ret2 _ _ w _ (hdo.mono fun e w' h => ⟨h.1.trans (by rw [eo]; rfl), h.2, hkeep w' h.2⟩)).mono ?_
    rintro e w' ⟨rfl, w2, hR, hk⟩
    exact ⟨rfl, hfin w2 w' hR hk⟩
  · refine (caught_pan2 _ _ c w _ (hdo.mono fun e w' h => ⟨h.1.trans (by rw [eo]; rfl), h.2, hkeep w' h.2⟩)).mono ?_
    rintro e w' ⟨rfl, w2, hR, hk⟩
    exact ⟨rfl, hfin w2 w' hR hk⟩

/-- What Play answers, and what it leaves. -/
def PlayPost (bp : Option Nat) (d m : Nat) (r : Came) (w : World) (e : Ending) (w' : World) : Prop :=
  ∃ v', e = .returned (.agg #[v', .int .i64 (r.2.2.getD 0), .bool r.2.2.isSome]) ∧ w'.ownsRow w.heap.size 3 1 v' r.1.length (intsV r.1) ∧ Book bp w' d (max m r.2.1) ∧ Kept (lendS bp) w w'

set_option maxHeartbeats 2000000 in
theorem play_any {N : Nat → Prop} (bp : Option Nat) (d m : Nat) (A : Option Addr) (cp : Nat) (l : List Stp) (w : World) (hb : Book bp w d m) (hs : StpsAt N w A 0 l) (hN : ∀ k, N k → k < w.heap.size ∧ bp ≠ some k) (hc : cntL l < 1099511627776) (hd : d ≤ 1) :
    Calls Try.prog 11 #[bptr bp, .slice A l.length cp] w (PlayPost bp d m (doL bp.isNone d 1 l) w) := by
  have hbl : ∀ b, bp = some b → b < w.heap.size := fun b e => (hb b e).lt
  have hok : DoOK N (w.heap.size + 2) w.heap.size bp l := do_any (by omega) hbl hN (cntL l + 1) l (by omega)
  have hmf : ∀ (fn : Fn) (first cap : Array Value) (w : World), (Instr.makeFunc fn first cap).run Try.prog w = .ok (.func fn first cap) w := fun _ _ _ _ => rfl
  have hhb : bptr bp = .pointer (bp.map fun b => ⟨b, 0, none⟩) := rfl
  rw [hhb]
  obtain ⟨bq, hbq⟩ : ∃ q : Option Addr, q = bp.map fun b => ⟨b, 0, none⟩ := ⟨_, rfl⟩
  rw [← hbq] at hhb ⊢
  have HHB := Lib.hid hhb
  have HOK := Lib.hid hok
  have HB := Lib.hid hb
  have HS := Lib.hid hs
  have HN := Lib.hid hN
  have HBL := Lib.hid hbl
  clear hb hs hN hok hbl hbq hhb
  go_enter Try.func11, Try.ntmps11
  go_wp2_with fail
  have hW : ∃ W, W = (((w.alloc (.cells #[.slice A l.length cp] 32)).alloc (.cells #[.slice none 0 0, .int .i64 0, .bool false] 30)).alloc (.cells #[.pointer bq, .slice none 0 0] 51)).alloc (.cells #[.pointer (some ⟨w.heap.size + 1 + 1, 0, none⟩)] 49) := ⟨_, rfl⟩
  obtain ⟨W, hW⟩ := hW
  have k0 : Kept (fun _ => False) w W := hW ▸ ((((Kept.refl _ w).alloc _).alloc _).alloc _).alloc _
  have hsz : W.heap.size = w.heap.size + 4 := by rw [hW]; simp
  have g0 : Whole W w.heap.size 32 #[.slice A l.length cp] := by
    rw [hW]
    exact Kept.whole (S := fun _ => False) ((((Kept.refl _ _).alloc _).alloc _).alloc _) (Whole.new w _ _) id
  have g1 : Whole W (w.heap.size + 1) 30 #[.slice none 0 0, .int .i64 0, .bool false] := by
    have h := Whole.new (w.alloc (.cells #[.slice A l.length cp] 32)) 30 #[.slice none 0 0, .int .i64 0, .bool false]
    rw [World.size_alloc] at h
    rw [hW]
    exact Kept.whole (S := fun _ => False) (((Kept.refl _ _).alloc _).alloc _) h id
  have g2 : Whole W (w.heap.size + 1 + 1) 51 #[.pointer bq, .slice none 0 0] := by
    have h := Whole.new ((w.alloc (.cells #[.slice A l.length cp] 32)).alloc (.cells #[.slice none 0 0, .int .i64 0, .bool false] 30)) 51 #[.pointer bq, .slice none 0 0]
    rw [World.size_alloc, World.size_alloc] at h
    rw [hW]
    exact Kept.whole (S := fun _ => False) ((Kept.refl _ _).alloc _) h id
  have g3 : Whole W (w.heap.size + 1 + 1 + 1) 49 #[.pointer (some ⟨w.heap.size + 1 + 1, 0, none⟩)] := by
    have h := Whole.new (((w.alloc (.cells #[.slice A l.length cp] 32)).alloc (.cells #[.slice none 0 0, .int .i64 0, .bool false] 30)).alloc (.cells #[.pointer bq, .slice none 0 0] 51)) 49 #[.pointer (some ⟨w.heap.size + 1 + 1, 0, none⟩)]
    rw [World.size_alloc, World.size_alloc, World.size_alloc] at h
    rw [hW]
    exact h
  rw [← hW]
  clear hW
  have hT : Teller (w.heap.size + 2) w.heap.size bp (.slice none 0 0) [] W := ⟨by
    rw [HHB.out]
    exact g2, own_nil _ _ _ _⟩
  have hcp := caught_play HOK.out (by omega) (.slice none 0 0) [] d m A cp w.heap.size (w.heap.size + 1 + 1 + 1) W hT (HB.out.kept k0 fun _ _ => id) (HS.out.kept k0 fun _ _ => id) (by simpa using hc) hd (g3.cell 0) (g0.cell 0)
  obtain ⟨co, hco⟩ : ∃ x, x = (doL bp.isNone d 1 l).2.2.getD 0 := ⟨_, rfl⟩
  obtain ⟨eo, heo⟩ : ∃ x, x = (doL bp.isNone d 1 l).2.2.isSome := ⟨_, rfl⟩
  rw [← hco, ← heo] at hcp
  refine hcp.mono ?_
  rintro e w2 ⟨rfl, v2, t2, b2, k2, o2⟩
  have hno : ∀ j, w.heap.size ≤ j → j ≠ w.heap.size + 2 → ¬ doS_ (w.heap.size + 2) bp (.slice none 0 0) j := by
    rintro j hj hne (h | h | h)
    · exact hne h
    · have := HBL.out j h
      omega
    · simp [Value.ownBlock] at h
  have g1' := k2.whole g1 (hno _ (by omega) (by omega))
  have g3' := k2.whole g3 (hno _ (by omega) (by omega))
  have kf : Kept (fun _ => False) w2 (w2.alloc (.cells #[.int .i64 co] 53)) := (Kept.refl _ _).alloc _
  have hfin : ∀ w3, Kept (fun k => k = w.heap.size + 1) (w2.alloc (.cells #[.int .i64 co] 53)) w3 → v2.ownBlock ≠ some (w.heap.size + 1) → w3.ownsRow w.heap.size 3 1 v2 (doL bp.isNone d 1 l).1.length (intsV (doL bp.isNone d 1 l).1) ∧ Book bp w3 d (max m (doL bp.isNone d 1 l).2.1) ∧ Kept (lendS bp) w w3 := by
    intro w3 k3 hv
    refine ⟨own_kept k3 (own_kept kf t2.2 fun _ _ => id) ?_, (b2.kept kf fun _ _ => id).kept k3 ?_, (((k0.mono fun _ _ h => h.elim).on k2 ?_).trans (kf.mono fun _ _ h => h.elim)).on k3 ?_⟩
    · rintro k hk rfl
      exact hv hk
    · rintro b hb' h
      have := HBL.out b hb'
      omega
    · rintro k hk (h | h | h)
      · omega
      · exact h
      · simp [Value.ownBlock] at h
    · rintro k hk h
      omega
  have hv2 : v2.ownBlock ≠ some (w.heap.size + 1) := Lib.ownBlock_ne t2.2 g1' (by decide)
  obtain ⟨A2, c2, hv2s, _⟩ := own_row t2.2
  have ct : (w2.alloc (.cells #[.int .i64 co] 53)).cell? ⟨w.heap.size + 1 + 1 + 1, 0, none⟩ = some (.pointer (some ⟨w.heap.size + 1 + 1, 0, none⟩)) := (kf.whole g3' id).cell 0
  have cn : (w2.alloc (.cells #[.int .i64 co] 53)).cell? ⟨w.heap.size + 1 + 1, 1, none⟩ = some v2 := (kf.whole t2.1 id).cell 1
  have ca : (w2.alloc (.cells #[.int .i64 co] 53)).cell? ⟨w2.heap.size, 0, none⟩ = some (.int .i64 co) := (Whole.new w2 53 #[.int .i64 co]).cell 0
  have s0 : (w2.alloc (.cells #[.int .i64 co] 53)).cell? ⟨w.heap.size + 1, 0, none⟩ = some (.slice none 0 0) := (kf.whole g1' id).cell 0
  have s1 : (w2.alloc (.cells #[.int .i64 co] 53)).cell? ⟨w.heap.size + 1, 1, none⟩ = some (.int .i64 0) := (kf.whole g1' id).cell 1
  have s2 : (w2.alloc (.cells #[.int .i64 co] 53)).cell? ⟨w.heap.size + 1, 2, none⟩ = some (.bool false) := (kf.whole g1' id).cell 2
  have f0 := (kf.whole g1' id).frozen 0
  have f1 := (kf.whole g1' id).frozen 1
  have f2 := (kf.whole g1' id).frozen 2
  rw [hv2s] at cn
  have GW := Lib.hid (kf.whole g1' id)
  have HFIN := Lib.hid hfin
  have HV2 := Lib.hid hv2
  have HV2S := Lib.hid hv2s
  have HCO := Lib.hid hco
  have HEO := Lib.hid heo
  clear hfin hv2 hv2s kf g1' g3' g0 g1 g2 g3 t2 b2 k2 o2 hT hcp k0 hno hco heo
  go_wp2_with fail
  go_region
  go_wp2_with fail
  try simp only [Exit.inBlock, Exit.then]
  refine bodyPost_ret (results_cell_row rfl _ _ (w.heap.size + 1) 30 #[.slice A2 ([] ++ (doL bp.isNone d 1 l).1).length c2, .int .i64 co, .bool eo] (0, 0) _ rfl ?hw Try.underlying30 rfl (by kernel_rfl)) rfl ?_
  case hw => exact ((GW.out.put 0 _).put 1 _).put 2 _
  have hk := HFIN.out _ (((((Kept.refl (fun k => k = w.heap.size + 1) (w2.alloc (.cells #[.int .i64 co] 53))).setCell (p := ⟨w.heap.size + 1, 0, none⟩) (.inl rfl) (.slice A2 ([] ++ (doL bp.isNone d 1 l).1).length c2)).setCell (p := ⟨w.heap.size + 1, 1, none⟩) (.inl rfl) (.int .i64 co)).setCell (p := ⟨w.heap.size + 1, 2, none⟩) (.inl rfl) (.bool eo)).drew) HV2.out
  refine ⟨v2, by rw [HV2S.out, HCO.out, HEO.out], hk⟩

end Go.Proofs.Ytopmcjpnfnfjiaa
