/-
  The walks of lists.Get: a slab's head. No condition but what the mirror asks.
  The walk of lists.Get. No condition but what the mirror asks.
-/
import Derived.Test.YtoafmlegamjlpaaGreatDoorKG
namespace Go.Cap
/-- A slab's head. -/
structure Sl where
  cls : Nat
  live : Nat
  free : Nat
  next : Nat
  prev : Nat
def getM (s : Nat) (m : Mm) : Option Sl := (partM s 0 2 m).bind fun c => (partM s 2 2 m).bind fun l => (partM s 4 4 m).bind fun f => (partM s 8 4 m).bind fun n => (partM s 12 4 m).bind fun p => some ⟨c, l, f, n, p⟩
end Go.Cap
namespace Go.Proofs.YtoafmlegamjlpaaGreatDoor
open Go.RowKit Go.Colm Go.Cap Go.Maps
set_option linter.unusedVariables false
set_option linter.unusedSimpArgs false
theorem results_cell_row2 {P : Program} {fn : Func} {p u : Tmp} {ty : TypeId} (h : fn.results = #[.cell p ty, .tmp u]) (tmps : Array Value) (w : World) (g : Nat) (t : TypeId) (cs : Array Value) (fr : Nat × Nat) (d : TypeDesc)
    (hp : tmps.getD p undef = .pointer (some ⟨g, 0, none⟩)) (hg : w.heap[g]? = some (.cells cs t fr))
    (hu : P.underlying ty = some d) (hd : (match d with | .struct _ | .array _ _ => true | _ => false) = true) (hi : (P.info? ty).map (·.size) = some cs.size) :
    (results fn tmps).run P w = .ok (.tuple #[.agg cs, tmps.getD u undef]) w := by
  rw [results_cell_tmp h, hp]
  simp [asAddr, run_loadVar_row w g t ty cs fr d hg hu hd hi, Result.andThen]
section
variable {Λ : MLay} {μ : Mm} {w : World}
theorem partM_some {s off b v : Nat} (h : partM s off b μ = some v) : s < μ.slabs ∧ μ.ld (128 + s * 16 + off) b 3 = some v := by
  unfold partM at h
  split at h
  · exact ⟨by assumption, h⟩
  · cases h
theorem partM_lt {s off b v : Nat} (h : partM s off b μ = some v) : v < 256 ^ b := ld_lt (partM_some h).2
set_option maxHeartbeats 1600000 in
theorem lpart_ok (h : HasM Λ μ w) (s off b v : Nat) (ho : off ≤ 16) (hb4 : b ≤ 4) (hv : partM s off b μ = some v) : Calls Tryz.prog 231 #[.pointer (some ⟨Λ.mb, 0, none⟩), .int .i64 (s : Int), .int .i64 (off : Int), .int .i64 (b : Int)] w fun e w' => e = .returned (.int .i64 (v : Int)) ∧ MG Λ w μ w' := by
  obtain ⟨hs, hld⟩ := partM_some hv
  have hv4 : v < 4294967296 := Nat.lt_of_lt_of_le (partM_lt hv) (by have := Nat.pow_le_pow_right (n := 256) (by decide) hb4; exact this)
  have HC := Lib.hid (config_any h)
  have HH := Lib.hid (fun W (hb : Below w.heap.size w W) => headAt_any μ.slabs μ.slots s W (h.env.below hb).szs h.ok hs)
  have hm := fun W (hg : MG Λ w μ W) => mload_ok hg.has (128 + s * 16 + off) b 3 v hld
  have h64 := h.cf.2.1
  rw [show ((128 + s * 16 + off : Nat) : Int) = 128 + (s : Int) * 16 + (off : Int) by omega] at hm
  simp only [show ((128 + s * 16 : Nat) : Int) = 128 + (s : Int) * 16 by omega] at HH
  have HM := Lib.hid hm
  have HG := Lib.hid (MG.refl h)
  have hs64 : s < 64 := by omega
  clear h hv hld hm hs h64
  go_enter Tryz.func231, Tryz.ntmps231
  go_wp2_with fail
  refine HC.out.mono ?_
  rintro e w1 ⟨rfl, hb1⟩
  have HB1 := Lib.hid hb1
  clear hb1
  go_wp2_with fail
  refine (HH.out _ HB1.out).mono ?_
  rintro e w2 ⟨rfl, hb2⟩
  have HG2 := Lib.hid (HG.out.below (below_chain HB1.out hb2))
  clear hb2
  go_wp2_with fail
  refine (HM.out _ HG2.out).mono ?_
  rintro e w3 ⟨rfl, hg3⟩
  have HG3 := Lib.hid (HG2.out.trans hg3)
  clear hg3
  go_wp2_with fail
  go_ret
  exact ⟨rfl, HG3.out⟩
set_option maxHeartbeats 1600000 in
theorem lhas_ok (h : HasM Λ μ w) (s : Nat) (hs : s < μ.slabs) : Calls Tryz.prog 230 #[.pointer (some ⟨Λ.mb, 0, none⟩), .int .i64 (s : Int)] w fun e w' => e = .returned (.bool true) ∧ Below w.heap.size w w' := by
  have HC := Lib.hid (config_any h)
  obtain ⟨a, ha⟩ : ∃ a, a = μ.slabs := ⟨_, rfl⟩
  rw [← ha] at HC hs
  have e1 : decide ((s : Int) < (a : Int)) = true := by simp; omega
  have e2 : decide (s < a) = true := by simp; omega
  have e3 : decide ((0 : Int) ≤ (s : Int)) = true := by simp
  clear h ha
  go_enter Tryz.func230, Tryz.ntmps230
  go_wp2_with fail
  refine HC.out.mono ?_
  rintro e w1 ⟨rfl, hb1⟩
  go_wp2_with fail
  go_ret
  exact ⟨rfl, hb1⟩
end
end Go.Proofs.YtoafmlegamjlpaaGreatDoor
namespace Go.Proofs.YtoafmlegamjlpaaGreatDoor
open Go.RowKit Go.Colm Go.Cap Go.Maps
set_option linter.unusedVariables false
set_option linter.unusedSimpArgs false
section
variable {Λ : MLay} {μ : Mm} {w : World}
def slV (x : Sl) : Array Value := #[.int .i64 (x.cls : Int), .int .i64 (x.live : Int), .int .u32 (x.free : Int), .int .i64 (x.next : Int), .int .i64 (x.prev : Int)]
theorem place5 {w : World} {rb : Nat} {T : TypeId} {a0 a1 a2 a3 a4 : Value} (h : Whole w rb T #[a0, a1, a2, a3, a4]) (x0 x1 x2 x3 x4 : Value) : Whole (((((w.setCell ⟨rb, 0, none⟩ x0).setCell ⟨rb, 1, none⟩ x1).setCell ⟨rb, 2, none⟩ x2).setCell ⟨rb, 3, none⟩ x3).setCell ⟨rb, 4, none⟩ x4) rb T #[x0, x1, x2, x3, x4] := by
  have h0 := h.put 0 x0
  have h1 := h0.put 1 x1
  have h2 := h1.put 2 x2
  have h3 := h2.put 3 x3
  have h4 := h3.put 4 x4
  exact h4
/-- A new block beside the memory turns. -/
theorem MG.box {μ0 : Mm} {w1 : World} (h0 : HasM Λ μ0 w) (h : MG Λ w μ w1) {p : Addr} (hp : w.heap.size ≤ p.block) (u : Value) : MG Λ w μ (w1.setCell p u) :=
  ⟨h.has.kept (S := fun k => k = p.block) ((Kept.refl (fun k => k = p.block) w1).setCell (.inl rfl) u) (fun k hk e => by
    have := h0.lt hk
    omega), h.kept.setCell (.inr hp) u⟩
set_option maxHeartbeats 3200000 in
theorem lget_ok (h : HasM Λ μ w) (s : Nat) (x : Sl) (hv : getM s μ = some x) : Calls Tryz.prog 173 #[.pointer (some ⟨Λ.mb, 0, none⟩), .int .i64 (s : Int)] w fun e w' => e = .returned (.tuple #[.agg (slV x), .int .i64 0]) ∧ MG Λ w μ w' := by
  unfold getM at hv
  obtain ⟨c, h1, hv⟩ := Option.bind_eq_some_iff.1 hv
  obtain ⟨l, h2, hv⟩ := Option.bind_eq_some_iff.1 hv
  obtain ⟨f, h3, hv⟩ := Option.bind_eq_some_iff.1 hv
  obtain ⟨n, h4, hv⟩ := Option.bind_eq_some_iff.1 hv
  obtain ⟨p, h5, hv⟩ := Option.bind_eq_some_iff.1 hv
  obtain rfl := Option.some.inj hv
  obtain ⟨w0, hw0⟩ : ∃ w0, w0 = w.alloc (.cells #[.int .i64 0, .int .i64 0, .int .u32 0, .int .i64 0, .int .i64 0] 224) := ⟨_, rfl⟩
  have hb0 : Below w.heap.size w w0 := by rw [hw0]; exact (Below.refl _ w).alloc (Nat.le_refl _) _
  have hr0 : Whole w0 w.heap.size 224 #[.int .i64 0, .int .i64 0, .int .u32 0, .int .i64 0, .int .i64 0] := by rw [hw0]; exact Whole.new w _ _
  have hss := (partM_some h1).1
  have HMD := Lib.hid (lmade_any (h.below hb0))
  have HHS := Lib.hid (fun W (hb : Below w.heap.size w W) => lhas_ok (h.below hb) s hss)
  have HP1 := Lib.hid (fun W (hg : MG Λ w μ W) => lpart_ok hg.has s 0 2 c (by omega) (by omega) h1)
  have HP2 := Lib.hid (fun W (hg : MG Λ w μ W) => lpart_ok hg.has s 2 2 l (by omega) (by omega) h2)
  have HP3 := Lib.hid (fun W (hg : MG Λ w μ W) => lpart_ok hg.has s 4 4 f (by omega) (by omega) h3)
  have HP4 := Lib.hid (fun W (hg : MG Λ w μ W) => lpart_ok hg.has s 8 4 n (by omega) (by omega) h4)
  have HP5 := Lib.hid (fun W (hg : MG Λ w μ W) => lpart_ok hg.has s 12 4 p (by omega) (by omega) h5)
  have hf : f < 4294967296 := partM_lt h3
  have HB0 := Lib.hid hb0
  have HR0 := Lib.hid hr0
  have HG := Lib.hid (MG.refl h)
  have HNO : Hid (¬ MOwn Λ w.heap.size) := Lib.hid (fun hk => by
    rcases hk with e | e | e
    · exact absurd (h.lt (.inr (.inl rfl))) (by rw [← e]; exact Nat.lt_irrefl _)
    · exact absurd (h.lt (.inr (.inr (.inr (.inl rfl))))) (by rw [← e]; exact Nat.lt_irrefl _)
    · exact absurd (h.lt (.inr (.inr (.inr (.inr (.inl rfl)))))) (by rw [← e]; exact Nat.lt_irrefl _))
  clear h hv h1 h2 h3 h4 h5 hb0 hr0 hss
  go_enter Tryz.func173, Tryz.ntmps173
  go_upto_region 1 with fail
  rw [← hw0]
  clear hw0
  go_wp2_with fail
  refine HMD.out.mono ?_
  rintro e w1 ⟨rfl, hb1⟩
  have HB1 := Lib.hid (below_chain HB0.out hb1)
  have HR1 := Lib.hid ((hb1.block _ HR0.out.lt).trans HR0.out)
  clear hb1
  go_wp2_with fail
  refine (HHS.out _ HB1.out).mono ?_
  rintro e w2 ⟨rfl, hb2⟩
  have HB2 := Lib.hid (below_chain HB1.out hb2)
  have hr2 : Whole w2 w.heap.size 224 #[.int .i64 0, .int .i64 0, .int .u32 0, .int .i64 0, .int .i64 0] := (hb2.block _ (Whole.lt HR1.out)).trans HR1.out
  have HR2 := Lib.hid hr2
  have HG2 : Hid (MG Λ w μ w2) := Lib.hid (HG.out.below HB2.out)
  clear hb2 hr2
  go_wp2_with fail
  refine (HP1.out _ HG2.out).mono ?_
  rintro e w3 ⟨rfl, hg3⟩
  have HR3 := Lib.hid (hg3.kept.whole HR2.out HNO.out)
  have HG3 := Lib.hid (HG2.out.trans hg3)
  clear hg3
  go_wp2_with fail
  refine (HP2.out _ HG3.out).mono ?_
  rintro e w4 ⟨rfl, hg4⟩
  have HR4 := Lib.hid (hg4.kept.whole HR3.out HNO.out)
  have HG4 := Lib.hid (HG3.out.trans hg4)
  clear hg4
  go_wp2_with fail
  refine (HP3.out _ HG4.out).mono ?_
  rintro e w5 ⟨rfl, hg5⟩
  have HR5 := Lib.hid (hg5.kept.whole HR4.out HNO.out)
  have HG5 := Lib.hid (HG4.out.trans hg5)
  clear hg5
  go_wp2_with fail
  refine (HP4.out _ HG5.out).mono ?_
  rintro e w6 ⟨rfl, hg6⟩
  have HR6 := Lib.hid (hg6.kept.whole HR5.out HNO.out)
  have HG6 := Lib.hid (HG5.out.trans hg6)
  clear hg6
  go_wp2_with fail
  refine (HP5.out _ HG6.out).mono ?_
  rintro e w7 ⟨rfl, hg7⟩
  have hr7 := hg7.kept.whole HR6.out HNO.out
  have HG7 := Lib.hid (HG6.out.trans hg7)
  have r0 := hr7.cell 0
  have r1 := hr7.cell 1
  have r2 := hr7.cell 2
  have r3 := hr7.cell 3
  have r4 := hr7.cell 4
  simp only [List.getElem?_toArray, List.getElem?_cons_zero, List.getElem?_cons_succ] at r0 r1 r2 r3 r4
  have s0 := hr7.frozen 0
  have s1 := hr7.frozen 1
  have s2 := hr7.frozen 2
  have s3 := hr7.frozen 3
  have s4 := hr7.frozen 4
  have HR7 := Lib.hid hr7
  clear hr7 hg7
  go_wp2_with fail
  refine bodyPost_ret (results_cell_row2 rfl _ _ w.heap.size 224 _ (0, 0) _ rfl (place5 HR7.out _ _ _ _ _) Tryz.underlying224 rfl (by kernel_rfl)) rfl ?_
  exact ⟨rfl, ((((HG7.out.box HG.out.has (Nat.le_refl _) _).box HG.out.has (Nat.le_refl _) _).box HG.out.has (Nat.le_refl _) _).box HG.out.has (Nat.le_refl _) _).box HG.out.has (Nat.le_refl _) _⟩
end
end Go.Proofs.YtoafmlegamjlpaaGreatDoor
