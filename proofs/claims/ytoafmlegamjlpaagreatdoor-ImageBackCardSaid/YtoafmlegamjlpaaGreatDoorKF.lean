/-
  The walks of layer lists: Begin and what it needs. No condition but what the mirrors ask.
  The walk of lists.Begin. No condition but what the mirror asks.
  The walks of what a new cache begins with: ring, index, node, clock, slab: Begin. No condition but what the mirrors ask.
  The walks of a new cache: ring.Begin, index.Begin, lend.New, cache.Of, New. No condition but what the mirrors ask.
-/
import Derived.Test.YtoafmlegamjlpaaGreatDoorKE
namespace Go.Proofs.YtoafmlegamjlpaaGreatDoor
open Go.RowKit Go.Colm Go.Cap Go.Maps
set_option linter.unusedVariables false
set_option linter.unusedSimpArgs false
@[go_sem] theorem cfg_slabs (x y : Int) (W : World) : (Instr.field 30 (.agg #[.int .i64 x, .int .i64 y]) 0).run Tryz.prog W = .ok (.int .i64 x) W := by
  simp [Instr.field, run_underlying Tryz.underlying30, go_sem, part, asAgg]
@[go_sem] theorem cfg_slots (x y : Int) (W : World) : (Instr.field 30 (.agg #[.int .i64 x, .int .i64 y]) 1).run Tryz.prog W = .ok (.int .i64 y) W := by
  simp [Instr.field, run_underlying Tryz.underlying30, go_sem, part, asAgg]
section
variable {Λ : MLay} {μ : Mm} {w : World}
theorem HasM.cf (h : HasM Λ μ w) : 7 ≤ μ.slabs ∧ μ.slabs ≤ 64 ∧ μ.slots ≤ 8192 ∧ μ.slabs * 32 ≤ μ.slots := by
  obtain ⟨h1, h2, h3, h4, h5⟩ := okC_iff.1 h.ok
  exact ⟨h1, h2, h5, h4⟩
set_option maxHeartbeats 800000 in
theorem lmade_any (h : HasM Λ μ w) : Calls Tryz.prog 151 #[.pointer (some ⟨Λ.mb, 0, none⟩)] w fun e w' => e = .returned (.bool true) ∧ Below w.heap.size w w' := by
  have HC := Lib.hid (config_any h)
  have h1 := h.cf.1
  obtain ⟨a, ha⟩ : ∃ a, a = μ.slabs := ⟨_, rfl⟩
  rw [← ha] at HC h1
  have e1 : decide ((0 : Int) < (a : Int)) = true := by simp; omega
  have e2 : decide (0 < a) = true := by simp; omega
  have e3 : 0 < a := by omega
  clear h ha
  go_enter Tryz.func151, Tryz.ntmps151
  go_wp2_with fail
  refine HC.out.mono ?_
  rintro e w1 ⟨rfl, hb⟩
  go_wp2_with fail
  go_ret
  exact ⟨rfl, hb⟩
theorem ld_lt {a b kind v : Nat} (h : μ.ld a b kind = some v) : v < 256 ^ b := by
  rw [(ld_some h).2]
  exact Tr.load_lt _ _ _
theorem root_lt {f v : Nat} (h : μ.root f = some v) (hf : f ≠ 16) : v < 4294967296 := by
  have := ld_lt h
  rw [Mm.rootW, if_neg hf] at this
  exact this
set_option maxHeartbeats 800000 in
theorem lfirst_ok (h : HasM Λ μ w) (c v : Nat) (hc : c < 10) (hv : μ.root (3 + c) = some v) : Calls Tryz.prog 153 #[.pointer (some ⟨Λ.mb, 0, none⟩), .int .i64 (c : Int)] w fun e w' => e = .returned (.int .i64 (v : Int)) ∧ MG Λ w μ w' := by
  have hr := root_ok h (3 + c) v (by omega) hv
  rw [show ((3 + c : Nat) : Int) = 3 + (c : Int) by omega] at hr
  have HR := Lib.hid hr
  have hv2 := root_lt hv (by omega)
  clear h hv hr
  go_enter Tryz.func153, Tryz.ntmps153
  go_wp2_with fail
  refine HR.out.mono ?_
  rintro e w1 ⟨rfl, hg⟩
  go_wp2_with fail
  go_ret
  exact ⟨rfl, hg⟩
theorem putM_some {s off b v : Nat} {μ' : Mm} (h : putM s off b v μ = some μ') : s < μ.slabs ∧ μ.st (128 + s * 16 + off) b 3 v = some μ' := by
  unfold putM at h
  split at h
  · exact ⟨by assumption, h⟩
  · cases h
theorem putM_lt {s off b v : Nat} {μ' : Mm} (h : putM s off b v μ = some μ') : v < 256 ^ b := (st_some (putM_some h).2).2.1
set_option maxHeartbeats 1600000 in
theorem lput_ok (h : HasM Λ μ w) (s off b v : Nat) (μ' : Mm) (ho : off ≤ 16) (hv : putM s off b v μ = some μ') : Calls Tryz.prog 212 #[.pointer (some ⟨Λ.mb, 0, none⟩), .int .i64 (s : Int), .int .i64 (off : Int), .int .i64 (b : Int), .int .u64 (v : Int)] w fun e w' => e = .returned (.tuple #[]) ∧ MG Λ w μ' w' := by
  obtain ⟨hs, hst⟩ := putM_some hv
  have HC := Lib.hid (config_any h)
  have HH := Lib.hid (fun W (hb : Below w.heap.size w W) => headAt_any μ.slabs μ.slots s W (h.env.below hb).szs h.ok hs)
  have hm := fun W (hg : MG Λ w μ W) => mstore_ok hg.has (128 + s * 16 + off) b 3 v μ' hst
  have h64 := h.cf.2.1
  rw [show ((128 + s * 16 + off : Nat) : Int) = 128 + (s : Int) * 16 + (off : Int) by omega] at hm
  simp only [show ((128 + s * 16 : Nat) : Int) = 128 + (s : Int) * 16 by omega] at HH
  have HM := Lib.hid hm
  have HG := Lib.hid (MG.refl h)
  have hs64 : s < 64 := by omega
  clear h hv hst hm hs h64
  go_enter Tryz.func212, Tryz.ntmps212
  go_wp2_with fail
  refine HC.out.mono ?_
  rintro e w1 ⟨rfl, hb1⟩
  have HB1 := Lib.hid hb1
  clear hb1
  go_wp2_with fail
  refine (HH.out _ HB1.out).mono ?_
  rintro e w2 ⟨rfl, hb2⟩
  have HG2 := Lib.hid (HG.out.below (below_chain HB1.out hb2))
  clear hb2
  go_wp2_with fail
  refine (HM.out _ HG2.out).mono ?_
  rintro e w3 ⟨rfl, hg3⟩
  have HG3 := Lib.hid (HG2.out.trans hg3)
  clear hg3
  go_wp2_with fail
  go_end0
  exact ⟨rfl, HG3.out⟩
set_option maxHeartbeats 1600000 in
theorem lafter_ok (h : HasM Λ μ w) (c prev next : Nat) (μ' : Mm) (hc : c < 10) (hp : prev < 4294967296) (hv : afterM c prev next μ = some μ') : Calls Tryz.prog 213 #[.pointer (some ⟨Λ.mb, 0, none⟩), .int .i64 (c : Int), .int .i64 (prev : Int), .int .i64 (next : Int)] w fun e w' => e = .returned (.tuple #[]) ∧ MG Λ w μ' w' := by
  unfold afterM at hv
  by_cases h0 : 0 < prev
  · rw [if_pos h0] at hv
    have hn : next < 4294967296 := putM_lt hv
    have hl := lput_ok h (prev - 1) 8 4 next μ' (by omega) hv
    rw [show ((prev - 1 : Nat) : Int) = (prev : Int) - 1 by omega] at hl
    have HL := Lib.hid hl
    clear h hv hl
    go_enter Tryz.func213, Tryz.ntmps213
    go_wp2_with fail
    refine HL.out.mono ?_
    rintro e w1 ⟨rfl, hg⟩
    go_wp2_with fail
    refine bodyPost_ret (results_none rfl _ _ _) rfl ?_
    exact ⟨rfl, hg⟩
  · rw [if_neg h0] at hv
    have hr := setRoot_ok h (3 + c) next μ' (by omega) hv
    have hn : next < 4294967296 := by
      have := (st_some hv).2.1
      rw [Mm.rootW, if_neg (by omega)] at this
      exact this
    rw [show ((3 + c : Nat) : Int) = 3 + (c : Int) by omega] at hr
    have HR := Lib.hid hr
    clear h hv hr
    go_enter Tryz.func213, Tryz.ntmps213
    go_wp2_with fail
    refine HR.out.mono ?_
    rintro e w1 ⟨rfl, hg⟩
    go_wp2_with fail
    go_end0
    exact ⟨rfl, hg⟩
set_option maxHeartbeats 3200000 in
theorem llink_ok (h : HasM Λ μ w) (c s prev next : Nat) (μ' : Mm) (hc : c < 10) (hp : prev < 4294967296) (hn : next < 4294967296) (hv : linkM c s prev next μ = some μ') : Calls Tryz.prog 152 #[.pointer (some ⟨Λ.mb, 0, none⟩), .int .i64 (c : Int), .int .i64 (s : Int), .int .i64 (prev : Int), .int .i64 (next : Int)] w fun e w' => e = .returned (.tuple #[]) ∧ MG Λ w μ' w' := by
  unfold linkM at hv
  obtain ⟨μ1, h1, hv⟩ := Option.bind_eq_some_iff.1 hv
  obtain ⟨μ2, h2, hv⟩ := Option.bind_eq_some_iff.1 hv
  obtain ⟨μ3, h3, hv⟩ := Option.bind_eq_some_iff.1 hv
  have hs := (putM_some h1).1
  have h64 := h.cf.2.1
  have hs64 : s < 64 := by omega
  have HL1 := Lib.hid (lput_ok h s 12 4 prev μ1 (by omega) h1)
  have HL2 := Lib.hid (fun W (hg : MG Λ w μ1 W) => lput_ok hg.has s 8 4 next μ2 (by omega) h2)
  have HL4 := Lib.hid (fun W (hg : MG Λ w μ3 W) => lafter_ok hg.has c prev (s + 1) μ' hc hp hv)
  simp only [show ((s + 1 : Nat) : Int) = (s : Int) + 1 by omega] at HL4
  by_cases h0 : 0 < next
  · rw [if_pos h0] at h3
    have hl := fun W (hg : MG Λ w μ2 W) => lput_ok hg.has (next - 1) 12 4 (s + 1) μ3 (by omega) h3
    simp only [show ((s + 1 : Nat) : Int) = (s : Int) + 1 by omega, show ((next - 1 : Nat) : Int) = (next : Int) - 1 by omega] at hl
    have HL3 := Lib.hid hl
    clear h hv h1 h2 h3 hl hs h64
    go_enter Tryz.func152, Tryz.ntmps152
    go_wp2_with fail
    refine HL1.out.mono ?_
    rintro e w1 ⟨rfl, hg1⟩
    have HG1 := Lib.hid hg1
    clear hg1
    go_wp2_with fail
    refine (HL2.out _ HG1.out).mono ?_
    rintro e w2 ⟨rfl, hg2⟩
    have HG2 := Lib.hid (HG1.out.trans hg2)
    clear hg2
    go_wp2_with fail
    refine (HL3.out _ HG2.out).mono ?_
    rintro e w3 ⟨rfl, hg3⟩
    have HG3 := Lib.hid (HG2.out.trans hg3)
    clear hg3
    go_wp2_with fail
    refine (HL4.out _ HG3.out).mono ?_
    rintro e w4 ⟨rfl, hg4⟩
    have HG4 := Lib.hid (HG3.out.trans hg4)
    clear hg4
    go_wp2_with fail
    go_end0
    exact ⟨rfl, HG4.out⟩
  · rw [if_neg h0] at h3
    obtain rfl := Option.some.inj h3
    clear h hv h1 h2 h3 hs h64
    go_enter Tryz.func152, Tryz.ntmps152
    go_wp2_with fail
    refine HL1.out.mono ?_
    rintro e w1 ⟨rfl, hg1⟩
    have HG1 := Lib.hid hg1
    clear hg1
    go_wp2_with fail
    refine (HL2.out _ HG1.out).mono ?_
    rintro e w2 ⟨rfl, hg2⟩
    have HG2 := Lib.hid (HG1.out.trans hg2)
    clear hg2
    go_wp2_with fail
    refine (HL4.out _ HG2.out).mono ?_
    rintro e w4 ⟨rfl, hg4⟩
    have HG4 := Lib.hid (HG2.out.trans hg4)
    clear hg4
    go_wp2_with fail
    go_end0
    exact ⟨rfl, HG4.out⟩
end
end Go.Proofs.YtoafmlegamjlpaaGreatDoor
namespace Go.Proofs.YtoafmlegamjlpaaGreatDoor
open Go.RowKit Go.Colm Go.Cap Go.Maps
set_option linter.unusedVariables false
set_option linter.unusedSimpArgs false
section
variable {Λ : MLay} {μ : Mm} {w : World}
theorem nilListsM_step {c k : Nat} {m m' : Mm} (h : nilListsM c (k + 1) m = some m') : ∃ m1, m.setRoot (3 + c) 0 = some m1 ∧ nilListsM (c + 1) k m1 = some m' := Option.bind_eq_some_iff.1 h
theorem freeSlabsM_step {k : Nat} {m m' : Mm} (h : freeSlabsM (k + 1) m = some m') : ∃ f m1, m.root 3 = some f ∧ linkM 0 k 0 f m = some m1 ∧ freeSlabsM k m1 = some m' := by
  obtain ⟨f, h1, h2⟩ := Option.bind_eq_some_iff.1 h
  obtain ⟨m1, h3, h4⟩ := Option.bind_eq_some_iff.1 h2
  exact ⟨f, m1, h1, h3, h4⟩
set_option maxHeartbeats 3200000 in
theorem lbegin_ok (h : HasM Λ μ w) (μ' : Mm) (hv : listsBeginM μ = some μ') : Calls Tryz.prog 83 #[.pointer (some ⟨Λ.mb, 0, none⟩)] w fun e w' => e = .returned (.int .i64 0) ∧ MG Λ w μ' w' := by
  unfold listsBeginM at hv
  obtain ⟨μ1, h1, hv⟩ := Option.bind_eq_some_iff.1 hv
  obtain ⟨μ2, h2, hv⟩ := Option.bind_eq_some_iff.1 hv
  have HMADE := Lib.hid (lmade_any h)
  have HC := Lib.hid (fun W (hb : Below w.heap.size w W) => config_any (h.below hb))
  have hc1 := h.cf.1
  have hc2 := h.cf.2.1
  have hz := fun W (hb : Below w.heap.size w W) => mzero_ok (h.below hb) 128 (μ.slabs * 16) 3 μ1 (by omega) h1
  simp only [show ((μ.slabs * 16 : Nat) : Int) = (μ.slabs : Int) * 16 by omega] at hz
  have HZ := Lib.hid hz
  have HG0 := Lib.hid (MG.refl h)
  have H2 := Lib.hid h2
  have HV := Lib.hid hv
  obtain ⟨n, hn⟩ : ∃ n, n = μ.slabs := ⟨_, rfl⟩
  rw [← hn] at HC HZ HV hc1 hc2
  clear h h1 h2 hv hz hn
  go_enter Tryz.func83, Tryz.ntmps83
  go_wp2_with fail
  refine HMADE.out.mono ?_
  rintro e w1 ⟨rfl, hb1⟩
  have HB1 := Lib.hid hb1
  clear hb1
  go_wp2_with fail
  refine (HC.out _ HB1.out).mono ?_
  rintro e w2 ⟨rfl, hb2⟩
  have HB2 := Lib.hid (below_chain HB1.out hb2)
  clear hb2
  go_wp2_with fail
  refine (HZ.out _ HB2.out).mono ?_
  rintro e w3 ⟨rfl, hg3⟩
  have HG3 : Hid (MG Λ w μ1 w3) := Lib.hid (MG.after HB2.out hg3)
  clear hg3
  go_wp2_with fail
  go_loopw [4, 16] (fun _ s16 wr => ∃ (j : Nat) (m : Mm), j ≤ 10 ∧ s16 = .int .i64 j ∧ Hid (nilListsM j (10 - j) m = some μ2) ∧ Hid (MG Λ w m wr)) (fun _ s16 _ => match s16 with | .int _ m => 10 - m.toNat | _ => 0)
  case atStart => exact ⟨0, μ1, by omega, rfl, H2, HG3⟩
  case round =>
    obtain ⟨j, m, hj, rfl, HN, HG⟩ := hrel
    by_cases hlt : j < 10
    · have hN := HN.out
      rw [show 10 - j = (10 - (j + 1)) + 1 by omega] at hN
      obtain ⟨m1, e1, e2⟩ := nilListsM_step hN
      have hr := setRoot_ok HG.out.has (3 + j) 0 m1 (by omega) e1
      rw [show ((3 + j : Nat) : Int) = 3 + (j : Int) by omega, show ((0 : Nat) : Int) = 0 from rfl] at hr
      have HR := Lib.hid hr
      have HN1 : Hid (nilListsM (j + 1) (10 - (j + 1)) m1 = some μ2) := Lib.hid e2
      clear hN e1 e2 hr
      go_wp2_with fail
      refine HR.out.mono ?_
      rintro e w4 ⟨rfl, hg4⟩
      have HG4 := Lib.hid (HG.out.trans hg4)
      clear hg4
      go_wp2_with fail
      go_roundw
      case rel => exact ⟨j + 1, m1, by omega, by go_num, HN1, HG4⟩
      case measure => simp; omega
    · have hj10 : j = 10 := by omega
      have HM2 : Hid (MG Λ w μ2 wr) := Lib.hid (by
        have hN := HN.out
        rw [hj10] at hN
        have e := Option.some.inj hN
        rw [← e]
        exact HG.out)
      subst hj10
      clear HN HG
      rw [show ((10 : Nat) : Int) = 10 from rfl]
      go_wp2_with fail
      go_loopw [5, 25] (fun _ s25 wz => ∃ (i : Nat) (m : Mm), i ≤ n ∧ s25 = .int .i64 i ∧ Hid (freeSlabsM (n - i) m = some μ') ∧ Hid (MG Λ w m wz)) (fun _ s25 _ => match s25 with | .int _ m => n - m.toNat | _ => 0)
      case atStart => exact ⟨0, μ2, Nat.zero_le _, rfl, HV, HM2⟩
      case round =>
        obtain ⟨i, m, hi, rfl, HN, HG⟩ := hrel
        by_cases hlt2 : i < n
        · have hN := HN.out
          rw [show n - i = (n - (i + 1)) + 1 by omega] at hN
          obtain ⟨f, m1, e0, e1, e2⟩ := freeSlabsM_step hN
          have HF := Lib.hid (lfirst_ok HG.out.has 0 f (by omega) e0)
          have hf : f < 4294967296 := root_lt e0 (by decide)
          have hl := fun W (hg : MG Λ w m W) => llink_ok hg.has 0 (n - (i + 1)) 0 f m1 (by omega) (by omega) hf e1
          simp only [show ((n - (i + 1) : Nat) : Int) = (n : Int) - 1 - (i : Int) by omega] at hl
          have HL := Lib.hid hl
          have HN1 : Hid (freeSlabsM (n - (i + 1)) m1 = some μ') := Lib.hid e2
          clear hN e0 e1 e2 hl
          go_wp2_with fail
          refine HF.out.mono ?_
          rintro e w4 ⟨rfl, hg4⟩
          have HG4 := Lib.hid (HG.out.trans hg4)
          clear hg4
          go_wp2_with fail
          refine (HL.out _ HG4.out).mono ?_
          rintro e w5 ⟨rfl, hg5⟩
          have HG5 := Lib.hid (HG4.out.trans hg5)
          clear hg5
          go_wp2_with fail
          go_roundw
          case rel => exact ⟨i + 1, m1, by omega, by go_num, HN1, HG5⟩
          case measure => simp; omega
        · have hin : i = n := by omega
          have HM3 : Hid (MG Λ w μ' wr) := Lib.hid (by
            have hN := HN.out
            rw [hin, Nat.sub_self] at hN
            have e := Option.some.inj hN
            rw [← e]
            exact HG.out)
          clear HN HG
          go_wp2_with fail
          go_ret
          exact ⟨rfl, HM3.out⟩
end
end Go.Proofs.YtoafmlegamjlpaaGreatDoor
namespace Go.Cap
def ringBeginM (m : Mm) : Option Mm := (m.setRoot 13 0).bind fun m1 => (m1.setRoot 14 0).bind fun m2 => m2.setRoot 15 0
def indexBeginM (m : Mm) : Option Mm := m.zero (slotsC m.slabs) (m.slots * 4) 4
def cacheBeginM (m : Mm) : Option Mm := (listsBeginM m).bind fun m1 => (ringBeginM m1).bind fun m2 => (indexBeginM m2).bind fun m3 => (m3.setRoot 17 0).bind fun m4 => m4.setRoot 16 0
end Go.Cap
namespace Go.Proofs.YtoafmlegamjlpaaGreatDoor
open Go.RowKit Go.Colm Go.Cap Go.Maps
set_option linter.unusedVariables false
set_option linter.unusedSimpArgs false
section
variable {Λ : MLay} {μ : Mm} {w : World}
set_option maxHeartbeats 800000 in
theorem rmade_any (h : HasM Λ μ w) : Calls Tryz.prog 84 #[.pointer (some ⟨Λ.mb, 0, none⟩)] w fun e w' => e = .returned (.bool true) ∧ Below w.heap.size w w' := by
  have HC := Lib.hid (config_any h)
  have h1 := h.cf.1
  have z : ¬ ((μ.slabs : Int) = 0) := by omega
  have z2 : ¬ (μ.slabs = 0) := by omega
  clear h h1
  go_enter Tryz.func84, Tryz.ntmps84
  go_wp2_with fail
  refine HC.out.mono ?_
  rintro e w1 ⟨rfl, hb⟩
  go_wp2_with fail
  go_ret
  exact ⟨rfl, hb⟩
set_option maxHeartbeats 800000 in
theorem nmade_any (h : HasM Λ μ w) : Calls Tryz.prog 91 #[.pointer (some ⟨Λ.mb, 0, none⟩)] w fun e w' => e = .returned (.bool true) ∧ Below w.heap.size w w' := by
  have HC := Lib.hid (config_any h)
  have h1 := h.cf.1
  have z : ¬ ((μ.slabs : Int) = 0) := by omega
  have z2 : ¬ (μ.slabs = 0) := by omega
  clear h h1
  go_enter Tryz.func91, Tryz.ntmps91
  go_wp2_with fail
  refine HC.out.mono ?_
  rintro e w1 ⟨rfl, hb⟩
  go_wp2_with fail
  go_ret
  exact ⟨rfl, hb⟩
set_option maxHeartbeats 1600000 in
theorem sbegin_ok (h : HasM Λ μ w) (μ' : Mm) (hv : listsBeginM μ = some μ') : Calls Tryz.prog 46 #[.pointer (some ⟨Λ.mb, 0, none⟩)] w fun e w' => e = .returned (.int .i64 0) ∧ MG Λ w μ' w' := by
  have HL := Lib.hid (lbegin_ok h μ' hv)
  clear h hv
  go_enter Tryz.func46, Tryz.ntmps46
  go_wp2_with fail
  refine HL.out.mono ?_
  rintro e w1 ⟨rfl, hg⟩
  go_wp2_with fail
  go_ret
  exact ⟨rfl, hg⟩
set_option maxHeartbeats 1600000 in
theorem nbegin_ok (h : HasM Λ μ w) (μ' : Mm) (hv : μ.setRoot 17 0 = some μ') : Calls Tryz.prog 49 #[.pointer (some ⟨Λ.mb, 0, none⟩)] w fun e w' => e = .returned (.int .i64 0) ∧ MG Λ w μ' w' := by
  have HM := Lib.hid (nmade_any h)
  have HS := Lib.hid (fun W (hb : Below w.heap.size w W) => setRoot_ok (h.below hb) 17 0 μ' (by omega) hv)
  clear h hv
  go_enter Tryz.func49, Tryz.ntmps49
  go_wp2_with fail
  refine HM.out.mono ?_
  rintro e w1 ⟨rfl, hb⟩
  have HB := Lib.hid hb
  clear hb
  go_wp2_with fail
  refine (HS.out _ HB.out).mono ?_
  rintro e w2 ⟨rfl, hg⟩
  have HG := Lib.hid (MG.after HB.out hg)
  clear hg
  go_wp2_with fail
  go_ret
  exact ⟨rfl, HG.out⟩
set_option maxHeartbeats 1600000 in
theorem cbegin_ok (h : HasM Λ μ w) (μ' : Mm) (hv : μ.setRoot 16 0 = some μ') : Calls Tryz.prog 50 #[.pointer (some ⟨Λ.mb, 0, none⟩)] w fun e w' => e = .returned (.int .i64 0) ∧ MG Λ w μ' w' := by
  have HC := Lib.hid (config_any h)
  have HS := Lib.hid (fun W (hb : Below w.heap.size w W) => setRoot_ok (h.below hb) 16 0 μ' (by omega) hv)
  have h1 := h.cf.1
  have z : ¬ ((μ.slabs : Int) = 0) := by omega
  have z2 : ¬ (μ.slabs = 0) := by omega
  clear h h1 hv
  go_enter Tryz.func50, Tryz.ntmps50
  go_wp2_with fail
  refine HC.out.mono ?_
  rintro e w1 ⟨rfl, hb⟩
  have HB := Lib.hid hb
  clear hb
  go_wp2_with fail
  refine (HS.out _ HB.out).mono ?_
  rintro e w2 ⟨rfl, hg⟩
  have HG := Lib.hid (MG.after HB.out hg)
  clear hg
  go_wp2_with fail
  go_ret
  exact ⟨rfl, HG.out⟩
set_option maxHeartbeats 1600000 in
theorem hand_any (mb : Nat) (w : World) : Calls Tryz.prog 154 #[.pointer (some ⟨mb, 0, none⟩)] w fun e w' => e = .returned (.agg #[.pointer (some ⟨mb, 0, none⟩), .int .i64 13]) ∧ Below w.heap.size w w' := by
  go_enter Tryz.func154, Tryz.ntmps154
  go_wp2_with fail
  refine bodyPost_ret (results_cell_row rfl _ _ w.heap.size 129 _ (0, 0) _ rfl (Whole.new w _ _) Tryz.underlying129 rfl (by kernel_rfl)) rfl ?_
  exact ⟨rfl, (Below.refl _ _).alloc (Nat.le_refl _) _⟩
set_option maxHeartbeats 1600000 in
theorem broom_any (mb : Nat) (w : World) : Calls Tryz.prog 155 #[.pointer (some ⟨mb, 0, none⟩)] w fun e w' => e = .returned (.agg #[.pointer (some ⟨mb, 0, none⟩), .int .i64 14]) ∧ Below w.heap.size w w' := by
  go_enter Tryz.func155, Tryz.ntmps155
  go_wp2_with fail
  refine bodyPost_ret (results_cell_row rfl _ _ w.heap.size 129 _ (0, 0) _ rfl (Whole.new w _ _) Tryz.underlying129 rfl (by kernel_rfl)) rfl ?_
  exact ⟨rfl, (Below.refl _ _).alloc (Nat.le_refl _) _⟩
end
end Go.Proofs.YtoafmlegamjlpaaGreatDoor
namespace Go.Proofs.YtoafmlegamjlpaaGreatDoor
open Go.RowKit Go.Colm Go.Cap Go.Maps
set_option linter.unusedVariables false
set_option linter.unusedSimpArgs false
section
variable {Λ : MLay} {μ : Mm} {w : World}
def ptrV (mb f : Nat) : Array Value := #[.pointer (some ⟨mb, 0, none⟩), .int .i64 (f : Int)]
set_option maxHeartbeats 1600000 in
theorem both_any (mb : Nat) (w : World) : Calls Tryz.prog 85 #[.pointer (some ⟨mb, 0, none⟩)] w fun e w' => ∃ g, e = .returned (.slice (some ⟨g, 0, none⟩) 2 2) ∧ w.heap.size ≤ g ∧ Whole w' g 129 #[.pointer (some ⟨mb, 0, none⟩), .int .i64 13, .pointer (some ⟨mb, 0, none⟩), .int .i64 14] ∧ Below w.heap.size w w' := by
  go_enter Tryz.func85, Tryz.ntmps85
  go_wp2_with fail
  refine (hand_any mb _).mono ?_
  rintro e w1 ⟨rfl, hb1⟩
  have HB1 := Lib.hid hb1
  clear hb1
  go_wp2_with fail
  refine (broom_any mb _).mono ?_
  rintro e w2 ⟨rfl, hb2⟩
  have HB2 := Lib.hid (below_chain HB1.out hb2)
  clear hb2
  go_wp2_with fail
  go_ret
  exact ⟨_, rfl, HB2.out.size, Whole.new w2 _ _, below_chain HB2.out ((Below.refl _ _).alloc (Nat.le_refl _) _)⟩
set_option maxHeartbeats 1600000 in
theorem pset_ok (h : HasM Λ μ w) (f v : Nat) (μ' : Mm) (hf : f < 21) (hf2 : f ≠ 16) (hv : μ.setRoot f v = some μ') : Calls Tryz.prog 86 #[.agg #[.pointer (some ⟨Λ.mb, 0, none⟩), .int .i64 (f : Int)], .int .i64 (v : Int)] w fun e w' => e = .returned (.tuple #[]) ∧ MG Λ w μ' w' := by
  have hv2 : v < 4294967296 := by
    have := (st_some hv).2.1
    rw [Mm.rootW, if_neg hf2] at this
    exact this
  obtain ⟨w0, hw0⟩ : ∃ w0, w0 = w.alloc (.cells #[.pointer (some ⟨Λ.mb, 0, none⟩), .int .i64 (f : Int)] 129) := ⟨_, rfl⟩
  have hb0 : Below w.heap.size w w0 := by rw [hw0]; exact (Below.refl _ w).alloc (Nat.le_refl _) _
  have hr0 : Whole w0 w.heap.size 129 #[.pointer (some ⟨Λ.mb, 0, none⟩), .int .i64 (f : Int)] := by rw [hw0]; exact Whole.new w _ _
  have x0 := hr0.cell 0
  have x1 := hr0.cell 1
  simp only [List.getElem?_toArray, List.getElem?_cons_zero, List.getElem?_cons_succ] at x0 x1
  have HS := Lib.hid (setRoot_ok (h.below hb0) f v μ' hf hv)
  have HB0 := Lib.hid hb0
  clear h hb0 hr0 hv hf hf2
  go_enter Tryz.func86, Tryz.ntmps86
  go_upto_region 1 with fail
  rw [← hw0]
  clear hw0
  go_wp2_with fail
  refine HS.out.mono ?_
  rintro e w1 ⟨rfl, hg⟩
  go_wp2_with fail
  go_end0
  exact ⟨rfl, MG.after HB0.out hg⟩
set_option maxHeartbeats 3200000 in
theorem rbegin_ok (h : HasM Λ μ w) (μ' : Mm) (hv : ringBeginM μ = some μ') : Calls Tryz.prog 47 #[.pointer (some ⟨Λ.mb, 0, none⟩)] w fun e w' => e = .returned (.int .i64 0) ∧ MG Λ w μ' w' := by
  unfold ringBeginM at hv
  obtain ⟨μ1, h1, hv⟩ := Option.bind_eq_some_iff.1 hv
  obtain ⟨μ2, h2, h3⟩ := Option.bind_eq_some_iff.1 hv
  have HM := Lib.hid (rmade_any h)
  have HBO := Lib.hid (fun W => both_any Λ.mb W)
  have HH := Lib.hid h
  have H1 := Lib.hid h1
  have H2 := Lib.hid h2
  have H3 := Lib.hid h3
  clear h h1 h2 h3 hv
  go_enter Tryz.func47, Tryz.ntmps47
  go_wp2_with fail
  refine HM.out.mono ?_
  rintro e w1 ⟨rfl, hb1⟩
  have HB1 := Lib.hid hb1
  clear hb1
  go_wp2_with fail
  refine (HBO.out _).mono ?_
  rintro e w2 ⟨g, rfl, hgs, hwh, hb2⟩
  have HB2 := Lib.hid (below_chain HB1.out hb2)
  have HG0 : Hid (MG Λ w μ w2) := Lib.hid (MG.below (MG.refl HH.out) HB2.out)
  have HWH := Lib.hid hwh
  have HNG : Hid (∀ k, MOwn Λ k → k ≠ g) := Lib.hid (fun k hk e => by
    have : k < w1.heap.size := by
      have h1 := HH.out.below HB1.out
      rcases hk with rfl | rfl | rfl
      · exact h1.lt (.inr (.inl rfl))
      · exact h1.lt (.inr (.inr (.inr (.inl rfl))))
      · exact h1.lt (.inr (.inr (.inr (.inr (.inl rfl)))))
    omega)
  clear hgs hwh hb2
  go_wp2_with fail
  go_loopw [4, 11] (fun _ s11 wr => ∃ (i : Nat) (m : Mm), i ≤ 2 ∧ s11 = .int .i64 i ∧ Hid (m = if i = 0 then μ else if i = 1 then μ1 else μ2) ∧ Hid (MG Λ w m wr) ∧ Hid (Kept (MOwn Λ) w2 wr)) (fun _ s11 _ => match s11 with | .int _ m => 2 - m.toNat | _ => 0)
  case atStart => exact ⟨0, μ, by omega, rfl, Lib.hid rfl, HG0, Lib.hid (Kept.refl _ _)⟩
  case round =>
    obtain ⟨i, m, hi, rfl, HE, HG, HK⟩ := hrel
    have hw := HK.out.whole HWH.out fun hk => HNG.out g hk rfl
    have hcs : i = 0 ∨ i = 1 ∨ i = 2 := by omega
    rcases hcs with rfl | rfl | rfl
    · have d0 := hw.cell 0
      have d1 := hw.cell 1
      simp only [List.getElem?_toArray, List.getElem?_cons_zero, List.getElem?_cons_succ] at d0 d1
      have em : m = μ := HE.out
      subst em
      obtain ⟨w3, hw3⟩ : ∃ w3, w3 = wr.alloc (.cells #[.pointer (some ⟨Λ.mb, 0, none⟩), .int .i64 13] 129) := ⟨_, rfl⟩
      have hb3 : Below wr.heap.size wr w3 := by rw [hw3]; exact (Below.refl _ _).alloc (Nat.le_refl _) _
      have hp := pset_ok (HG.out.has.below hb3) 13 0 μ1 (by omega) (by omega) H1.out
      have HB3 := Lib.hid hb3
      rw [hw3] at hp
      have HP := Lib.hid hp
      have HW3 := Lib.hid hw3
      clear hp hw hb3 hw3
      go_wp2_with fail
      refine HP.out.mono ?_
      rintro e w4 ⟨rfl, hg4⟩
      rw [← HW3.out] at hg4
      have HG4 := Lib.hid ((HG.out.below HB3.out).trans hg4)
      have HK4 := Lib.hid ((HK.out.trans (Kept.below HB3.out _)).trans hg4.kept)
      clear hg4
      go_wp2_with fail
      go_roundw
      case rel => exact ⟨1, μ1, by omega, rfl, Lib.hid rfl, HG4, HK4⟩
      case measure => simp
    · have d0 := hw.cell 2
      have d1 := hw.cell 3
      simp only [List.getElem?_toArray, List.getElem?_cons_zero, List.getElem?_cons_succ] at d0 d1
      have em : m = μ1 := HE.out
      subst em
      obtain ⟨w3, hw3⟩ : ∃ w3, w3 = wr.alloc (.cells #[.pointer (some ⟨Λ.mb, 0, none⟩), .int .i64 14] 129) := ⟨_, rfl⟩
      have hb3 : Below wr.heap.size wr w3 := by rw [hw3]; exact (Below.refl _ _).alloc (Nat.le_refl _) _
      have hp := pset_ok (HG.out.has.below hb3) 14 0 μ2 (by omega) (by omega) H2.out
      have HB3 := Lib.hid hb3
      rw [hw3] at hp
      have HP := Lib.hid hp
      have HW3 := Lib.hid hw3
      clear hp hw hb3 hw3
      go_wp2_with fail
      refine HP.out.mono ?_
      rintro e w4 ⟨rfl, hg4⟩
      rw [← HW3.out] at hg4
      have HG4 := Lib.hid ((HG.out.below HB3.out).trans hg4)
      have HK4 := Lib.hid ((HK.out.trans (Kept.below HB3.out _)).trans hg4.kept)
      clear hg4
      go_wp2_with fail
      go_roundw
      case rel => exact ⟨2, μ2, by omega, rfl, Lib.hid rfl, HG4, HK4⟩
      case measure => simp
    · have em : m = μ2 := HE.out
      subst em
      have HS := Lib.hid (setRoot_ok HG.out.has 15 0 μ' (by omega) H3.out)
      clear hw
      go_wp2_with fail
      refine HS.out.mono ?_
      rintro e w4 ⟨rfl, hg4⟩
      have HG4 := Lib.hid (HG.out.trans hg4)
      clear hg4
      go_wp2_with fail
      go_ret
      exact ⟨rfl, HG4.out⟩
end
end Go.Proofs.YtoafmlegamjlpaaGreatDoor
