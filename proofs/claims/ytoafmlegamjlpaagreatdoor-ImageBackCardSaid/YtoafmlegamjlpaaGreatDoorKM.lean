/-
  The walks of region's errno, Map, Restore, over free slabs. No condition but what lies there.
  The iterator over a watch's rows of one kind: its contract, for every loop body that keeps what lay below. No condition.
-/
import Derived.Test.YtoafmlegamjlpaaGreatDoorKK
import Derived.Test.YtoafmlegamjlpaaGreatDoorKL
import Derived.RangeFuncNested
import Derived.RangeFuncBound
import Derived.RangeFuncCalls
import Derived.RangeFuncLeaves
import Derived.RangeFuncBox
import Derived.RangeFuncFrom
import Derived.Shelf.Abstract
import Derived.Shelf.RegionOpen
import Derived.Sort.QuietIn
import Derived.OwnWalkIn
import Derived.TacticsInMore
import Derived.LoopNIn
import Derived.LoopIn
set_option linter.unusedVariables false
set_option linter.unusedSimpArgs false
namespace Go.Cap
/-- The kinds that runs lay over others. -/
def markL (k : Tr) (l : List Rn) : Tr := l.foldl (fun t r => t.fill (r.a / 4) (r.n / 4) r.k) k
theorem markL_take {k : Tr} {l : List Rn} {i : Nat} (h : i < l.length) : markL k (l.take (i + 1)) = (markL k (l.take i)).fill (l[i].a / 4) (l[i].n / 4) l[i].k := by
  rw [markL, List.take_succ_eq_append_getElem h, List.foldl_append]
  rfl
end Go.Cap
namespace Go.Proofs.YtoafmlegamjlpaaGreatDoor
open Go.RowKit Go.Colm Go.Cap Go.Maps
set_option linter.unusedVariables false
set_option linter.unusedSimpArgs false
set_option maxHeartbeats 800000 in
theorem rerrno_nil (w : World) : Calls Tryz.prog 102 #[.nilIface] w fun e w' => e = .returned (.int .i64 0) ∧ Below w.heap.size w w' := by
  go_enter Tryz.func102, Tryz.ntmps102
  go_wp2
  go_ret
  exact ⟨rfl, (Below.refl _ _).alloc (Nat.le_refl _) _⟩
theorem imgL_bytes (μ : Mm) : BytesOf (imgL μ) μ.b := fun i hi => by
  rw [imgL_length] at hi
  have := Tr.get_lt μ.b i
  simp only [imgL, List.getD_eq_getElem?_getD, List.getElem?_map, List.getElem?_range hi, Option.map_some, Option.getD_some, UInt8.toNat_ofNat']
  omega
section
variable {Λ : MLay} {μ : Mm} {w : World}
set_option maxRecDepth 100000 in
set_option maxHeartbeats 3200000 in
theorem map_ok (h : HasM Λ μ w) (hf : ∀ sl, sl < μ.slabs → FreeAt μ.b μ.slabs μ.slots sl) :
    Calls Tryz.prog 58 #[.pointer (some ⟨Λ.mb, 0, none⟩)] w fun e w' => ∃ v, e = .returned (.tuple #[v, .int .i64 0]) ∧ RunsOwn w.heap.size w' v (mapR μ.slabs μ.slots) ∧ Below w.heap.size w w' := by
  have HC := Lib.hid (config_any h)
  have HI := Lib.hid (fun (W : World) (hb : Below w.heap.size w W) => mimage_any (h.below hb))
  have hMP := fun (A : Option Addr) (cap : Nat) (W : World) (hb : Below w.heap.size w W) (hr : RowV W A (bytesV (imgL μ))) (hc : (imgL μ).length ≤ cap) => mapped_ok μ.slabs μ.slots A cap (imgL μ) μ.b W hr (imgL_bytes μ) (h.below hb).env.szs h.ok (imgL_length μ) hc hf
  have hcf := h.cf
  have z : ¬ ((μ.slabs : Int) = 0) := by omega
  have z2 : ¬ (μ.slabs = 0) := by omega
  rw [imgL_length] at hMP
  have HMP := Lib.hid hMP
  clear h hMP hcf hf
  go_enter Tryz.func58, Tryz.ntmps58
  go_wp2_with fail
  refine HC.out.mono ?_
  rintro e w1 ⟨rfl, hb1⟩
  obtain ⟨w2, hw2, hb2, x0, x1⟩ := cfg_box μ.slabs μ.slots w1
  have HB2 := Lib.hid (below_chain hb1 hb2)
  clear hb1 hb2
  go_upto_region 2 with fail
  rw [← hw2]
  clear hw2
  go_wp2_with fail
  have hs0 := held2_0 x0 x1
  go_region_held3 (fun w' => Below w2.heap.size w2 w' ∧ w'.cell? ⟨w1.heap.size, 0, none⟩ = some (.int .i64 (μ.slabs : Int)) ∧ w'.cell? ⟨w1.heap.size, 1, none⟩ = some (.int .i64 (μ.slots : Int)))
    (first | exact hs0 | assumption | exact held2 (by assumption) (by assumption))
    (first
      | ((go_at_call 18; with_reducible refine (HI.out _ (below_chain HB2.out (And.left (by assumption)))).mono ?_); rintro e w3 ⟨u, rfl, hu, hb3⟩; obtain ⟨A, c, rfl, hcap, hrow⟩ := own_cap hu)
      | ((go_at_call 101; with_reducible refine (HMP.out A c _ (below_chain (below_chain HB2.out (Below.refl _ _).drew) hb3) hrow.row hcap).mono ?_); rintro e w4 ⟨v, rfl, hv, hb4⟩))
  have HB3 := Lib.hid (below_chain (below_chain HB2.out (Below.refl _ _).drew) hb3)
  have HV := Lib.hid hv
  have HB4 := Lib.hid (below_chain HB3.out hb4)
  clear hv hb4 hb3 hu hcap hrow hs0
  go_wp2_with fail
  refine (rerrno_nil _).mono ?_
  rintro e w5 ⟨rfl, hb5⟩
  have HF : Hid (RunsOwn w.heap.size w5 v (mapR μ.slabs μ.slots) ∧ Below w.heap.size w w5) := Lib.hid ⟨own_stays (own_base HV.out HB3.out.size) (Kept.below hb5 fun _ => False) (fun _ _ => id), below_chain HB4.out hb5⟩
  clear hb5
  go_wp2_with fail
  go_ret2
  exact ⟨v, rfl, HF.out⟩
end
set_option maxRecDepth 100000 in
set_option maxHeartbeats 6400000 in
theorem restore_ok (s n : Nat) (A : Option Addr) (cap : Nat) (b : List UInt8) (t : Tr) (w : World) (he : EnvC w) (ok : okC s n = true) (hr : RowV w A (bytesV b)) (hlen : b.length = sizeC s n) (ht : BytesOf b t)
    (l8 : t.load 8 4 = 1129270338) (l12 : t.load 12 4 = s) (l16 : t.load 16 4 = n) (hf : ∀ sl, sl < s → FreeAt t s n sl)
    (hm : ∀ r ∈ mapR s n, r.a % 4 = 0 ∧ r.n % 4 = 0 ∧ r.a + r.n ≤ sizeC s n ∧ r.k ≤ 8) (hml : (mapR s n).length ≤ 100 ∧ 1 ≤ (mapR s n).length) :
    Calls Tryz.prog 35 #[.agg #[.int .i64 (s : Int), .int .i64 (n : Int)], .slice A b.length cap] w fun e w' => ∃ Λ : MLay, e = .returned (.tuple #[.pointer (some ⟨Λ.mb, 0, none⟩), .int .i64 0]) ∧ HasM Λ ⟨s, n, t, markL (kindsL (runsC s n)) (mapR s n)⟩ w' ∧ MFrom w.heap.size Λ ∧ Below w.heap.size w w' := by
  obtain ⟨w0, hw0, hb0, x0, x1⟩ := cfg_box s n w
  have HFR := Lib.hid (from_ok s n A cap b t w0 (he.below hb0) ok (hr.below hb0) hlen ht l8 l12 l16)
  have HB0 := Lib.hid hb0
  have HMAP := Lib.hid (fun Λ (W : World) (h : HasM Λ ⟨s, n, t, kindsL (runsC s n)⟩ W) => map_ok h hf)
  dsimp only at HMAP
  have HM := Lib.hid hm
  have hz := (sizeC_le ok).1
  obtain ⟨L, hL⟩ : ∃ L, L = b.length := ⟨_, rfl⟩
  rw [← hL] at HFR ⊢
  obtain ⟨ml, hmlE⟩ : ∃ ml, ml = mapR s n := ⟨_, rfl⟩
  rw [← hmlE] at HMAP HM hml ⊢
  clear hb0 he ok hr hlen ht l8 l12 l16 hf hm hL
  go_enter Tryz.func35, Tryz.ntmps35
  go_upto_region 1 with fail
  rw [← hw0]
  clear hw0
  go_wp2_with fail
  refine HFR.out.mono ?_
  rintro e w1 ⟨Λ, rfl, hm1, hfr, hb1⟩
  have HM1 := Lib.hid hm1
  have HFF := Lib.hid hfr
  have HB1 := Lib.hid (below_chain HB0.out hb1)
  have HMP := Lib.hid (HMAP.out Λ w1 hm1)
  clear hm1 hfr hb1 x0 x1 HFR HMAP
  go_wp2_with fail
  refine HMP.out.mono ?_
  rintro e w2 ⟨v, rfl, hv, hb2⟩
  obtain ⟨A2, c2, rfl⟩ := hv.slice
  obtain ⟨G, hA, hG, hcap, hcell⟩ := own_cells hv hml.2 (by decide)
  subst hA
  have hGl := (own_ge (k := G) hv (by rfl)).2
  have HC := Lib.hid hcell
  have HG0 : Hid (MG Λ w2 ⟨s, n, t, markL (kindsL (runsC s n)) (ml.take 0)⟩ w2) := Lib.hid (MG.refl (HM1.out.below hb2))
  have HB2 := Lib.hid (below_chain HB1.out hb2)
  have HNG : Hid (¬ MOwn Λ G) := Lib.hid (HM1.out.own_not hG)
  obtain ⟨ll, hll⟩ : ∃ ll, ll = ml.length := ⟨_, rfl⟩
  have HLL := Lib.hid hll
  rw [← hll] at hml ⊢
  obtain ⟨hl100, hl1⟩ := hml
  clear hv hb2 hcell hG hcap hll hGl HMP
  go_wp2_with fail
  go_loopw [10, 30] (fun _ s30 wr => ∃ i : Nat, i ≤ ll ∧ s30 = .int .i64 i ∧ Hid (MG Λ w2 ⟨s, n, t, markL (kindsL (runsC s n)) (ml.take i)⟩ wr)) (fun _ s30 _ => match s30 with | .int _ m => ll - m.toNat | _ => 0)
  case atStart => exact ⟨0, Nat.zero_le _, rfl, HG0⟩
  case round =>
    obtain ⟨i, hi, rfl, HG⟩ := hrel
    by_cases hlt : i < ll
    · have hlt2 : i < ml.length := by have := HLL.out; omega
      obtain ⟨g0, g1, g2⟩ := runsV_get ml i hlt2
      have d0 := HG.out.kept.cell (HC.out _ _ g0) HNG.out
      have d1 := HG.out.kept.cell (HC.out _ _ g1) HNG.out
      have d2 := HG.out.kept.cell (HC.out _ _ g2) HNG.out
      obtain ⟨f1, f2, f3, f4⟩ := HM.out ml[i] (List.getElem_mem hlt2)
      have hst : markL (kindsL (runsC s n)) (ml.take (i + 1)) = (markL (kindsL (runsC s n)) (ml.take i)).fill (ml[i].a / 4) (ml[i].n / 4) ml[i].k := markL_take hlt2
      obtain ⟨r, hr⟩ : ∃ r, r = ml[i] := ⟨_, rfl⟩
      rw [← hr] at d0 d1 d2 f1 f2 f3 f4 hst
      obtain ⟨ra, rn, rk⟩ := r
      dsimp only at d0 d1 d2 f1 f2 f3 f4 hst
      obtain ⟨w4, hw4, hb4, y0, y1, y2⟩ := run_box ⟨ra, rn, rk⟩ wr
      dsimp only at hw4 y0 y1 y2
      have HG4 := Lib.hid (HG.out.below hb4)
      have hmk := mmark_ok HG4.out.has ra rn rk ⟨s, n, t, markL (kindsL (runsC s n)) (ml.take (i + 1))⟩ (by
        rw [Mm.mark, if_pos ⟨f3, f1, f2, f4⟩, hst])
      have HMK := Lib.hid hmk
      have hrs : ra + rn ≤ 200000 := by omega
      clear hr hst hb4 hmk f1 f2 f3 f4 g0 g1 g2
      go_upto_region 10 with fail
      rw [← hw4]
      clear hw4 d0 d1 d2
      go_wp2_with fail
      refine HMK.out.mono ?_
      rintro e w5 ⟨rfl, hg5⟩
      have HG5 := Lib.hid (HG4.out.trans hg5)
      clear hg5
      go_wp2_with fail
      go_roundw
      case rel => exact ⟨i + 1, hlt, by go_num, HG5⟩
      case measure => simp; omega
    · have hii : i = ll := by omega
      have HGF : Hid (MG Λ w2 ⟨s, n, t, markL (kindsL (runsC s n)) ml⟩ wr) := Lib.hid (by
        have h := HG.out
        rw [hii, HLL.out, List.take_length] at h
        exact h)
      go_wp2_with fail
      go_ret2
      have h1 := HFF.out
      have h2 := HB0.out.size
      refine ⟨Λ, rfl, HGF.out.has, ⟨Nat.le_trans h2 h1.mb, Nat.le_trans h2 h1.wb, Nat.le_trans h2 h1.ab, Nat.le_trans h2 h1.gb, Nat.le_trans h2 h1.kb⟩, HB2.out.trans (HGF.out.kept.to_below HB2.out.size fun k hk e => ?_)⟩
      rcases e with e | e | e
      · have := h1.wb; omega
      · have := h1.gb; omega
      · have := h1.kb; omega
end Go.Proofs.YtoafmlegamjlpaaGreatDoor
namespace Go.Cap
/-- From a grain on: the first one that is of another kind. -/
def endK (t : Tr) (v qt : Nat) : Nat → Nat
  | 0 => qt
  | f + 1 => if t.get qt = v then endK t v (qt + 1) f else qt
/-- Rows of one kind, from a grain on. -/
def runsK (t : Tr) (N a : Nat) : Nat → List Rn
  | 0 => []
  | f + 1 => if a < N then ⟨4 * a, 4 * (endK t (t.get a) a (N - a) - a), t.get a⟩ :: runsK t N (endK t (t.get a) a (N - a)) f else []
theorem endK_ge (t : Tr) (v : Nat) : ∀ f qt, qt ≤ endK t v qt f ∧ endK t v qt f ≤ qt + f
  | 0, qt => ⟨Nat.le_refl _, Nat.le_refl _⟩
  | f + 1, qt => by
    obtain ⟨h1, h2⟩ := endK_ge t v f (qt + 1)
    rw [endK]
    split <;> omega
theorem endK_step {t : Tr} {v qt N : Nat} (h : qt < N) (hv : t.get qt = v) : endK t v qt (N - qt) = endK t v (qt + 1) (N - (qt + 1)) := by
  rw [show N - qt = (N - (qt + 1)) + 1 by omega, endK, if_pos hv]
theorem endK_stop {t : Tr} {v qt N : Nat} (h : qt < N) (hv : t.get qt ≠ v) : endK t v qt (N - qt) = qt := by
  rw [show N - qt = (N - (qt + 1)) + 1 by omega, endK, if_neg hv]
theorem endK_pos {t : Tr} {a N : Nat} (h : a < N) : a < endK t (t.get a) a (N - a) ∧ endK t (t.get a) a (N - a) ≤ N := by
  rw [endK_step h rfl]
  have := endK_ge t (t.get a) (N - (a + 1)) (a + 1)
  omega
def allK (t : Tr) (N : Nat) : List Rn := runsK t N 0 N
end Go.Cap
namespace Go.Proofs.YtoafmlegamjlpaaGreatDoor
open Go.RowKit Go.Colm Go.Cap Go.Maps Go.Shelf
set_option linter.unusedVariables false
set_option linter.unusedSimpArgs false
attribute [local go_sem] Oper.semAt_some
/-- A place in a row of so many. -/
abbrev PlaceN (len : Nat) := { i : Nat // i < len }
/-- A run, as the iterator hands it out. -/
def runA (l : List Rn) (x : PlaceN l.length) : Value := .agg #[.int .i64 ((l[x.1]'x.2).a : Int), .int .i64 ((l[x.1]'x.2).n : Int), .int .i64 ((l[x.1]'x.2).k : Int)]
/-- What the iterator reads: its box, and a watch. -/
def KE (Bs wb kb kc N : Nat) (t : Tr) (W : World) : Prop := W.cell? ⟨Bs, 0, none⟩ = some (.pointer (some ⟨wb, 0, none⟩)) ∧ WaA wb kb kc N t W
def keepE (Bs wb kb kc N : Nat) (t : Tr) (W W' : World) : Prop := KE Bs wb kb kc N t W → KE Bs wb kb kc N t W'
theorem KE.drewN {Bs wb kb kc N : Nat} {t : Tr} {W : World} (h : KE Bs wb kb kc N t W) (n : Nat) : KE Bs wb kb kc N t (W.drewN n) := h
theorem KE.cells {Bs wb kb kc N : Nat} {t : Tr} {W : World} (h : KE Bs wb kb kc N t W) : W.cell? ⟨Bs, 0, none⟩ = some (.pointer (some ⟨wb, 0, none⟩)) ∧ W.cell? ⟨wb, 0, none⟩ = some (.slice (some ⟨kb, 0, none⟩) N kc) ∧ ∀ i, i < N → W.cell? ⟨kb, i, none⟩ = some (.int .u8 (t.get i : Int)) := by
  obtain ⟨h1, ⟨c, hn⟩, h2, _⟩ := h
  exact ⟨h1, hn.cell 0, fun i hi => h2.cell hi⟩
theorem abides_drewN {β : Type} {B : Nat} {J : β → World → Prop} (h : AbidesFrom B J) {s : β} {W : World} (hj : J s W) (n : Nat) : J s (W.drewN n) :=
  h s W _ none hj ⟨rfl, rfl, rfl, Nat.le_refl _, fun _ _ _ => rfl⟩ (fun r e => by cases e)
set_option maxRecDepth 100000 in
set_option maxHeartbeats 6400000 in
theorem each1_in (n : Nat) (hn : 1 ≤ n) (l Bs wb kb kc N : Nat) (t : Tr) (hN : N < 1000000) (B : Nat) (J Jx : List (PlaceN (allK t N).length) → World → Prop) (hJd : AbidesFrom B J)
    (hY : ∀ pre x W, J pre W → pre.length < (allK t N).length → YieldAt Fence.wide (n - 1) Tryz.prog l #[runA (allK t N) x] W fun e W' =>
      (e = .returned (.bool true) ∧ J (pre ++ [x]) W' ∧ keepE Bs wb kb kc N t W W') ∨ (e = .returned (.bool false) ∧ Jx (pre ++ [x]) W'))
    (W : World) (hK : KE Bs wb kb kc N t W) (h0 : J [] W) :
    CallsIn Fence.wide n Tryz.prog 302 #[.func (.yield l) #[] #[], .pointer (some ⟨Bs, 0, none⟩)] W fun e W' => (∃ v, e = .returned v) ∧
      ((∃ xs, xs.map (·.1) = List.range (allK t N).length ∧ J xs W') ∨ (∃ pre, (∃ k, k ≤ (allK t N).length ∧ pre.map (·.1) = List.range k) ∧ Jx pre W')) := by
  refine callsIn_of_wp Tryz.func302 rfl trivial ?_ rfl
  simp only [Tryz.ntmps302, List.size_toArray, List.length_cons, List.length_nil, Nat.reduceAdd, Nat.reduceSub, Array.replicate_succ, Array.replicate_zero, List.push_toArray, List.append_toArray, List.nil_append, List.cons_append]
  obtain ⟨R, hR⟩ : ∃ R, R = allK t N := ⟨_, rfl⟩
  have HR0 : Hid (R.drop 0 = runsK t N 0 N) := Lib.hid (by rw [hR]; rfl)
  subst hR
  have HK := Lib.hid hK
  have HJ := Lib.hid h0
  have HJD := Lib.hid hJd
  have HY := Lib.hid hY
  clear hK h0 hJd hY
  gi_wp2
  gi_loopw [3, 4] (fun s3 _ wr => ∃ (k a f : Nat) (pre : List (PlaceN (allK t N).length)), k ≤ (allK t N).length ∧ a ≤ N ∧ s3 = .int .i64 a ∧ Hid (N ≤ a + f) ∧ Hid (pre.map (·.1) = List.range k) ∧ Hid ((allK t N).drop k = runsK t N a f) ∧ Hid (J pre wr) ∧ Hid (KE Bs wb kb kc N t wr)) (fun s3 _ _ => N - (intOf s3).toNat)
  case atStart => exact ⟨0, 0, N, [], Nat.zero_le _, Nat.zero_le _, rfl, Lib.hid (by omega), Lib.hid rfl, HR0, HJ, HK⟩
  case round =>
    obtain ⟨k, a, f, pre, hk, ha, rfl, HF, HP, HD, HJ, HK⟩ := hrel
    obtain ⟨c0, c1, c2⟩ := HK.out.cells
    by_cases hlt : a < N
    · have ca := c2 a hlt
      obtain ⟨v, hv⟩ : ∃ v, v = t.get a := ⟨_, rfl⟩
      rw [← hv] at ca
      have hv256 : v < 256 := by rw [hv]; exact Tr.get_lt _ _
      have HV := Lib.hid hv
      have HC2 := Lib.hid c2
      obtain ⟨f', hf'⟩ : ∃ f', f = f' + 1 := ⟨f - 1, by have := HF.out; omega⟩
      obtain ⟨z, hz⟩ : ∃ z, z = endK t (t.get a) a (N - a) := ⟨_, rfl⟩
      have hpos := endK_pos (t := t) hlt
      rw [← hz] at hpos
      have hdr : (allK t N).drop k = ⟨4 * a, 4 * (z - a), v⟩ :: runsK t N z f' := by
        rw [HD.out, hf', runsK, if_pos hlt, ← hz, hv]
      have hkl : k < (allK t N).length := by
        have := congrArg List.length hdr
        simp at this
        omega
      have HX : Hid ((allK t N)[k]'hkl = ⟨4 * a, 4 * (z - a), v⟩ ∧ (allK t N).drop (k + 1) = runsK t N z f' ∧ N ≤ z + f') := Lib.hid ⟨by
        have := List.drop_eq_getElem_cons hkl
        rw [hdr] at this
        exact (List.cons.inj this).1.symm, by
        have := List.drop_eq_getElem_cons hkl
        rw [hdr] at this
        exact (List.cons.inj this).2.symm, by have := HF.out; omega⟩
      have HZ : Hid (endK t v a (N - a) = z) := Lib.hid (by rw [hv]; exact hz.symm)
      obtain ⟨hz1, hz2⟩ := hpos
      clear hdr hz hf' c2 hv
      gi_wp2
      gi_loopw [4] (fun s4 wr => ∃ qt : Nat, a ≤ qt ∧ qt ≤ z ∧ s4 = .int .i64 qt ∧ Hid (endK t v qt (N - qt) = z) ∧ Hid (J pre wr) ∧ Hid (KE Bs wb kb kc N t wr)) (fun s4 _ => N - (intOf s4).toNat)
      case atStart => exact ⟨a, Nat.le_refl _, by omega, rfl, HZ, HJ, HK⟩
      case round =>
        obtain ⟨q, hq1, hq2, rfl, HE, HJ2, HK2⟩ := hrel
        obtain ⟨c0, c1, c2⟩ := HK2.out.cells
        have ca := c2 a hlt
        rw [← HV.out] at ca
        by_cases hqN : q < N
        · have cq := c2 q hqN
          clear c2
          by_cases heq : t.get q = v
          · rw [heq] at cq
            have HES : Hid (endK t v (q + 1) (N - (q + 1)) = z) := Lib.hid (by rw [← endK_step hqN heq]; exact HE.out)
            have hqz : q + 1 ≤ z := by
              have := endK_ge t v (N - (q + 1)) (q + 1)
              have := HES.out
              omega
            have HJ4 := Lib.hid (fun n => abides_drewN HJD.out HJ2.out n)
            have HK4 := Lib.hid (fun n => HK2.out.drewN n)
            gi_wp2
            gi_quiet (fail)
            gi_wp2
            go_roundw
            case rel => exact ⟨q + 1, by omega, hqz, by go_num, HES, Lib.hid (HJ4.out _), Lib.hid (HK4.out _)⟩
            case measure => simp [intOf]; omega
          · have hqz : q = z := by have := HE.out; rw [endK_stop hqN heq] at this; exact this
            subst hqz
            obtain ⟨x, hx⟩ : ∃ x, x = t.get q := ⟨_, rfl⟩
            rw [← hx] at cq heq
            have hne : ((x : Int) == (v : Int)) = false := by rw [beq_eq_false_iff_ne]; omega
            have hx256 : x < 256 := by rw [hx]; exact Tr.get_lt _ _
            clear hx
            gi_wp2
            gi_quiet (fail)
            clear cq
            gi_wp2
            have hJq := abides_drewN HJD.out HJ2.out nq
            have hKq := HK2.out.drewN nq
            obtain ⟨W2, hW2⟩ : ∃ W2, W2 = wr.drewN nq := ⟨_, rfl⟩
            rw [← hW2] at hJq hKq ⊢
            obtain ⟨e0, e1, e2⟩ := hKq.cells
            have ea := e2 a hlt
            rw [← HV.out] at ea
            obtain ⟨fn, tmps, assign, body, hy, hRR⟩ := HY.out pre ⟨k, hkl⟩ W2 hJq (by have := congrArg List.length HP.out; simp at this; omega)
            have hra : runA (allK t N) ⟨k, hkl⟩ = .agg #[.int .i64 (4 * (a : Int)), .int .i64 (4 * ((q : Int) - (a : Int))), .int .i64 (v : Int)] := by
              unfold runA
              simp only [HX.out.1]
              rw [show ((4 * a : Nat) : Int) = 4 * (a : Int) by omega, show ((4 * (q - a) : Nat) : Int) = 4 * ((q : Int) - (a : Int)) by omega]
            rw [hra] at hy
            have HPN : Hid ((pre ++ [(⟨k, hkl⟩ : PlaceN (allK t N).length)]).map (·.1) = List.range (k + 1)) := Lib.hid (by rw [List.map_append, HP.out, List.range_succ]; rfl)
            have HKQ := Lib.hid hKq
            clear c0 c1 hJq hKq hW2 e2 hra ca
            gi_wp2
            rw [hy]
            refine ⟨fun h => (by cases h), hRR.mono ?_⟩
            rintro e W3 (⟨rfl, hJ3, hk3⟩ | ⟨rfl, hJx3⟩)
            · have HJ3 := Lib.hid hJ3
              have HK3 := Lib.hid (hk3 HKQ.out)
              clear hJ3 hk3
              gi_wp2
              go_roundw
              case rel => exact ⟨k + 1, q, f', _, hkl, hz2, rfl, Lib.hid HX.out.2.2, HPN, Lib.hid HX.out.2.1, HJ3, HK3⟩
              case measure => simp [intOf]; omega
            · have HJ3 := Lib.hid hJx3
              clear hJx3
              gi_wp2
              refine bodyPost_ret (results_none rfl _ _ _) rfl ?_
              exact ⟨⟨_, rfl⟩, .inr ⟨_, ⟨k + 1, hkl, HPN.out⟩, HJ3.out⟩⟩
        · have hqz : z = N := by
            have := HE.out
            have h2 : q = N := by omega
            rw [h2, Nat.sub_self] at this
            exact this.symm
          have hqq : q = z := by omega
          subst hqq
          have hd1 : decide ((q : Int) < (N : Int)) = false := by simp; omega
          clear c2 hqz
          gi_wp2
          gi_quiet (fail)
          gi_wp2
          have hJq := abides_drewN HJD.out HJ2.out nq
          have hKq := HK2.out.drewN nq
          obtain ⟨W2, hW2⟩ : ∃ W2, W2 = wr.drewN nq := ⟨_, rfl⟩
          rw [← hW2] at hJq hKq ⊢
          obtain ⟨e0, e1, e2⟩ := hKq.cells
          have ea := e2 a hlt
          rw [← HV.out] at ea
          obtain ⟨fn, tmps, assign, body, hy, hRR⟩ := HY.out pre ⟨k, hkl⟩ W2 hJq (by have := congrArg List.length HP.out; simp at this; omega)
          have hra : runA (allK t N) ⟨k, hkl⟩ = .agg #[.int .i64 (4 * (a : Int)), .int .i64 (4 * ((q : Int) - (a : Int))), .int .i64 (v : Int)] := by
            unfold runA
            simp only [HX.out.1]
            rw [show ((4 * a : Nat) : Int) = 4 * (a : Int) by omega, show ((4 * (q - a) : Nat) : Int) = 4 * ((q : Int) - (a : Int)) by omega]
          rw [hra] at hy
          have HPN : Hid ((pre ++ [(⟨k, hkl⟩ : PlaceN (allK t N).length)]).map (·.1) = List.range (k + 1)) := Lib.hid (by rw [List.map_append, HP.out, List.range_succ]; rfl)
          have HKQ := Lib.hid hKq
          clear c0 c1 hJq hKq hW2 e2 hra ca
          gi_wp2
          rw [hy]
          refine ⟨fun h => (by cases h), hRR.mono ?_⟩
          rintro e W3 (⟨rfl, hJ3, hk3⟩ | ⟨rfl, hJx3⟩)
          · have HJ3 := Lib.hid hJ3
            have HK3 := Lib.hid (hk3 HKQ.out)
            clear hJ3 hk3
            gi_wp2
            go_roundw
            case rel => exact ⟨k + 1, q, f', _, hkl, hz2, rfl, Lib.hid HX.out.2.2, HPN, Lib.hid HX.out.2.1, HJ3, HK3⟩
            case measure => simp [intOf]; omega
          · have HJ3 := Lib.hid hJx3
            clear hJx3
            gi_wp2
            refine bodyPost_ret (results_none rfl _ _ _) rfl ?_
            exact ⟨⟨_, rfl⟩, .inr ⟨_, ⟨k + 1, hkl, HPN.out⟩, HJ3.out⟩⟩
    · have hkk : k = (allK t N).length := by
        have h := HD.out
        have : runsK t N a f = [] := by
          cases f with
          | zero => rfl
          | succ f => rw [runsK, if_neg hlt]
        rw [this] at h
        have := List.drop_eq_nil_iff.1 h
        omega
      have HF2 : Hid (pre.map (·.1) = List.range (allK t N).length) := Lib.hid (by rw [HP.out, hkk])
      gi_wp2
      go_end0
      exact ⟨⟨_, rfl⟩, .inl ⟨pre, HF2.out, HJ.out⟩⟩
end Go.Proofs.YtoafmlegamjlpaaGreatDoor
