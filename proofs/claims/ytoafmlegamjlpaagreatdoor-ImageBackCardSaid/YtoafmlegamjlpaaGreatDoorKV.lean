/-
  The walks of image.Pack over a cache that lies there, and of image.Open over the image of an empty memory. No condition but what lies there.
  Plain: the cache with which the laws' example plays (7 slabs, 224 slots): its memory is empty, before and behind its image. By the kernel.
  The walk of the laws' example. No condition but what lies there.
-/
import Derived.Test.YtoafmlegamjlpaaGreatDoorKP
import Derived.Test.YtoafmlegamjlpaaGreatDoorKU
set_option linter.unusedVariables false
set_option linter.unusedSimpArgs false
namespace Go.Proofs.YtoafmlegamjlpaaGreatDoor
open Go.RowKit Go.Colm Go.Cap Go.Mixp Go.Imgp Go.Maps
set_option linter.unusedVariables false
set_option linter.unusedSimpArgs false
section
variable {Λ : MLay} {μ : Mm} {w : World} {cb bk : Nat}
set_option maxHeartbeats 1600000 in
theorem pack_ok (h : HasC cb bk Λ μ 0 w) : Calls Tryz.prog 16 #[.pointer (some ⟨cb, 0, none⟩)] w fun e w' => ∃ v, e = .returned (.tuple #[v, .int .i64 ((sqz (imgL μ)).2 : Int)]) ∧ BOwn 5 w.heap.size w' v (sqz (imgL μ)).1 ∧ Below w.heap.size w w' := by
  have HM := Lib.hid (cmem_any h)
  have HL := Lib.hid (clent_any h)
  have HI := Lib.hid (mimage_any h.m)
  have hz := (sizeC_le h.m.ok).1
  have HS := Lib.hid (fun A cap W (hr : RowV W A (bytesV (imgL μ))) (hc : (imgL μ).length ≤ cap) => isqz_ok A cap (imgL μ) W hr hc (by rw [imgL_length]; have e : μ.size = sizeC μ.slabs μ.slots := rfl; omega))
  rw [imgL_length] at HS
  clear h hz
  go_enter Tryz.func16, Tryz.ntmps16
  go_wp2_with fail
  refine HM.out.mono ?_
  rintro e w1 ⟨rfl, rfl⟩
  go_wp2_with fail
  refine HL.out.mono ?_
  rintro e w2 ⟨rfl, rfl⟩
  go_wp2_with fail
  refine HI.out.mono ?_
  rintro e w3 ⟨u, rfl, hu, hb3⟩
  obtain ⟨A, c, rfl, hcap, hrow⟩ := own_cap hu
  have HR := Lib.hid (HS.out A c _ hrow.row hcap)
  have HB3 := Lib.hid hb3
  clear hu hcap hrow hb3
  go_wp2_with fail
  refine HR.out.mono ?_
  rintro e w4 ⟨v, rfl, hv, hb4⟩
  have HV := Lib.hid hv
  have HB4 := Lib.hid (below_chain HB3.out hb4)
  clear hv hb4
  go_wp2_with fail
  go_ret2
  exact ⟨v, rfl, HV.out.base HB3.out.size, HB4.out⟩
end
set_option maxRecDepth 100000 in
set_option maxHeartbeats 3200000 in
theorem open_ok (s n : Nat) (A : Option Addr) (cap : Nat) (b img : List UInt8) (t : Tr) (w : World) (he : EnvC w) (hr : RowV w A (bytesV b)) (hcap : b.length ≤ cap) (hlen : b.length < 1099511627776)
    (hs : spr b = (img, 0)) (hc : cfgL img = (s, n, true)) (ok : okC s n = true) (himg : img.length = sizeC s n) (ht : BytesOf img t)
    (l8 : t.load 8 4 = 1129270338) (l12 : t.load 12 4 = s) (l16 : t.load 16 4 = n)
    (hm : ∀ r ∈ mapR s n, r.a % 4 = 0 ∧ r.n % 4 = 0 ∧ r.a + r.n ≤ sizeC s n ∧ r.k ≤ 8) (hml : (mapR s n).length ≤ 100 ∧ 1 ≤ (mapR s n).length)
    (hE : Empty ⟨s, n, t, markL (kindsL (runsC s n)) (mapR s n)⟩) :
    Calls Tryz.prog 14 #[.slice A b.length cap] w fun e w' => ∃ cb bk Λ, e = .returned (.tuple #[.pointer (some ⟨cb, 0, none⟩), .int .i64 0]) ∧ HasC cb bk Λ ⟨s, n, t, markL (kindsL (runsC s n)) (mapR s n)⟩ 0 w' ∧ Below w.heap.size w w' := by
  have hz := (sizeC_le ok).1
  have hsp := ispr_ok A cap b w hr hcap hlen
  rw [hs] at hsp
  dsimp only at hsp
  have HSP := Lib.hid hsp
  have hcf := fun A2 c2 W (hb : Below w.heap.size w W) (hr2 : RowV W A2 (bytesV img)) (hc2 : img.length ≤ c2) => iconf_ok A2 c2 img W (he.below hb).szs hr2 hc2 (by omega)
  rw [hc] at hcf
  dsimp only at hcf
  have HCF := Lib.hid hcf
  have HRS := Lib.hid (fun A2 c2 W (hb : Below w.heap.size w W) (hr2 : RowV W A2 (bytesV img)) => restore_ok s n A2 c2 img t W (he.below hb) ok hr2 himg ht l8 l12 l16 hE.free hm hml)
  have HRI := Lib.hid (fun Λ W (h : HasM Λ ⟨s, n, t, markL (kindsL (runsC s n)) (mapR s n)⟩ W) => aright_ok h hE)
  obtain ⟨μ, hμ⟩ : ∃ μ : Mm, μ = ⟨s, n, t, markL (kindsL (runsC s n)) (mapR s n)⟩ := ⟨_, rfl⟩
  rw [← hμ] at HRS HRI ⊢
  obtain ⟨L, hL⟩ : ∃ L, L = img.length := ⟨_, rfl⟩
  rw [← hL] at HCF HRS
  have HL := Lib.hid hL
  clear he hr hcap hlen hs hc ok himg ht l8 l12 l16 hm hml hE hsp hcf hμ hL hz
  go_enter Tryz.func14, Tryz.ntmps14
  go_wp2_with fail
  refine HSP.out.mono ?_
  rintro e w1 ⟨v, rfl, hv, hb1⟩
  obtain ⟨A1, c1, rfl, hcap1, hr1, _, _⟩ := hv.slice
  rw [← HL.out] at hcap1 ⊢
  have HR1 := Lib.hid hr1
  have HB1 := Lib.hid hb1
  have HC1 := Lib.hid (HCF.out A1 c1 w1 hb1 hr1 hcap1)
  clear hv hb1 hr1 hcap1
  go_wp2_with fail
  refine HC1.out.mono ?_
  rintro e w2 ⟨rfl, hb2⟩
  obtain ⟨w3, hw3, hb3, x0, x1⟩ := cfg_box s n w2
  have hb23 := below_chain hb2 hb3
  have HR3 := Lib.hid (HRS.out A1 c1 w3 (below_chain HB1.out hb23) (HR1.out.below hb23))
  have HB3 := Lib.hid (below_chain HB1.out hb23)
  clear hb2 hb3 hb23
  go_upto_region 5 with fail
  rw [← hw3]
  clear hw3
  go_wp2_with fail
  refine HR3.out.mono ?_
  rintro e w4 ⟨Λ, rfl, hm4, hf4, hb4⟩
  have HM4 := Lib.hid hm4
  have HF4 := Lib.hid hf4
  have HB4 := Lib.hid (below_chain HB3.out hb4)
  clear hm4 hf4 hb4 x0 x1
  go_wp2_with fail
  refine (HRI.out _ _ HM4.out).mono ?_
  rintro e w5 ⟨rfl, hg5⟩
  have HM5 := Lib.hid hg5.has
  have HB5 : Hid (Below w.heap.size w w5) := Lib.hid (HB4.out.trans (hg5.kept.to_below HB4.out.size fun k hk e => by
    have h1 := HF4.out
    have h2 := HB3.out.size
    rcases e with e | e | e
    · have := h1.wb; omega
    · have := h1.gb; omega
    · have := h1.kb; omega))
  clear hg5
  go_wp2_with fail
  refine (cof_ok HM5.out).mono ?_
  rintro e w6 ⟨cb, bk, rfl, hc6, _, _, hb6⟩
  have HC6 := Lib.hid hc6
  have HB6 := Lib.hid (below_chain HB5.out hb6)
  clear hc6 hb6
  go_wp2_with fail
  go_ret2
  exact ⟨cb, bk, Λ, rfl, HC6.out, HB6.out⟩
end Go.Proofs.YtoafmlegamjlpaaGreatDoor
namespace Go.Proofs.YtoafmlegamjlpaaGreatDoor
open Go.RowKit Go.Colm Go.Cap Go.Mixp Go.Imgp Go.Maps
set_option linter.unusedVariables false
set_option linter.unusedSimpArgs false
/-- What it is that a memory is empty, reckoned. -/
def freeB (t : Tr) (s n sl : Nat) : Bool := Nat.beq (t.load (128 + sl * 16) 2) 0 && Nat.beq (t.load (128 + sl * 16 + 2) 2) 0 && Nat.beq (t.load (128 + sl * 16 + 4) 4) 0 && (List.range 1024).all fun i => Nat.beq (t.get (baseC s n + sl * 1024 + i)) 0
theorem free_of {t : Tr} {s n sl : Nat} (h : freeB t s n sl = true) : FreeAt t s n sl := by
  simp only [freeB, Bool.and_eq_true, Nat.beq_eq, List.all_eq_true, List.mem_range] at h
  obtain ⟨⟨⟨h1, h2⟩, h3⟩, h4⟩ := h
  refine ⟨h1, h2, h3, fun i hi hi2 => ?_⟩
  have := h4 (i - (baseC s n + sl * 1024)) (by omega)
  rwa [show baseC s n + sl * 1024 + (i - (baseC s n + sl * 1024)) = i by omega] at this
def isB (x : Option Nat) (v : Nat) : Bool := match x with | some y => Nat.beq y v | none => false
theorem is_of {x : Option Nat} {v : Nat} (h : isB x v = true) : x = some v := by
  cases x with
  | none => simp [isB] at h
  | some y => simp only [isB, Nat.beq_eq] at h; rw [h]
def slB (m : Mm) (i : Nat) : Bool := match getM i m with | some x => Nat.beq x.cls 0 && Nat.beq x.next (if i + 1 < m.slabs then i + 2 else 0) && Nat.beq x.prev i | none => false
theorem sl_of {m : Mm} {i : Nat} (h : slB m i = true) : ∃ l f, getM i m = some ⟨0, l, f, if i + 1 < m.slabs then i + 2 else 0, i⟩ := by
  unfold slB at h
  cases hg : getM i m with
  | none => rw [hg] at h; simp at h
  | some x =>
    rw [hg] at h
    obtain ⟨c, l, f, nx, pv⟩ := x
    simp only [Bool.and_eq_true, Nat.beq_eq] at h
    obtain ⟨⟨h1, h2⟩, h3⟩ := h
    subst h1 h2 h3
    exact ⟨l, f, rfl⟩
def emptyB (m : Mm) : Bool :=
  (List.range m.slabs).all (fun sl => freeB m.b m.slabs m.slots sl && slB m sl) && decide (allK m.k (m.size / 4) = mapR m.slabs m.slots) && Nat.ble 1 (mapR m.slabs m.slots).length && Nat.ble (mapR m.slabs m.slots).length 100
  && isB (m.root 3) 1 && (List.range 9).all (fun c => isB (m.root (c + 4)) 0) && (List.range m.slots).all (fun i => isB (m.ld (slotsC m.slabs + i * 4) 4 4) 0)
  && isB (m.root 13) 0 && isB (m.root 14) 0 && isB (m.root 15) 0 && isB (m.root 17) 0 && isB (m.root 16) 0
theorem empty_of {m : Mm} (h : emptyB m = true) : Empty m := by
  simp only [emptyB, Bool.and_eq_true, List.all_eq_true, List.mem_range, decide_eq_true_eq, Nat.ble_eq] at h
  obtain ⟨⟨⟨⟨⟨⟨⟨⟨⟨⟨⟨h1, h2⟩, h3⟩, h4⟩, h5⟩, h6⟩, h7⟩, h8⟩, h9⟩, ha⟩, hb⟩, hc⟩ := h
  exact { free := fun sl hs => free_of (h1 sl hs).1, kinds := h2, some_ := h3, few := h4,
          lists := ⟨is_of h5, fun c c1 c9 => by
            have := is_of (h6 (c - 1) (by omega))
            rwa [show c - 1 + 4 = 3 + c by omega] at this, fun i hi => sl_of (h1 i hi).2⟩,
          slots := fun i hi => is_of (h7 i hi), r13 := is_of h8, r14 := is_of h9, r15 := is_of ha, r17 := is_of hb, r16 := ⟨0, is_of hc, by decide⟩ }
/-- The example's memory. -/
def m7 : Mm := (cacheBeginM (newMm 7 224)).getD (newMm 7 224)
/-- What comes of its image. -/
def r7 : Mm := ⟨7, 224, m7.b, markL (kindsL (runsC 7 224)) (mapR 7 224)⟩
def all7 : Bool := (cacheBeginM (newMm 7 224)).isSome && Nat.beq m7.slabs 7 && Nat.beq m7.slots 224 && emptyB m7 && emptyB r7 && Nat.beq (m7.b.load 8 4) 1129270338 && Nat.beq (m7.b.load 12 4) 7 && Nat.beq (m7.b.load 16 4) 224
  && (mapR 7 224).all (fun r => Nat.beq (r.a % 4) 0 && Nat.beq (r.n % 4) 0 && Nat.ble (r.a + r.n) (sizeC 7 224) && Nat.ble r.k 8)
set_option maxRecDepth 1000000 in
theorem all7_true : all7 = true := by kernel_rfl
theorem m7_begin : cacheBeginM (newMm 7 224) = some m7 := by
  have h := all7_true
  simp only [all7, Bool.and_eq_true] at h
  obtain ⟨⟨⟨⟨⟨⟨⟨⟨h1, _⟩, _⟩, _⟩, _⟩, _⟩, _⟩, _⟩, _⟩ := h
  unfold m7
  cases hc : cacheBeginM (newMm 7 224) with
  | none => rw [hc] at h1; cases h1
  | some x => rfl
end Go.Proofs.YtoafmlegamjlpaaGreatDoor
namespace Go.Proofs.YtoafmlegamjlpaaGreatDoor
open Go.RowKit Go.Colm Go.Cap Go.Mixp Go.Imgp Go.Maps
set_option linter.unusedVariables false
set_option linter.unusedSimpArgs false
theorem facts7 : m7.slabs = 7 ∧ m7.slots = 224 ∧ Empty m7 ∧ Empty r7 ∧ m7.b.load 8 4 = 1129270338 ∧ m7.b.load 12 4 = 7 ∧ m7.b.load 16 4 = 224 ∧ ∀ r ∈ mapR 7 224, r.a % 4 = 0 ∧ r.n % 4 = 0 ∧ r.a + r.n ≤ sizeC 7 224 ∧ r.k ≤ 8 := by
  have h := all7_true
  simp only [all7, Bool.and_eq_true, Nat.beq_eq, List.all_eq_true, Nat.ble_eq] at h
  obtain ⟨⟨⟨⟨⟨⟨⟨⟨_, h1⟩, h2⟩, h3⟩, h4⟩, h5⟩, h6⟩, h7⟩, h8⟩ := h
  exact ⟨h1, h2, empty_of h3, empty_of h4, h5, h6, h7, fun r hr => by
    obtain ⟨⟨⟨a, b⟩, c⟩, d⟩ := h8 r hr
    exact ⟨a, b, c, d⟩⟩
theorem ok7 : okC 7 224 = true := by decide
theorem img7_length : (imgL m7).length = sizeC 7 224 := by
  obtain ⟨h1, h2, _⟩ := facts7
  rw [imgL_length, Mm.size, h1, h2]
theorem img7_r : imgL r7 = imgL m7 := by
  obtain ⟨h1, h2, _⟩ := facts7
  simp only [imgL, Mm.size, h1, h2, r7]
theorem num4_load {b : List UInt8} {t : Tr} (h : BytesOf b t) {a : Nat} (ha : a + 4 ≤ b.length) : num4 (b.drop a) = t.load a 4 := by
  have g : ∀ j, j < 4 → ((b.drop a).getD j 0).toNat = t.get (a + j) := fun j hj => by
    rw [← h (a + j) (by omega)]
    simp [List.getD_eq_getElem?_getD]
  simp only [num4, g 0 (by omega), g 1 (by omega), g 2 (by omega), g 3 (by omega), Tr.load, Nat.add_zero, Nat.add_assoc, Nat.reduceAdd]
  omega
theorem cfg7 : cfgL (imgL m7) = (7, 224, true) := by
  obtain ⟨h1, h2, _, _, _, l12, l16, _⟩ := facts7
  have hz := sizeC_le ok7
  have hl := img7_length
  rw [cfgL, num4_load (imgL_bytes m7) (by omega), num4_load (imgL_bytes m7) (by omega), l12, l16, if_pos ⟨by omega, ok7⟩]
theorem may7 : mayB (imgL m7).length = true := by
  rw [img7_length]
  decide
theorem sqz7 : sqz (imgL m7) = (sqzL (imgL m7), 0) := by rw [sqz, if_pos may7]
theorem spr_len7 : (sqzL (imgL m7)).length < 1099511627776 := by
  have hz := sizeC_le ok7
  have h16 : (imgL m7).length % 16 = 0 := by rw [img7_length]; exact hz.2.2.1
  have hc := cnt_le (imgL m7) ((imgL m7).length / 16)
  rw [sqzL, List.length_append, head_length _ h16, le4_length]
  have hl := img7_length
  omega
/-- The example's bytes. -/
def xL : List UInt8 := zs 16 ++ [9] ++ zs 15
theorem xL_facts : xL.length = 32 ∧ mayB xL.length = true ∧ (sqzL xL).length = 32 ∧ (spr ((sqzL xL).take 31)) = ([], 3) := by decide +kernel
end Go.Proofs.YtoafmlegamjlpaaGreatDoor
