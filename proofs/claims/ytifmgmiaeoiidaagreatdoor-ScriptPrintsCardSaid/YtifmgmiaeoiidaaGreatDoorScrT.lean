/-
  The walk of layer script's writer.steps. Steps no deeper than 21, no more than 2^36 bytes.
-/
import Derived.Test.YtifmgmiaeoiidaaGreatDoorScrQ
import Derived.Test.YtifmgmiaeoiidaaGreatDoorScrO
import Derived.Test.YtifmgmiaeoiidaaGreatDoorScrF
import Derived.Test.YtifmgmiaeoiidaaGreatDoorScrE
import Derived.Deep.AppendLies
import Derived.Deep.RegionHeld3
namespace Go.Proofs.YtifmgmiaeoiidaaGreatDoor
open Go.RowKit Go.Colm Go.Scrp
set_option linter.unusedVariables false

def TabsB (B : Nat) (w : World) : Prop := ∀ w', Below B w w' → Tabs w'
theorem TabsB.of {w : World} (h : Tabs w) : TabsB w.heap.size w := fun w' hb => h.below hb
theorem TabsB.on {B : Nat} {w w' : World} (h : TabsB B w) (hb : Below B w w') : TabsB B w' := fun w2 h2 => h w2 (hb.trans h2)
theorem TabsB.here {B : Nat} {w : World} (h : TabsB B w) : Tabs w := h w (Below.refl _ _)
theorem Turn.low {N : Nat → Prop} {B : Nat} {w w' : World} (h : Below B w w') (hN : ∀ k, N k → k < B) : Turn N N w w' := fun b off v hn hc => ⟨hn, (h.cell (p := ⟨b, off, none⟩) (hN _ hn)).trans hc⟩

/-- A round of the writer: what lay there ahead of it is as it was, and the step's copy. -/
structure Kp (wr : World) (cs : Array Value) (W : World) : Prop where
  below : Below wr.heap.size wr W
  whole : Whole W wr.heap.size 48 cs
theorem Kp.next {wr W W' : World} {cs : Array Value} (h : Kp wr cs W) (hb : Below W.heap.size W W') : Kp wr cs W' :=
  ⟨below_chain h.below hb, (hb.block _ h.whole.lt).trans h.whole⟩
theorem Kp.alloc {wr W : World} {cs : Array Value} (h : Kp wr cs W) (o : Obj) : Kp wr cs (W.alloc o) := h.next ((Below.refl _ _).alloc (Nat.le_refl _) o)
theorem Kp.size {wr W : World} {cs : Array Value} (h : Kp wr cs W) : wr.heap.size ≤ W.heap.size := h.below.size
theorem Kp.grown {wr W W' : World} {cs : Array Value} {row : Option Nat} (h : Kp wr cs W) (hg : W.grownBy W' row) (hr : ∀ k, row = some k → wr.heap.size < k) : Kp wr cs W' :=
  ⟨h.below.grown hg h.size fun k hk => Nat.le_of_lt (hr k hk), (hg.block _ h.whole.lt fun e => absurd (hr _ e.symm) (by omega)).trans h.whole⟩

/-- Steps are written right, whatever the world. -/
def StepsOK (l : List Opd) : Prop :=
  ∀ (N : Nat → Prop) (A : Option Addr) (c deep B b : Nat) (bs : List UInt8) (wf : Bool) (w : World), IsWriter B b (Lib.byteCells bs) wf w → OpdsAt N w A 0 l → (∀ k, N k → k < B) → B ≤ w.heap.size → 1 ≤ deep → deep ≤ 21 → TabsB B w → l.length ≤ maxLen →
    bs.length + (outL deep l).1.length ≤ 68719476736 →
    Calls Tryz.prog 26 #[.pointer (some ⟨b, 0, none⟩), .slice A l.length c, .int .i64 (deep : Int)] w fun e w' =>
      e = .returned (.tuple #[]) ∧ IsWriter B b (Lib.byteCells (bs ++ (outL deep l).1)) (wf || (outL deep l).2) w' ∧ Wrote B w w'

/-- What the loop carries. -/
def StepLoop (B b deep : Nat) (bs : List UInt8) (wf : Bool) (l : List Opd) (w : World) (k : Nat) (wr : World) : Prop :=
  ∃ acc wg, OutSo deep l k acc wg ∧ IsWriter B b (Lib.byteCells (bs ++ acc)) (wf || wg) wr ∧ Wrote B w wr

/-- The words of a line that were gathered so far. -/
structure Wds (wr : World) (cs : Array Value) (v : Value) (ws : List (List UInt8)) (W : World) : Prop where
  kp : Kp wr cs W
  row : W.ownsRow wr.heap.size 9 1 v ws.length (txtV ws)
  far : ∀ k, v.ownBlock = some k → wr.heap.size < k
theorem Wds.next {wr W W' : World} {cs : Array Value} {v : Value} {ws : List (List UInt8)} (h : Wds wr cs v ws W) (hb : Below W.heap.size W W') : Wds wr cs v ws W' :=
  ⟨h.kp.next hb, own_kept (Kept.below hb (fun _ => False)) h.row fun _ _ => id, h.far⟩
theorem Wds.alloc {wr W : World} {cs : Array Value} {v : Value} {ws : List (List UInt8)} (h : Wds wr cs v ws W) (o : Obj) : Wds wr cs v ws (W.alloc o) := h.next ((Below.refl _ _).alloc (Nat.le_refl _) o)
theorem Wds.drew {wr W : World} {cs : Array Value} {v : Value} {ws : List (List UInt8)} (h : Wds wr cs v ws W) : Wds wr cs v ws W.drew := h.next (Below.refl _ _).drew
theorem Wds.app {wr W w3 : World} {cs : Array Value} {v : Value} {ws ws' : List (List UInt8)} {g n cap : Nat} {xs : List Value} (h : Wds wr cs v ws W) (hown : w3.ownsRow wr.heap.size 9 1 (.slice (some ⟨g, 0, none⟩) n cap) n xs) (hg : W.grownBy w3 v.ownBlock) (hat : v.ownBlock = some g ∨ g = W.heap.size)
    (hn : n = ws'.length) (hx : xs = txtV ws') : Wds wr cs (.slice (some ⟨g, 0, none⟩) n cap) ws' w3 := by
  subst hn hx
  refine ⟨h.kp.grown hg h.far, hown, ?_⟩
  intro k hk
  have hk : some g = some k := hk
  cases hk
  rcases hat with e | e
  · exact h.far _ e
  · rw [e]
    exact h.kp.whole.lt
theorem Wds.app2 {wr W w3 : World} {cs : Array Value} {v v' : Value} {ws ws' : List (List UInt8)} {n : Nat} {xs : List Value} (h : Wds wr cs v ws W) (hown : w3.ownsRow wr.heap.size 9 1 v' n xs) (hg : W.grownBy w3 v.ownBlock) (hat : v'.ownBlock = v.ownBlock ∨ v'.ownBlock = some W.heap.size)
    (hn : n = ws'.length) (hx : xs = txtV ws') : ∃ A cap, v' = .slice A n cap ∧ Wds wr cs v' ws' w3 := by
  subst hn hx
  obtain ⟨A, c, e, _⟩ := own_more hown
  refine ⟨A, c, e, h.kp.grown hg h.far, hown, ?_⟩
  intro k hk
  rcases hat with e | e
  · exact h.far k (e.symm.trans hk)
  · rw [e] at hk
    cases hk
    exact h.kp.whole.lt
theorem line_round {B b deep : Nat} {bs1 : List UInt8} {wf : Bool} {wr W : World} {cs : Array Value} {A : Option Addr} {m c : Nat} {ws : List (List UInt8)} (hI : IsWriter B b (Lib.byteCells bs1) wf wr) (h : Wds wr cs (.slice A m c) ws W) (hm : m = ws.length) (h0 : ws ≠ []) (hB : B ≤ wr.heap.size) (hd : 1 ≤ deep) (hd2 : deep ≤ 1000)
    (hlen : bs1.length + deep + bulk ws ≤ 35184372088832) :
    Calls Tryz.prog 48 #[.pointer (some ⟨b, 0, none⟩), .int .i64 (deep : Int), .slice A m c] W fun e w' =>
      e = .returned (.tuple #[]) ∧ IsWriter B b (Lib.byteCells (bs1 ++ lineT deep ws)) wf w' ∧ Wrote B wr w' ∧ Whole w' wr.heap.size 48 cs := by
  subst hm
  obtain ⟨A', c', e, hc, _, hr⟩ := own_more h.row
  cases e
  refine (line_any B b deep ws A c bs1 wf W (hI.below h.kp.below) (Nat.le_trans hB h.kp.size) h0 hr hc hd hd2 hlen).mono ?_
  rintro e w' ⟨rfl, h1, h2⟩
  exact ⟨rfl, h1, (Wrote.below h.kp.below hB).trans h2, h2.2 _ _ _ _ (by decide) h.kp.whole⟩
theorem Kp.start {wr W : World} {cs : Array Value} {s : List UInt8} {sn : ByteArray} (h : Kp wr cs W) (hs : sn = ⟨s.toArray⟩) : Wds wr cs (.slice (some ⟨W.heap.size, 0, none⟩) 1 1) [s] (W.alloc (.cells #[.string sn] 9)) := by
  subst hs
  refine ⟨h.alloc _, ⟨rfl, .inr ⟨W.heap.size, 1, _, rfl, h.size, heap_alloc_new W _, Nat.le_refl _, by unfold maxLen; omega, rfl, rfl⟩⟩, ?_⟩
  intro k hk
  have hk : some W.heap.size = some k := hk
  cases hk
  exact h.whole.lt
theorem bulk_mem : ∀ {l : List (List UInt8)} {s : List UInt8}, s ∈ l → s.length + 1 ≤ bulk l
  | x :: r, s, h => by
    rcases List.mem_cons.1 h with rfl | h
    · simp [bulk]
    · have := bulk_mem h
      simp [bulk]
      omega
def isStr : Value → Bool
  | .string _ => true
  | _ => false
theorem strs_one (l : List Value) (h : ∀ u ∈ l, isStr u = true) : ∀ u ∈ l, u.oneCell' = true := fun u hu => by
  have := h u hu
  cases u <;> simp_all [isStr, Value.oneCell']
theorem str_nil (s : List UInt8) : ((ByteArray.mk s.toArray).toList == []) = decide (s = []) := by
  cases s <;> simp [ByteArray.toList_mk]
theorem IsWriter.cells {B b : Nat} {bs : List Value} {wf : Bool} {w : World} (h : IsWriter B b bs wf w) : w.cell? ⟨b, 2, none⟩ = some (.bool wf) ∧ w.frozen? ⟨b, 2, none⟩ = false := by
  obtain ⟨p, hB, v, hb, _⟩ := h.at
  exact ⟨by rw [Lib.cell_of_heap hb]; rfl, Lib.frozen_of_heap hb 2⟩
theorem IsWriter.wrong_ {B b : Nat} {bs : List Value} {wf : Bool} {w : World} (h : IsWriter B b bs wf w) : IsWriter B b bs true (w.setCell ⟨b, 2, none⟩ (.bool true)) ∧ Wrote B w (w.setCell ⟨b, 2, none⟩ (.bool true)) := by
  have key : ∀ p, WriterAt B b p bs wf w → Wrote B w (w.setCell ⟨b, 2, none⟩ (.bool true)) := by
    rintro p ⟨hB, v, hb, _⟩
    exact ⟨(Below.refl B w).setCell (p := ⟨b, 2, none⟩) hB _, KeptO.setCell hb (by decide) 2 _⟩
  rcases h with h | h
  · exact ⟨.inl (h.wrong true), key _ h⟩
  · exact ⟨.inr (h.wrong true), key _ h⟩

set_option maxRecDepth 100000 in
set_option maxHeartbeats 8000000 in
theorem steps_step {l : List Opd} (H : ∀ k (hk : k < l.length) h sub, l[k] = .mk h sub → StepsOK sub) : StepsOK l := by
  intro N A c deep B b bs wf w hI hS hN hB hd1 hd21 hT hlm hlen
  obtain ⟨i0, hi, hz0, hz1, hz2⟩ := info_parts str_info
  have HH := Lib.hid H
  have HS := Lib.hid hS
  have HN := Lib.hid hN
  have HT := Lib.hid hT
  have HL0 : Hid (StepLoop B b deep bs wf l w 0 w) := Lib.hid ⟨[], false, OutSo.start _ _, by simpa using hI, Wrote.refl _ _⟩
  have hlm' : l.length ≤ 9223372036854775807 := by unfold maxLen at hlm; omega
  clear H hS hN hT hI hlm
  go_enter Tryz.func26, Tryz.ntmps26
  go_wp2_with fail
  go_loopw [13] (fun i wr => ∃ k : Nat, k ≤ l.length ∧ i = .int .i64 k ∧ Hid (StepLoop B b deep bs wf l w k wr)) (fun i _ => l.length - (intOf i).toNat)
  case atStart => exact ⟨0, Nat.zero_le _, rfl, HL0⟩
  case round =>
    obtain ⟨k, hk, rfl, HC⟩ := hrel
    by_cases hlt : k < l.length
    · obtain ⟨acc, wg, hso, hI, hW⟩ := HC.out
      obtain ⟨bl, off, rfl, hst⟩ := (OpdsAt.turn (Turn.low hW.1 HN.out) A 0 l HS.out).get l 0 k hlt
      rw [Nat.zero_add] at hst
      rcases hek : l[k] with ⟨h, sub⟩
      rw [hek] at hst
      obtain ⟨hok, hNb, c0, c1, c2, ⟨RA, rc, c3, ⟨hrc, hrc2⟩, hrecs⟩, c4, c5, ⟨SA, sc, c6, ⟨hsc, hsc2⟩, hsub⟩, c7, c8⟩ := opdAt_mk.1 hst
      have hown := fun W => own_any h sub.length RA SA rc sc W
      have hwb := words_bulk h deep sub
      have hlenk := fun hb => OutSo.len hso hlt hek hb
      have hHH := HH.out k hlt h sub hek
      obtain ⟨kd, nam, ty, rs, lf, n, hw, cd⟩ := h
      dsimp only [opV] at c0 c1 c2 c3 hrc hrecs c4 c5 c7 c8 hown
      have hsp := fun W => spelled_any kd W
      have hen := fun W => ended_any hw W
      obtain ⟨sn, hsn⟩ : ∃ sn : ByteArray, sn = ⟨(spellT kd).1.toArray⟩ := ⟨_, rfl⟩
      obtain ⟨sm, hsm⟩ : ∃ sm : Nat, sm = (spellT kd).2 := ⟨_, rfl⟩
      obtain ⟨en, hew⟩ : ∃ en : ByteArray, en = ⟨(endT hw).toArray⟩ := ⟨_, rfl⟩
      obtain ⟨ow, how⟩ : ∃ ow : Bool, ow = ownT ⟨kd, nam, ty, rs, lf, n, hw, cd⟩ sub.length := ⟨_, rfl⟩
      simp only [← hsn, ← hsm] at hsp
      simp only [← hew] at hen
      simp only [← how] at hown
      have hsnq : (sn.toList == []) = decide ((spellT kd).1 = []) := by rw [hsn]; exact str_nil _
      have henq : (en.toList == []) = decide (endT hw = []) := by rw [hew]; exact str_nil _
      have hbadq : badT deep ⟨kd, nam, ty, rs, lf, n, hw, cd⟩ sub.length = (decide (20 < deep) || (sn.toList == []) || (en.toList == []) || !ow) := by rw [hsnq, henq, how]; rfl
      have hbadE : ∀ W, Below wr.heap.size wr W → badT deep ⟨kd, nam, ty, rs, lf, n, hw, cd⟩ sub.length = true → IsWriter B b (Lib.byteCells (bs ++ (outL deep l).1)) (wf || (outL deep l).2) (W.setCell ⟨b, 2, none⟩ (.bool true)) ∧ Wrote B w (W.setCell ⟨b, 2, none⟩ (.bool true)) := fun W hb hbad => by
        rw [OutSo.bad hso hlt hek hbad]
        have h1 := (hI.below hb).wrong_
        rw [Bool.or_true]
        exact ⟨h1.1, (hW.trans (Wrote.below hb (Nat.le_trans hB hW.1.size))).trans h1.2⟩
      have hcb : ∀ W, Below wr.heap.size wr W → W.cell? ⟨b, 2, none⟩ = some (.bool (wf || wg)) ∧ W.frozen? ⟨b, 2, none⟩ = false := fun W hb => (hI.below hb).cells
      have hb1 : Below wr.heap.size wr (wr.alloc (.cells #[.int .i64 kd, .string ⟨nam.toArray⟩, .int .u16 (ty : Int), .slice RA rs.length rc, .int .u64 (lf : Int), .int .u64 (n : Int), .slice SA sub.length sc, .int .i64 hw, .int .i64 cd] 48)) := (Below.refl _ _).alloc (Nat.le_refl _) _
      have HSP := Lib.hid hsp
      have HEN := Lib.hid hen
      have HOWN := Lib.hid hown
      have HSO := Lib.hid hso
      have HW := Lib.hid hW
      have HI := Lib.hid hI
      have HBE := Lib.hid hbadE
      have HLEN := Lib.hid hlenk
      have HHH := Lib.hid hHH
      have HEK := Lib.hid hek
      have HRECS := Lib.hid hrecs
      have HSUB := Lib.hid hsub
      have HOK := Lib.hid hok
      have HB1 := Lib.hid hb1
      have HCB := Lib.hid hcb
      have HBQ := Lib.hid hbadq
      have HSN := Lib.hid hsn
      have HEW := Lib.hid hew
      have HWB := Lib.hid hwb
      clear hsp hen hown hso hW hI hbadE hlenk hHH hek hrecs hsub hok hst hcb hbadq hsn hew hsm how hsnq henq hwb hb1 HC
      by_cases hd20 : 20 < deep
      · have hx : decide ((20 : Int) < (deep : Int)) = true := by
          rw [decide_eq_true_iff]
          omega
        obtain ⟨q1, q2⟩ := HCB.out _ HB1.out
        have HF := Lib.hid (HBE.out _ HB1.out (by rw [HBQ.out, decide_eq_true hd20]; rfl))
        go_wp2_with fail
        refine (HSP.out _).mono ?_
        rintro e w2 ⟨rfl, rfl⟩
        go_wp2_with fail
        refine bodyPost_ret (results_none rfl _ _ _) rfl ?_
        exact ⟨rfl, HF.out⟩
      have hx : decide ((20 : Int) < (deep : Int)) = false := by
        rw [decide_eq_false_iff_not]
        omega
      cases hsn0 : (sn.toList == [])
      rotate_left
      · obtain ⟨q1, q2⟩ := HCB.out _ HB1.out
        have HF := Lib.hid (HBE.out _ HB1.out (by rw [HBQ.out, hsn0]; simp))
        go_wp2_with fail
        refine (HSP.out _).mono ?_
        rintro e w2 ⟨rfl, rfl⟩
        go_wp2_with fail
        refine bodyPost_ret (results_none rfl _ _ _) rfl ?_
        exact ⟨rfl, HF.out⟩
      cases hen0 : (en.toList == [])
      rotate_left
      · obtain ⟨q1, q2⟩ := HCB.out _ HB1.out
        have HF := Lib.hid (HBE.out _ HB1.out (by rw [HBQ.out, hen0]; simp))
        go_wp2_with fail
        refine (HSP.out _).mono ?_
        rintro e w2 ⟨rfl, rfl⟩
        go_wp2_with fail
        refine (HEN.out _).mono ?_
        rintro e w2 ⟨rfl, rfl⟩
        go_wp2_with fail
        refine bodyPost_ret (results_none rfl _ _ _) rfl ?_
        exact ⟨rfl, HF.out⟩
      cases ow
      · go_wp2_with fail
        refine (HSP.out _).mono ?_
        rintro e w2 ⟨rfl, rfl⟩
        go_wp2_with fail
        refine (HEN.out _).mono ?_
        rintro e w2 ⟨rfl, rfl⟩
        go_wp2_with fail
        refine (HOWN.out _).mono ?_
        rintro e w3 ⟨rfl, hb3⟩
        have hb4 := below_chain HB1.out hb3
        obtain ⟨q1, q2⟩ := HCB.out _ hb4
        have HF := Lib.hid (HBE.out _ hb4 (by rw [HBQ.out]; simp))
        clear hb3 hb4
        go_wp2_with fail
        refine bodyPost_ret (results_none rfl _ _ _) rfl ?_
        exact ⟨rfl, HF.out⟩
      have hgood : badT deep ⟨kd, nam, ty, rs, lf, n, hw, cd⟩ sub.length = false := by
        rw [HBQ.out, decide_eq_false hd20, hsn0, hen0]
        rfl
      have hkind : kd = 1 ∨ kd = 2 ∨ kd = 3 ∨ kd = 4 ∨ kd = 5 ∨ kd = 6 ∨ kd = 7 ∨ kd = 8 := spell_kinds (bad_parts hgood).2.1
      have HG := Lib.hid hgood
      have HKY := Lib.hid (fun W => keyed_any kd W)
      go_wp2_with fail
      refine (HSP.out _).mono ?_
      rintro e w2 ⟨rfl, rfl⟩
      go_wp2_with fail
      refine (HEN.out _).mono ?_
      rintro e w2 ⟨rfl, rfl⟩
      go_wp2_with fail
      refine (HOWN.out _).mono ?_
      rintro e w3 ⟨rfl, hb3⟩
      have hkp : Kp wr #[.int .i64 kd, .string ⟨nam.toArray⟩, .int .u16 (ty : Int), .slice RA rs.length rc, .int .u64 (lf : Int), .int .u64 (n : Int), .slice SA sub.length sc, .int .i64 hw, .int .i64 cd] w3 := Kp.next ⟨HB1.out, Whole.new _ _ _⟩ hb3
      obtain ⟨cs, hcs⟩ : ∃ cs : Array Value, cs = #[.int .i64 kd, .string ⟨nam.toArray⟩, .int .u16 (ty : Int), .slice RA rs.length rc, .int .u64 (lf : Int), .int .u64 (n : Int), .slice SA sub.length sc, .int .i64 hw, .int .i64 cd] := ⟨_, rfl⟩
      rw [← hcs] at hkp
      have HCS := Lib.hid hcs
      have HWD1 := Lib.hid (hkp.start HSN.out)
      have e0 : (w3.alloc (.cells #[.string sn] 9)).cell? ⟨wr.heap.size, 0, none⟩ = some (.int .i64 kd) := by
        have := HWD1.out.kp.whole.cell 0
        rw [hcs] at this
        exact this
      clear hb3 hkp hcs hgood HB1 HBE HCB HBQ HOWN HSP hx hsn0
      have hlen2 := HLEN.out HG.out
      have hwb2 := HWB.out
      have hTB : ∀ W, Below wr.heap.size wr W → Tabs W := fun W hb => HT.out W (HW.out.1.trans (hb.mono (Nat.le_trans hB HW.out.1.size)))
      obtain ⟨wd, hwd⟩ : ∃ x : ByteArray, x = ⟨(wordL nam).toArray⟩ := ⟨_, rfl⟩
      obtain ⟨dt, hdt⟩ : ∃ x : ByteArray, x = ⟨(Lib.decDigits ty).toArray⟩ := ⟨_, rfl⟩
      obtain ⟨dl, hdl⟩ : ∃ x : ByteArray, x = ⟨(Lib.decDigits lf).toArray⟩ := ⟨_, rfl⟩
      obtain ⟨sr, hsr⟩ : ∃ x : ByteArray, x = ⟨(setL rs).toArray⟩ := ⟨_, rfl⟩
      obtain ⟨ic, hic⟩ : ∃ x : ByteArray, x = ⟨(Lib.itoa cd).toArray⟩ := ⟨_, rfl⟩
      obtain ⟨dn, hdn⟩ : ∃ x : ByteArray, x = ⟨(Lib.decDigits n).toArray⟩ := ⟨_, rfl⟩
      have hword : keyT kd = true → ∀ v ws W, Wds wr cs v ws W → Calls Tryz.prog 10 #[.string ⟨nam.toArray⟩] W fun e w' => e = .returned (.string wd) ∧ Wds wr cs v ws w' := fun hk v ws W h => by
        have h1 : (wordL nam) ∈ wordsT ⟨kd, nam, ty, rs, lf, n, hw, cd⟩ := by simp [wordsT, hk]
        have h2 := bulk_mem h1
        have h3 := word_ge nam
        refine (word_any ⟨nam.toArray⟩ W (by rw [str_size]; omega)).mono ?_
        rintro e w' ⟨rfl, hb⟩
        exact ⟨by rw [hwd], h.next hb⟩
      have huns : ∀ (x : Nat) (t : ByteArray), t = ⟨(Lib.decDigits x).toArray⟩ → x < 18446744073709551616 → ∀ v ws W, Wds wr cs v ws W → Calls Tryz.prog 45 #[.int .u64 (x : Int)] W fun e w' => e = .returned (.string t) ∧ Wds wr cs v ws w' := fun x t ht hx v ws W h => by
        refine (unsigned_any x hx W (hTB W h.kp.below)).mono ?_
        rintro e w' ⟨rfl, hb⟩
        exact ⟨by rw [ht], h.next hb⟩
      have hset : kd = 1 → ∀ v ws W, Wds wr cs v ws W → Calls Tryz.prog 46 #[.slice RA rs.length rc] W fun e w' => e = .returned (.string sr) ∧ Wds wr cs v ws w' := fun hk v ws W h => by
        have h1 : setL rs ∈ wordsT ⟨kd, nam, ty, rs, lf, n, hw, cd⟩ := by simp [wordsT, hk]
        have h2 := bulk_mem h1
        have h3 := set_ge rs
        refine (set_any N rs RA rc W (RecsAt.turn (Turn.below h.kp.below) HRECS.out) (by omega)).mono ?_
        rintro e w' ⟨rfl, hb⟩
        exact ⟨by rw [hsr], h.next hb⟩
      have hend : ∀ v ws W, Wds wr cs v ws W → Calls Tryz.prog 42 #[.int .i64 hw] W fun e w' => e = .returned (.string en) ∧ Wds wr cs v ws w' := fun v ws W h => by
        refine (HEN.out W).mono ?_
        rintro e w' ⟨rfl, rfl⟩
        exact ⟨rfl, h⟩
      have hito : ∀ v ws W, Wds wr cs v ws W → Calls Tryz.prog 47 #[.int .i64 cd] W fun e w' => e = .returned (.string ic) ∧ Wds wr cs v ws w' := fun v ws W h => by
        refine (itoa_any cd HOK.out.2.2.2.2.2.1 HOK.out.2.2.2.2.2.2 W (hTB W h.kp.below)).mono ?_
        rintro e w' ⟨rfl, hb⟩
        exact ⟨by rw [hic], h.next hb⟩
      have hty := HOK.out.2.1
      dsimp only at hty
      have hwr1 : IntKind.u64.wrap (ty : Int) = (ty : Int) := IntWalk.u64_in _ (by omega)
      have HWORD0 := Lib.hid hword
      have HUTY := Lib.hid (huns ty dt hdt (by omega))
      have HULF := Lib.hid (huns lf dl hdl HOK.out.2.2.1)
      have HUN := Lib.hid (huns n dn hdn HOK.out.2.2.2.1)
      have HSET0 := Lib.hid hset
      have HEND := Lib.hid hend
      have HITO := Lib.hid hito
      have HWDE := Lib.hid hwd
      have HDT := Lib.hid hdt
      have HDL := Lib.hid hdl
      have HSR := Lib.hid hsr
      have HIC := Lib.hid hic
      have HDN := Lib.hid hdn
      clear hword huns hset hend hito hwd hdt hdl hsr hic hdn hTB hen0
      -- KINDS
      rcases hkind with rfl | rfl | rfl | rfl | rfl | rfl | rfl | rfl
      · -- put
        have hkt : keyT 1 = true := by decide
        simp only [hkt] at HKY
        clear hkt
        go_wp2_with fail
        refine (HKY.out _).mono ?_
        rintro e w4 ⟨rfl, rfl⟩
        have HWORD := Lib.hid (HWORD0.out (by decide))
        have hS := fun (v : Value) (ws : List (List UInt8)) (W : World) (h : Wds wr cs v ws W) => (show W.cell? ⟨wr.heap.size, 1, none⟩ = some (.string ⟨nam.toArray⟩) ∧ W.cell? ⟨wr.heap.size, 2, none⟩ = some (.int .u16 (ty : Int)) from ⟨by have := h.kp.whole.cell 1; rw [HCS.out] at this; exact this, by have := h.kp.whole.cell 2; rw [HCS.out] at this; exact this⟩)
        have HS9 := Lib.hid hS
        clear hS
        have H0 := HWD1.out.drew
        have hS0 := HS9.out _ _ _ H0
        go_wp2_with fail
        go_region_held3 (fun W => W.cell? ⟨wr.heap.size, 1, none⟩ = some (.string ⟨nam.toArray⟩) ∧ W.cell? ⟨wr.heap.size, 2, none⟩ = some (.int .u16 (ty : Int)))
          (first | exact hS0 | exact HS9.out _ _ _ (by assumption) | exact HS9.out _ _ _ (Wds.alloc (by assumption) _))
          (first
            | ((go_at_call 10; with_reducible refine (HWORD.out _ _ _ (by assumption)).mono ?_); rintro e w5 ⟨rfl, h5⟩)
            | ((go_at_call 45; with_reducible refine (HUTY.out _ _ _ (by assumption)).mono ?_); rintro e w5 ⟨rfl, h5⟩)
            | (refine step_append_lies _ rfl _ _ _ rfl wr.heap.size 9 i0 (.string ByteArray.empty) 1 16 Tryz.underlying71 hi hz0 hz1 hz2 rfl (by decide) _ 1 _ rfl (Wds.alloc (by assumption) _).row ⟨_, 0, none⟩ 2 2 [.string wd, .string dt] rfl rfl (World.news_of_block (Whole.new _ 9 #[.string wd, .string dt])) (strs_one _ (by simp [isStr])) (by decide) (by unfold maxLen; omega) (by omega) (Wds.alloc (by assumption) _).kp.size _ rfl ?_
               intro g6 cap6 w6 hown6 hg6 hat6 hlt6
               have h6 := Wds.app (ws' := [(spellT 1).1, wordL nam, Lib.decDigits ty]) (Wds.alloc (by assumption) _) hown6 hg6 hat6 rfl (by first | rfl | (simp [txtV, HWDE.out, HDT.out]; done))))
        have HWD2 := Lib.hid h6
        have e9 : w6.cell? ⟨wr.heap.size, 0, none⟩ = some (.int .i64 1) := by have := HWD2.out.kp.whole.cell 0; rw [HCS.out] at this; exact this
        clear h6 hown6 hg6 hat6 H0 hS0 HS9 HWD1
        have HSET := Lib.hid (HSET0.out (by first | rfl | trivial))
        have hS := fun (v : Value) (ws : List (List UInt8)) (W : World) (h : Wds wr cs v ws W) => (show W.cell? ⟨wr.heap.size, 4, none⟩ = some (.int .u64 (lf : Int)) ∧ W.cell? ⟨wr.heap.size, 3, none⟩ = some (.slice RA rs.length rc) from ⟨by have := h.kp.whole.cell 4; rw [HCS.out] at this; exact this, by have := h.kp.whole.cell 3; rw [HCS.out] at this; exact this⟩)
        have HS9 := Lib.hid hS
        clear hS
        have H0 := HWD2.out.drew
        have hS0 := HS9.out _ _ _ H0
        go_wp2_with fail
        go_region_held3 (fun W => W.cell? ⟨wr.heap.size, 4, none⟩ = some (.int .u64 (lf : Int)) ∧ W.cell? ⟨wr.heap.size, 3, none⟩ = some (.slice RA rs.length rc))
          (first | exact hS0 | exact HS9.out _ _ _ (by assumption) | exact HS9.out _ _ _ (Wds.alloc (by assumption) _))
          (first
            | ((go_at_call 45; with_reducible refine (HULF.out _ _ _ (by assumption)).mono ?_); rintro e w5 ⟨rfl, h5⟩)
            | ((go_at_call 46; with_reducible refine (HSET.out _ _ _ (by assumption)).mono ?_); rintro e w5 ⟨rfl, h5⟩)
            | (refine step_append_lies _ rfl _ _ _ rfl wr.heap.size 9 i0 (.string ByteArray.empty) 1 16 Tryz.underlying71 hi hz0 hz1 hz2 rfl (by decide) _ 3 _ rfl (Wds.alloc (by assumption) _).row ⟨_, 0, none⟩ 2 2 [.string dl, .string sr] rfl rfl (World.news_of_block (Whole.new _ 9 #[.string dl, .string sr])) (strs_one _ (by simp [isStr])) (by decide) (by unfold maxLen; omega) (by omega) (Wds.alloc (by assumption) _).kp.size _ rfl ?_
               intro g6 cap6 w6 hown6 hg6 hat6 hlt6
               have h6 := Wds.app (ws' := [(spellT 1).1, wordL nam, Lib.decDigits ty, Lib.decDigits lf, setL rs]) (Wds.alloc (by assumption) _) hown6 hg6 hat6 rfl (by first | rfl | (simp [txtV, HDL.out, HSR.out]; done))))
        have HWD3 := Lib.hid h6
        clear h6 hown6 hg6 hat6 H0 hS0 HS9 HWD2
        have hws : wordsT ⟨1, nam, ty, rs, lf, n, hw, cd⟩ = [(spellT 1).1, wordL nam, Lib.decDigits ty, Lib.decDigits lf, setL rs] := by simp [wordsT, show keyT 1 = true from by decide]
        have hL := line_round (bs1 := bs ++ acc) (wf := wf || wg) (deep := deep) HI.out HWD3.out rfl (by simp) (Nat.le_trans hB HW.out.1.size) hd1 (by omega) (by rw [List.length_append, ← hws]; omega)
        have HL := Lib.hid hL
        clear hL
        go_wp2_with fail
        refine HL.out.mono ?_
        rintro e w7 ⟨rfl, hI7, hW7, hX7⟩
        have e7 : w7.cell? ⟨wr.heap.size, 0, none⟩ = some (.int .i64 1) := by have := hX7.cell 0; rw [HCS.out] at this; exact this
        have HNX : Hid (StepLoop B b deep bs wf l w (k + 1) w7) := Lib.hid ⟨_, _, HSO.out.on hlt HEK.out HG.out, by rw [outS_plain (show (1 : Int) ≠ 3 by decide), hws, ← List.append_assoc]; simp only [Bool.or_false]; exact hI7, HW.out.trans hW7⟩
        clear hI7 hW7 hX7
        go_wp2_with fail
        go_roundw
        case rel => exact ⟨k + 1, by omega, by go_num, HNX⟩
        case measure => simp [intOf]; omega
      · -- get
        have hkt : keyT 2 = true := by decide
        simp only [hkt] at HKY
        clear hkt
        go_wp2_with fail
        refine (HKY.out _).mono ?_
        rintro e w4 ⟨rfl, rfl⟩
        have HWORD := Lib.hid (HWORD0.out (by decide))
        have hS := fun (v : Value) (ws : List (List UInt8)) (W : World) (h : Wds wr cs v ws W) => (show W.cell? ⟨wr.heap.size, 1, none⟩ = some (.string ⟨nam.toArray⟩) ∧ W.cell? ⟨wr.heap.size, 2, none⟩ = some (.int .u16 (ty : Int)) from ⟨by have := h.kp.whole.cell 1; rw [HCS.out] at this; exact this, by have := h.kp.whole.cell 2; rw [HCS.out] at this; exact this⟩)
        have HS9 := Lib.hid hS
        clear hS
        have H0 := HWD1.out.drew
        have hS0 := HS9.out _ _ _ H0
        go_wp2_with fail
        go_region_held3 (fun W => W.cell? ⟨wr.heap.size, 1, none⟩ = some (.string ⟨nam.toArray⟩) ∧ W.cell? ⟨wr.heap.size, 2, none⟩ = some (.int .u16 (ty : Int)))
          (first | exact hS0 | exact HS9.out _ _ _ (by assumption) | exact HS9.out _ _ _ (Wds.alloc (by assumption) _))
          (first
            | ((go_at_call 10; with_reducible refine (HWORD.out _ _ _ (by assumption)).mono ?_); rintro e w5 ⟨rfl, h5⟩)
            | ((go_at_call 45; with_reducible refine (HUTY.out _ _ _ (by assumption)).mono ?_); rintro e w5 ⟨rfl, h5⟩)
            | (refine step_append_lies _ rfl _ _ _ rfl wr.heap.size 9 i0 (.string ByteArray.empty) 1 16 Tryz.underlying71 hi hz0 hz1 hz2 rfl (by decide) _ 1 _ rfl (Wds.alloc (by assumption) _).row ⟨_, 0, none⟩ 2 2 [.string wd, .string dt] rfl rfl (World.news_of_block (Whole.new _ 9 #[.string wd, .string dt])) (strs_one _ (by simp [isStr])) (by decide) (by unfold maxLen; omega) (by omega) (Wds.alloc (by assumption) _).kp.size _ rfl ?_
               intro g6 cap6 w6 hown6 hg6 hat6 hlt6
               have h6 := Wds.app (ws' := [(spellT 2).1, wordL nam, Lib.decDigits ty]) (Wds.alloc (by assumption) _) hown6 hg6 hat6 rfl (by first | rfl | (simp [txtV, HWDE.out, HDT.out]; done))))
        have HWD2 := Lib.hid h6
        have e9 : w6.cell? ⟨wr.heap.size, 0, none⟩ = some (.int .i64 2) := by have := HWD2.out.kp.whole.cell 0; rw [HCS.out] at this; exact this
        clear h6 hown6 hg6 hat6 H0 hS0 HS9 HWD1
        have hws : wordsT ⟨2, nam, ty, rs, lf, n, hw, cd⟩ = [(spellT 2).1, wordL nam, Lib.decDigits ty] := by simp [wordsT, show keyT 2 = true from by decide]
        have hL := line_round (bs1 := bs ++ acc) (wf := wf || wg) (deep := deep) HI.out HWD2.out rfl (by simp) (Nat.le_trans hB HW.out.1.size) hd1 (by omega) (by rw [List.length_append, ← hws]; omega)
        have HL := Lib.hid hL
        clear hL
        go_wp2_with fail
        refine HL.out.mono ?_
        rintro e w7 ⟨rfl, hI7, hW7, hX7⟩
        have e7 : w7.cell? ⟨wr.heap.size, 0, none⟩ = some (.int .i64 2) := by have := hX7.cell 0; rw [HCS.out] at this; exact this
        have HNX : Hid (StepLoop B b deep bs wf l w (k + 1) w7) := Lib.hid ⟨_, _, HSO.out.on hlt HEK.out HG.out, by rw [outS_plain (show (2 : Int) ≠ 3 by decide), hws, ← List.append_assoc]; simp only [Bool.or_false]; exact hI7, HW.out.trans hW7⟩
        clear hI7 hW7 hX7
        go_wp2_with fail
        go_roundw
        case rel => exact ⟨k + 1, by omega, by go_num, HNX⟩
        case measure => simp [intOf]; omega
      · -- view
        have hkt : keyT 3 = true := by decide
        simp only [hkt] at HKY
        clear hkt
        go_wp2_with fail
        refine (HKY.out _).mono ?_
        rintro e w4 ⟨rfl, rfl⟩
        have HWORD := Lib.hid (HWORD0.out (by decide))
        have hS := fun (v : Value) (ws : List (List UInt8)) (W : World) (h : Wds wr cs v ws W) => (show W.cell? ⟨wr.heap.size, 1, none⟩ = some (.string ⟨nam.toArray⟩) ∧ W.cell? ⟨wr.heap.size, 2, none⟩ = some (.int .u16 (ty : Int)) from ⟨by have := h.kp.whole.cell 1; rw [HCS.out] at this; exact this, by have := h.kp.whole.cell 2; rw [HCS.out] at this; exact this⟩)
        have HS9 := Lib.hid hS
        clear hS
        have H0 := HWD1.out.drew
        have hS0 := HS9.out _ _ _ H0
        go_wp2_with fail
        go_region_held3 (fun W => W.cell? ⟨wr.heap.size, 1, none⟩ = some (.string ⟨nam.toArray⟩) ∧ W.cell? ⟨wr.heap.size, 2, none⟩ = some (.int .u16 (ty : Int)))
          (first | exact hS0 | exact HS9.out _ _ _ (by assumption) | exact HS9.out _ _ _ (Wds.alloc (by assumption) _))
          (first
            | ((go_at_call 10; with_reducible refine (HWORD.out _ _ _ (by assumption)).mono ?_); rintro e w5 ⟨rfl, h5⟩)
            | ((go_at_call 45; with_reducible refine (HUTY.out _ _ _ (by assumption)).mono ?_); rintro e w5 ⟨rfl, h5⟩)
            | (refine step_append_lies _ rfl _ _ _ rfl wr.heap.size 9 i0 (.string ByteArray.empty) 1 16 Tryz.underlying71 hi hz0 hz1 hz2 rfl (by decide) _ 1 _ rfl (Wds.alloc (by assumption) _).row ⟨_, 0, none⟩ 2 2 [.string wd, .string dt] rfl rfl (World.news_of_block (Whole.new _ 9 #[.string wd, .string dt])) (strs_one _ (by simp [isStr])) (by decide) (by unfold maxLen; omega) (by omega) (Wds.alloc (by assumption) _).kp.size _ rfl ?_
               intro g6 cap6 w6 hown6 hg6 hat6 hlt6
               have h6 := Wds.app (ws' := [(spellT 3).1, wordL nam, Lib.decDigits ty]) (Wds.alloc (by assumption) _) hown6 hg6 hat6 rfl (by first | rfl | (simp [txtV, HWDE.out, HDT.out]; done))))
        have HWD2 := Lib.hid h6
        have e9 : w6.cell? ⟨wr.heap.size, 0, none⟩ = some (.int .i64 3) := by have := HWD2.out.kp.whole.cell 0; rw [HCS.out] at this; exact this
        clear h6 hown6 hg6 hat6 H0 hS0 HS9 HWD1
        have hS := fun (v : Value) (ws : List (List UInt8)) (W : World) (h : Wds wr cs v ws W) => (show W.cell? ⟨wr.heap.size, 7, none⟩ = some (.int .i64 hw) ∧ W.cell? ⟨wr.heap.size, 8, none⟩ = some (.int .i64 cd) from ⟨by have := h.kp.whole.cell 7; rw [HCS.out] at this; exact this, by have := h.kp.whole.cell 8; rw [HCS.out] at this; exact this⟩)
        have HS9 := Lib.hid hS
        clear hS
        have H0 := HWD2.out.drew
        have hS0 := HS9.out _ _ _ H0
        go_wp2_with fail
        go_region_held3 (fun W => W.cell? ⟨wr.heap.size, 7, none⟩ = some (.int .i64 hw) ∧ W.cell? ⟨wr.heap.size, 8, none⟩ = some (.int .i64 cd))
          (first | exact hS0 | exact HS9.out _ _ _ (by assumption) | exact HS9.out _ _ _ (Wds.alloc (by assumption) _))
          (first
            | ((go_at_call 42; with_reducible refine (HEND.out _ _ _ (by assumption)).mono ?_); rintro e w5 ⟨rfl, h5⟩)
            | ((go_at_call 47; with_reducible refine (HITO.out _ _ _ (by assumption)).mono ?_); rintro e w5 ⟨rfl, h5⟩)
            | (refine step_append_lies _ rfl _ _ _ rfl wr.heap.size 9 i0 (.string ByteArray.empty) 1 16 Tryz.underlying71 hi hz0 hz1 hz2 rfl (by decide) _ 3 _ rfl (Wds.alloc (by assumption) _).row ⟨_, 0, none⟩ 3 3 [.string en, .string ic, .string ⟨#[123]⟩] rfl rfl (World.news_of_block (Whole.new _ 9 #[.string en, .string ic, .string ⟨#[123]⟩])) (strs_one _ (by simp [isStr])) (by decide) (by unfold maxLen; omega) (by omega) (Wds.alloc (by assumption) _).kp.size _ rfl ?_
               intro g6 cap6 w6 hown6 hg6 hat6 hlt6
               have h6 := Wds.app (ws' := [(spellT 3).1, wordL nam, Lib.decDigits ty, endT hw, Lib.itoa cd, [123]]) (Wds.alloc (by assumption) _) hown6 hg6 hat6 rfl (by first | rfl | (simp [txtV, HEW.out, HIC.out]; done))))
        have HWD3 := Lib.hid h6
        clear h6 hown6 hg6 hat6 H0 hS0 HS9 HWD2
        have hws : wordsT ⟨3, nam, ty, rs, lf, n, hw, cd⟩ = [(spellT 3).1, wordL nam, Lib.decDigits ty, endT hw, Lib.itoa cd, [123]] := by simp [wordsT, show keyT 3 = true from by decide]
        have hL := line_round (bs1 := bs ++ acc) (wf := wf || wg) (deep := deep) HI.out HWD3.out rfl (by simp) (Nat.le_trans hB HW.out.1.size) hd1 (by omega) (by rw [List.length_append, ← hws]; omega)
        have HL := Lib.hid hL
        clear hL
        go_wp2_with fail
        refine HL.out.mono ?_
        rintro e w7 ⟨rfl, hI7, hW7, hX7⟩
        have e7 : w7.cell? ⟨wr.heap.size, 0, none⟩ = some (.int .i64 3) := by have := hX7.cell 0; rw [HCS.out] at this; exact this
        have e8 : w7.cell? ⟨wr.heap.size, 6, none⟩ = some (.slice SA sub.length sc) := by have := hX7.cell 6; rw [HCS.out] at this; exact this
        have hov := outS_view (deep := deep) (h := ⟨3, nam, ty, rs, lf, n, hw, cd⟩) (l := sub) rfl
        have hlen3 := hlen2
        rw [hov, hws] at hlen3
        simp only [List.length_append] at hlen3
        have hW8 := HW.out.trans hW7
        have hsubc := HHH.out N SA sc (deep + 1) B b (bs ++ acc ++ lineT deep [(spellT 3).1, wordL nam, Lib.decDigits ty, endT hw, Lib.itoa cd, [123]]) (wf || wg) w7 hI7 (OpdsAt.turn (Turn.low hW7.1 HN.out) SA 0 sub HSUB.out) HN.out (Nat.le_trans hB hW8.1.size) (by omega) (by omega) (TabsB.on HT.out hW8.1) (Nat.le_trans hsc hsc2) (by simp only [List.length_append]; omega)
        rw [show ((deep + 1 : Nat) : Int) = (deep : Int) + 1 by omega] at hsubc
        have HSC := Lib.hid hsubc
        have HW8 := Lib.hid hW8
        clear hsubc hI7 hW7 hX7 hW8
        go_wp2_with fail
        refine HSC.out.mono ?_
        rintro e w8 ⟨rfl, hI8, hW9⟩
        have hb9 : Below w8.heap.size w8 (w8.alloc (.cells #[.string ⟨#[125]⟩] 9)) := (Below.refl _ _).alloc (Nat.le_refl _) _
        have hW10 := HW8.out.trans hW9
        have hB8 := Nat.le_trans hB hW10.1.size
        have hL2 := line_any B b deep [[125]] (some ⟨w8.heap.size, 0, none⟩) 1 _ _ _ (hI8.below hb9) (Nat.le_trans hB8 hb9.size) (by simp) (RowV.new w8 9 #[.string ⟨#[125]⟩]) (Nat.le_refl _) hd1 (by omega) (by simp only [List.length_append, bulk, List.length_cons, List.length_nil]; omega)
        have HL2 := Lib.hid hL2
        have HWX := Lib.hid (hW10.trans (Wrote.below hb9 hB8))
        clear hL2 hI8 hW9 hW10 hb9
        go_wp2_with fail
        refine HL2.out.mono ?_
        rintro e w9 ⟨rfl, hI9, hW9⟩
        have HNX : Hid (StepLoop B b deep bs wf l w (k + 1) w9) := Lib.hid ⟨_, _, HSO.out.on hlt HEK.out HG.out, by rw [hov, hws]; simp only [← List.append_assoc, ← Bool.or_assoc] at hI9 ⊢; exact hI9, HWX.out.trans hW9⟩
        clear hI9 hW9
        go_wp2_with fail
        go_roundw
        case rel => exact ⟨k + 1, by omega, by go_num, HNX⟩
        case measure => simp [intOf]; omega
      · -- delete
        have hkt : keyT 4 = true := by decide
        simp only [hkt] at HKY
        clear hkt
        go_wp2_with fail
        refine (HKY.out _).mono ?_
        rintro e w4 ⟨rfl, rfl⟩
        have HWORD := Lib.hid (HWORD0.out (by decide))
        have hS := fun (v : Value) (ws : List (List UInt8)) (W : World) (h : Wds wr cs v ws W) => (show W.cell? ⟨wr.heap.size, 1, none⟩ = some (.string ⟨nam.toArray⟩) ∧ W.cell? ⟨wr.heap.size, 2, none⟩ = some (.int .u16 (ty : Int)) from ⟨by have := h.kp.whole.cell 1; rw [HCS.out] at this; exact this, by have := h.kp.whole.cell 2; rw [HCS.out] at this; exact this⟩)
        have HS9 := Lib.hid hS
        clear hS
        have H0 := HWD1.out.drew
        have hS0 := HS9.out _ _ _ H0
        go_wp2_with fail
        go_region_held3 (fun W => W.cell? ⟨wr.heap.size, 1, none⟩ = some (.string ⟨nam.toArray⟩) ∧ W.cell? ⟨wr.heap.size, 2, none⟩ = some (.int .u16 (ty : Int)))
          (first | exact hS0 | exact HS9.out _ _ _ (by assumption) | exact HS9.out _ _ _ (Wds.alloc (by assumption) _))
          (first
            | ((go_at_call 10; with_reducible refine (HWORD.out _ _ _ (by assumption)).mono ?_); rintro e w5 ⟨rfl, h5⟩)
            | ((go_at_call 45; with_reducible refine (HUTY.out _ _ _ (by assumption)).mono ?_); rintro e w5 ⟨rfl, h5⟩)
            | (refine step_append_lies _ rfl _ _ _ rfl wr.heap.size 9 i0 (.string ByteArray.empty) 1 16 Tryz.underlying71 hi hz0 hz1 hz2 rfl (by decide) _ 1 _ rfl (Wds.alloc (by assumption) _).row ⟨_, 0, none⟩ 2 2 [.string wd, .string dt] rfl rfl (World.news_of_block (Whole.new _ 9 #[.string wd, .string dt])) (strs_one _ (by simp [isStr])) (by decide) (by unfold maxLen; omega) (by omega) (Wds.alloc (by assumption) _).kp.size _ rfl ?_
               intro g6 cap6 w6 hown6 hg6 hat6 hlt6
               have h6 := Wds.app (ws' := [(spellT 4).1, wordL nam, Lib.decDigits ty]) (Wds.alloc (by assumption) _) hown6 hg6 hat6 rfl (by first | rfl | (simp [txtV, HWDE.out, HDT.out]; done))))
        have HWD2 := Lib.hid h6
        have e9 : w6.cell? ⟨wr.heap.size, 0, none⟩ = some (.int .i64 4) := by have := HWD2.out.kp.whole.cell 0; rw [HCS.out] at this; exact this
        clear h6 hown6 hg6 hat6 H0 hS0 HS9 HWD1
        have hws : wordsT ⟨4, nam, ty, rs, lf, n, hw, cd⟩ = [(spellT 4).1, wordL nam, Lib.decDigits ty] := by simp [wordsT, show keyT 4 = true from by decide]
        have hL := line_round (bs1 := bs ++ acc) (wf := wf || wg) (deep := deep) HI.out HWD2.out rfl (by simp) (Nat.le_trans hB HW.out.1.size) hd1 (by omega) (by rw [List.length_append, ← hws]; omega)
        have HL := Lib.hid hL
        clear hL
        go_wp2_with fail
        refine HL.out.mono ?_
        rintro e w7 ⟨rfl, hI7, hW7, hX7⟩
        have e7 : w7.cell? ⟨wr.heap.size, 0, none⟩ = some (.int .i64 4) := by have := hX7.cell 0; rw [HCS.out] at this; exact this
        have HNX : Hid (StepLoop B b deep bs wf l w (k + 1) w7) := Lib.hid ⟨_, _, HSO.out.on hlt HEK.out HG.out, by rw [outS_plain (show (4 : Int) ≠ 3 by decide), hws, ← List.append_assoc]; simp only [Bool.or_false]; exact hI7, HW.out.trans hW7⟩
        clear hI7 hW7 hX7
        go_wp2_with fail
        go_roundw
        case rel => exact ⟨k + 1, by omega, by go_num, HNX⟩
        case measure => simp [intOf]; omega
      · -- tick
        have hkt : keyT 5 = false := by decide
        simp only [hkt] at HKY
        clear hkt
        go_wp2_with fail
        refine (HKY.out _).mono ?_
        rintro e w4 ⟨rfl, rfl⟩
        have e9 : (w3.alloc (.cells #[.string sn] 9)).cell? ⟨wr.heap.size, 5, none⟩ = some (.int .u64 (n : Int)) := by have := HWD1.out.kp.whole.cell 5; rw [HCS.out] at this; exact this
        go_wp2_with fail
        refine (HUN.out _ _ _ HWD1.out).mono ?_
        rintro e w5 ⟨rfl, h5⟩
        have HWD2 := Lib.hid h5
        clear h5
        go_wp2_with (at_builtin; refine wpList_append_own_at _ rfl _ _ 71 rfl wr.heap.size 9 i0 (.string ByteArray.empty) 1 16 Tryz.underlying71 hi hz0 hz1 hz2 rfl (by decide) _ 1 _ rfl (HWD2.out.alloc _).row ⟨w5.heap.size, 0, none⟩ 1 1 [.string dn] rfl rfl (cell_one_new _ _ _) (strs_one _ (by simp [isStr])) (by unfold maxLen; omega) (by omega) (HWD2.out.alloc _).kp.size ?_; intro v6 w6 hown6 hg6 _ hat6; obtain ⟨A6, cap6, rfl, h6⟩ := Wds.app2 (ws' := [(spellT 5).1, Lib.decDigits n]) (HWD2.out.alloc _) hown6 hg6 hat6 rfl (by first | rfl | (simp [txtV, HDN.out]; done)); have HWD3 := Lib.hid h6; clear hown6 hg6 hat6 h6)
        have hws : wordsT ⟨5, nam, ty, rs, lf, n, hw, cd⟩ = [(spellT 5).1, Lib.decDigits n] := by simp [wordsT, show keyT 5 = false from by decide]
        have hL := line_round (bs1 := bs ++ acc) (wf := wf || wg) (deep := deep) HI.out HWD3.out rfl (by simp) (Nat.le_trans hB HW.out.1.size) hd1 (by omega) (by rw [List.length_append, ← hws]; omega)
        have HL := Lib.hid hL
        clear hL
        go_wp2_with fail
        refine HL.out.mono ?_
        rintro e w7 ⟨rfl, hI7, hW7, hX7⟩
        have e7 : w7.cell? ⟨wr.heap.size, 0, none⟩ = some (.int .i64 5) := by have := hX7.cell 0; rw [HCS.out] at this; exact this
        have HNX : Hid (StepLoop B b deep bs wf l w (k + 1) w7) := Lib.hid ⟨_, _, HSO.out.on hlt HEK.out HG.out, by rw [outS_plain (show (5 : Int) ≠ 3 by decide), hws, ← List.append_assoc]; simp only [Bool.or_false]; exact hI7, HW.out.trans hW7⟩
        clear hI7 hW7 hX7
        go_wp2_with fail
        go_roundw
        case rel => exact ⟨k + 1, by omega, by go_num, HNX⟩
        case measure => simp [intOf]; omega
      · -- sweep
        have hkt : keyT 6 = false := by decide
        simp only [hkt] at HKY
        clear hkt
        go_wp2_with fail
        refine (HKY.out _).mono ?_
        rintro e w4 ⟨rfl, rfl⟩
        have e9 : (w3.alloc (.cells #[.string sn] 9)).cell? ⟨wr.heap.size, 5, none⟩ = some (.int .u64 (n : Int)) := by have := HWD1.out.kp.whole.cell 5; rw [HCS.out] at this; exact this
        go_wp2_with fail
        refine (HUN.out _ _ _ HWD1.out).mono ?_
        rintro e w5 ⟨rfl, h5⟩
        have HWD2 := Lib.hid h5
        clear h5
        go_wp2_with (at_builtin; refine wpList_append_own_at _ rfl _ _ 71 rfl wr.heap.size 9 i0 (.string ByteArray.empty) 1 16 Tryz.underlying71 hi hz0 hz1 hz2 rfl (by decide) _ 1 _ rfl (HWD2.out.alloc _).row ⟨w5.heap.size, 0, none⟩ 1 1 [.string dn] rfl rfl (cell_one_new _ _ _) (strs_one _ (by simp [isStr])) (by unfold maxLen; omega) (by omega) (HWD2.out.alloc _).kp.size ?_; intro v6 w6 hown6 hg6 _ hat6; obtain ⟨A6, cap6, rfl, h6⟩ := Wds.app2 (ws' := [(spellT 6).1, Lib.decDigits n]) (HWD2.out.alloc _) hown6 hg6 hat6 rfl (by first | rfl | (simp [txtV, HDN.out]; done)); have HWD3 := Lib.hid h6; clear hown6 hg6 hat6 h6)
        have hws : wordsT ⟨6, nam, ty, rs, lf, n, hw, cd⟩ = [(spellT 6).1, Lib.decDigits n] := by simp [wordsT, show keyT 6 = false from by decide]
        have hL := line_round (bs1 := bs ++ acc) (wf := wf || wg) (deep := deep) HI.out HWD3.out rfl (by simp) (Nat.le_trans hB HW.out.1.size) hd1 (by omega) (by rw [List.length_append, ← hws]; omega)
        have HL := Lib.hid hL
        clear hL
        go_wp2_with fail
        refine HL.out.mono ?_
        rintro e w7 ⟨rfl, hI7, hW7, hX7⟩
        have e7 : w7.cell? ⟨wr.heap.size, 0, none⟩ = some (.int .i64 6) := by have := hX7.cell 0; rw [HCS.out] at this; exact this
        have HNX : Hid (StepLoop B b deep bs wf l w (k + 1) w7) := Lib.hid ⟨_, _, HSO.out.on hlt HEK.out HG.out, by rw [outS_plain (show (6 : Int) ≠ 3 by decide), hws, ← List.append_assoc]; simp only [Bool.or_false]; exact hI7, HW.out.trans hW7⟩
        clear hI7 hW7 hX7
        go_wp2_with fail
        go_roundw
        case rel => exact ⟨k + 1, by omega, by go_num, HNX⟩
        case measure => simp [intOf]; omega
      · -- compact
        have hkt : keyT 7 = false := by decide
        simp only [hkt] at HKY
        clear hkt
        go_wp2_with fail
        refine (HKY.out _).mono ?_
        rintro e w4 ⟨rfl, rfl⟩
        have hws : wordsT ⟨7, nam, ty, rs, lf, n, hw, cd⟩ = [(spellT 7).1] := by simp [wordsT, show keyT 7 = false from by decide]
        have hL := line_round (bs1 := bs ++ acc) (wf := wf || wg) (deep := deep) HI.out HWD1.out rfl (by simp) (Nat.le_trans hB HW.out.1.size) hd1 (by omega) (by rw [List.length_append, ← hws]; omega)
        have HL := Lib.hid hL
        clear hL
        go_wp2_with fail
        refine HL.out.mono ?_
        rintro e w7 ⟨rfl, hI7, hW7, hX7⟩
        have e7 : w7.cell? ⟨wr.heap.size, 0, none⟩ = some (.int .i64 7) := by have := hX7.cell 0; rw [HCS.out] at this; exact this
        have HNX : Hid (StepLoop B b deep bs wf l w (k + 1) w7) := Lib.hid ⟨_, _, HSO.out.on hlt HEK.out HG.out, by rw [outS_plain (show (7 : Int) ≠ 3 by decide), hws, ← List.append_assoc]; simp only [Bool.or_false]; exact hI7, HW.out.trans hW7⟩
        clear hI7 hW7 hX7
        go_wp2_with fail
        go_roundw
        case rel => exact ⟨k + 1, by omega, by go_num, HNX⟩
        case measure => simp [intOf]; omega
      · -- stats
        have hkt : keyT 8 = false := by decide
        simp only [hkt] at HKY
        clear hkt
        go_wp2_with fail
        refine (HKY.out _).mono ?_
        rintro e w4 ⟨rfl, rfl⟩
        have hws : wordsT ⟨8, nam, ty, rs, lf, n, hw, cd⟩ = [(spellT 8).1] := by simp [wordsT, show keyT 8 = false from by decide]
        have hL := line_round (bs1 := bs ++ acc) (wf := wf || wg) (deep := deep) HI.out HWD1.out rfl (by simp) (Nat.le_trans hB HW.out.1.size) hd1 (by omega) (by rw [List.length_append, ← hws]; omega)
        have HL := Lib.hid hL
        clear hL
        go_wp2_with fail
        refine HL.out.mono ?_
        rintro e w7 ⟨rfl, hI7, hW7, hX7⟩
        have e7 : w7.cell? ⟨wr.heap.size, 0, none⟩ = some (.int .i64 8) := by have := hX7.cell 0; rw [HCS.out] at this; exact this
        have HNX : Hid (StepLoop B b deep bs wf l w (k + 1) w7) := Lib.hid ⟨_, _, HSO.out.on hlt HEK.out HG.out, by rw [outS_plain (show (8 : Int) ≠ 3 by decide), hws, ← List.append_assoc]; simp only [Bool.or_false]; exact hI7, HW.out.trans hW7⟩
        clear hI7 hW7 hX7
        go_wp2_with fail
        go_roundw
        case rel => exact ⟨k + 1, by omega, by go_num, HNX⟩
        case measure => simp [intOf]; omega
      -- END KINDS
    · have hkl : k = l.length := by omega
      subst hkl
      obtain ⟨acc, wg, hso, hI, hW⟩ := HC.out
      have he := OutSo.done hso (Nat.le_refl _)
      have HF : Hid (IsWriter B b (Lib.byteCells (bs ++ (outL deep l).1)) (wf || (outL deep l).2) wr ∧ Wrote B w wr) := Lib.hid (by rw [he]; exact ⟨hI, hW⟩)
      clear hso hI hW he
      go_wp2_with fail
      go_end0
      exact ⟨rfl, HF.out⟩
end Go.Proofs.YtifmgmiaeoiidaaGreatDoor
