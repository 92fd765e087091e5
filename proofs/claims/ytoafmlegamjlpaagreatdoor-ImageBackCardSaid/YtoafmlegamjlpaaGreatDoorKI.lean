/-
  Rows of bytes that are the call's own: appended to. Over any program. No condition.
  The walks of arena.Of and memory.From: a memory of bytes. No condition but what lies there.
  Rows of runs: one appended, as a law. The walks of region's view: number, lay. No condition but what lies there.
-/
import Derived.Test.YtoafmlegamjlpaaGreatDoorKA
import Derived.Maps.AppendAt
import Derived.Laws.OwnMore
import Derived.Tactics
import Derived.Test.YtoafmlegamjlpaaGreatDoorKG
namespace Go.Colm
open Go.Proofs.YtoafmlegamjlpaaGreatDoor
set_option linter.unusedVariables false
/-- A row of bytes that is the call's own. -/
def BOwn (e : TypeId) (B : Nat) (w : World) (v : Value) (l : List UInt8) : Prop := w.ownsRow B e 1 v l.length (bytesV l)
theorem BOwn.nil (e : TypeId) (B : Nat) (w : World) : BOwn e B w (.slice none 0 0) [] := ⟨rfl, .inl ⟨rfl, rfl⟩⟩
theorem BOwn.slice {e : TypeId} {B : Nat} {w : World} {v : Value} {l : List UInt8} (h : BOwn e B w v l) : ∃ A c, v = .slice A l.length c ∧ l.length ≤ c ∧ RowV w A (bytesV l) ∧ (A = none → c = 0) ∧ (∀ a, A = some a → a.off = 0 ∧ a.spot = none ∧ B ≤ a.block) := by
  obtain ⟨h1, h2⟩ := h
  rcases h2 with ⟨rfl, h0⟩ | ⟨g, cap, cur, rfl, hb, hg, hn, hm, hs, ht⟩
  · have : l = [] := List.eq_nil_of_length_eq_zero h0
    subst this
    exact ⟨none, 0, rfl, Nat.le_refl _, RowV.nil _ _, (fun _ => rfl), fun a h => by cases h⟩
  · refine ⟨_, cap, rfl, hn, fun i v hv => ⟨g, 0, rfl, ?_⟩, (fun h => by cases h), fun a h => by cases h; exact ⟨rfl, rfl, hb⟩⟩
    have hi := (List.getElem?_eq_some_iff.1 hv).1
    rw [bytesV_length] at hi
    rw [Nat.zero_add, cell_of_row w g i cur e (0, 0) hg, ← hv, ← ht, List.getElem?_take, if_pos (by omega)]
    simp
theorem BOwn.stays {e : TypeId} {B : Nat} {w w' : World} {v : Value} {l : List UInt8} {S : Nat → Prop} (h : BOwn e B w v l) (hk : Kept S w w') (hs : ∀ k, v.ownBlock = some k → ¬ S k) : BOwn e B w' v l := own_stays h hk hs
theorem BOwn.base {e : TypeId} {B B' : Nat} {w : World} {v : Value} {l : List UInt8} (h : BOwn e B w v l) (hb : B' ≤ B) : BOwn e B' w v l := own_base h hb
theorem run_app_b {P : Program} (w : World) (t ty e : TypeId) (ht : P.underlying t = some (.slice e)) (hi : (P.info? e).map (fun i => (i.zero, i.size, i.bytes)) = some (some (.int .u8 0), 1, 1)) (B : Nat) (v : Value) (l : List UInt8) (hown : BOwn e B w v l)
    (A : Option Addr) (m : List UInt8) (c : Nat) (hr : RowV w A (bytesV m)) (hA : A = none → c = 0) (hlen : l.length + m.length ≤ 140737488355328) (hB : B ≤ w.heap.size) :
    ∃ v' w', (Builtin.append_ #[t, t] ty #[v, .slice A m.length c]).run P w = .ok v' w' ∧ BOwn e B w' v' (l ++ m) ∧ Kept (fun k => v.ownBlock = some k) w w' ∧ (v'.ownBlock = v.ownBlock ∨ v'.ownBlock = some w.heap.size) := by
  obtain ⟨i, hi0, hi1⟩ := Option.map_eq_some_iff.1 hi
  simp only [Prod.mk.injEq] at hi1
  obtain ⟨hz, hs, hb⟩ := hi1
  cases A with
  | none =>
    have hm : m = [] := by
      cases m with
      | nil => rfl
      | cons x m =>
        obtain ⟨b, off, e0, _⟩ := hr 0 _ rfl
        cases e0
    subst hm
    have hc := hA rfl
    subst hc
    refine ⟨v, w, run_append_owned_none (P := P) w B t ty e i 1 ht hi0 v l.length (bytesV l) hown, ?_, Kept.refl _ _, .inl rfl⟩
    rw [List.append_nil]
    exact hown
  | some a =>
    have hnews : ∀ (j : Nat) (u : Value), (bytesV m)[j]? = some u → w.cell? (a.add j) = some u := fun j u hu => by
      obtain ⟨b, off, e0, hc⟩ := hr j u hu
      cases e0
      rw [Addr.add_lit]
      exact hc
    have h1 : ∀ u ∈ bytesV m, u.oneCell' = true := fun u hu => by
      simp only [bytesV, List.mem_map] at hu
      obtain ⟨x, _, rfl⟩ := hu
      rfl
    obtain ⟨v', w', hr1, hr2, hr3, _, hr5⟩ := run_append_own_at (P := P) w B t ty e i _ 1 1 ht hi0 hz hs hb rfl (by decide) v l.length (bytesV l) hown a m.length c (bytesV m) (by rw [bytesV_length, Nat.mul_one]) hnews h1 (by unfold maxLen; omega) (by omega) hB
    refine ⟨v', w', hr1, ?_, Kept.grown hr3, hr5⟩
    unfold BOwn
    rw [List.length_append, show bytesV (l ++ m) = bytesV l ++ bytesV m by simp [bytesV]]
    exact hr2
theorem wpList_app_b {P : Program} {w : World} {ops : Array Oper} {rest : List Oper} {o : Oper} {a : Act} {Q : Exit → Act → World → Prop} (hgd : o.guard = none) (s x : Operand) (t : TypeId)
    (ho : o.op = .call { callee := .builtin .append, args := #[s, x], argTypes := #[t, t] })
    (e : TypeId) (ht : P.underlying t = some (.slice e)) (hi : (P.info? e).map (fun i => (i.zero, i.size, i.bytes)) = some (some (.int .u8 0), 1, 1)) (B : Nat) (v : Value) (l : List UInt8) (hs : a.eval s = v) (hown : BOwn e B w v l)
    (A : Option Addr) (m : List UInt8) (c : Nat) (hx : a.eval x = .slice A m.length c) (hr : RowV w A (bytesV m)) (hA : A = none → c = 0) (hlen : l.length + m.length ≤ 140737488355328) (hB : B ≤ w.heap.size)
    (h : ∀ v' w', BOwn e B w' v' (l ++ m) → Kept (fun k => v.ownBlock = some k) w w' → (v'.ownBlock = v.ownBlock ∨ v'.ownBlock = some w.heap.size) → wpList P ops Q rest (a.put o.dst v') w') : wpList P ops Q (o :: rest) a w := by
  refine wpList_plain hgd fun K hK => ?_
  obtain ⟨v', w', hrun, h2, h3, h4⟩ := run_app_b (P := P) w t o.type e ht hi B v l hown A m c hr hA hlen hB
  unfold Oper.wp
  simp [execOp, ho, resolve, invoke, builtin, hs, hx, hrun, Result.andThen]
  exact hK _ _ (h v' w' h2 h3 h4)
theorem step_app_b {P : Program} {w : World} {ops : Array Oper} {o : Oper} {a : Act} {K : Act → World → Prop} {Q : Exit → Act → World → Prop} {E : Prop} (hgd : o.guard = none) (s x : Operand) (t : TypeId)
    (ho : o.op = .call { callee := .builtin .append, args := #[s, x], argTypes := #[t, t] })
    (e : TypeId) (ht : P.underlying t = some (.slice e)) (hi : (P.info? e).map (fun i => (i.zero, i.size, i.bytes)) = some (some (.int .u8 0), 1, 1)) (B : Nat) (v : Value) (l : List UInt8) (hs : a.eval s = v) (hown : BOwn e B w v l)
    (A : Option Addr) (m : List UInt8) (c : Nat) (hx : a.eval x = .slice A m.length c) (hr : RowV w A (bytesV m)) (hA : A = none → c = 0) (hlen : l.length + m.length ≤ 140737488355328) (hB : B ≤ w.heap.size)
    (h : ∀ v' w', BOwn e B w' v' (l ++ m) → Kept (fun k => v.ownBlock = some k) w w' → (v'.ownBlock = v.ownBlock ∨ v'.ownBlock = some w.heap.size) → K (a.put o.dst v') w') :
    if Region.wanted o (yielded ops a.tmps) = true then Oper.wp P o a w K Q else E := by
  rw [if_pos (by simp [Region.wanted, hgd])]
  obtain ⟨v', w', hrun, h2, h3, h4⟩ := run_app_b (P := P) w t o.type e ht hi B v l hown A m c hr hA hlen hB
  unfold Oper.wp
  simp [execOp, ho, resolve, invoke, builtin, hs, hx, hrun, Result.andThen]
  exact h v' w' h2 h3 h4
/-- A row of bytes within another one. -/
theorem RowV.sub {w : World} {g off : Nat} {b : List UInt8} (h : RowV w (some ⟨g, off, none⟩) (bytesV b)) (k m : Nat) : RowV w (some ⟨g, off + k, none⟩) (bytesV ((b.drop k).take m)) := fun j v hv => by
  have hv2 : (bytesV b)[k + j]? = some v := by
    simp only [bytesV, List.getElem?_map, List.getElem?_take, List.getElem?_drop] at hv ⊢
    split at hv
    · exact hv
    · simp at hv
  obtain ⟨b', off', e0, hc⟩ := h _ _ hv2
  cases e0
  exact ⟨g, off + k, rfl, by rw [show off + k + j = off + (k + j) by omega]; exact hc⟩
theorem RowV.some_of {w : World} {A : Option Addr} {b : List UInt8} (h : RowV w A (bytesV b)) (hb : 0 < b.length) : ∃ g off, A = some ⟨g, off, none⟩ ∧ g < w.heap.size := by
  obtain ⟨g, off, e0, hc⟩ := h.byte hb
  exact ⟨g, off, e0, lt_of_cell hc⟩
end Go.Colm
namespace Go.Proofs.YtoafmlegamjlpaaGreatDoor
open Go.RowKit Go.Colm Go.Cap Go.Maps
set_option linter.unusedVariables false
set_option linter.unusedSimpArgs false
/-- Bytes are those of a trie. -/
def BytesOf (b : List UInt8) (t : Tr) : Prop := ∀ i, i < b.length → (b.getD i 0).toNat = t.get i
theorem bys_of_own {B : Nat} {w : World} {v : Value} {b : List UInt8} {t : Tr} (h : w.ownsRow B 5 1 v b.length (bytesV b)) (hp : 0 < b.length) (ht : BytesOf b t) : ∃ g gc, v = .slice (some ⟨g, 0, none⟩) b.length gc ∧ Bys w g b.length t ∧ b.length ≤ gc ∧ B ≤ g := by
  rcases h.2 with ⟨_, h0⟩ | ⟨g, cap, cur, rfl, hb, hg, hn, hm, hs, htk⟩
  · omega
  · refine ⟨g, cap, rfl, ⟨cur, hg, by omega, fun i hi => ?_⟩, hn, hb⟩
    have hi2 : (cur.toList.take (b.length * 1))[i]? = (bytesV b)[i]? := by rw [htk]
    rw [List.getElem?_take, if_pos (by omega)] at hi2
    rw [← Array.getElem?_toList, hi2, bytesV, List.getElem?_map, List.getElem?_eq_getElem hi, Option.map_some, ← ht i hi, List.getD_eq_getElem?_getD, List.getElem?_eq_getElem hi]
    rfl
set_option maxHeartbeats 1600000 in
theorem aof_ok (A : Option Addr) (cap : Nat) (b : List UInt8) (t : Tr) (w : World) (hr : RowV w A (bytesV b)) (ht : BytesOf b t) (h16 : b.length % 16 = 0) (h1 : 16 ≤ b.length) (h2 : b.length ≤ 1048576) :
    Calls Tryz.prog 99 #[.slice A b.length cap] w fun e w' => ∃ ab gb gc, e = .returned (.pointer (some ⟨ab, 0, none⟩)) ∧ ArA ab gb gc b.length t w' ∧ w.heap.size ≤ ab ∧ w.heap.size ≤ gb ∧ Below w.heap.size w w' := by
  have HM := Lib.hid (amay_ok b.length w h16 h1 h2)
  have HCL := Lib.hid (bclone_any A cap b w (by omega) hr)
  have HT := Lib.hid ht
  have HP : Hid (0 < b.length) := Lib.hid (by omega)
  clear hr ht h16 h1 h2
  go_enter Tryz.func99, Tryz.ntmps99
  go_wp2_with fail
  refine HM.out.mono ?_
  rintro e w1 ⟨rfl, rfl⟩
  go_wp2_with fail
  refine HCL.out.mono ?_
  rintro e w2 ⟨u, rfl, hu, hb2⟩
  obtain ⟨g, gc, rfl, hby, hgc, hge⟩ := bys_of_own hu HP.out HT.out
  have HV : Hid (Bys w2 g b.length t ∧ b.length ≤ gc ∧ w1.heap.size ≤ g ∧ Below w1.heap.size w1 w2) := Lib.hid ⟨hby, hgc, hge, hb2⟩
  clear hu hby hgc hge hb2
  go_wp2_with fail
  go_ret
  have hb3 := (Below.refl w2.heap.size w2).alloc (Nat.le_refl _) (.cells #[.slice (some ⟨g, 0, none⟩) b.length gc] 120)
  exact ⟨_, g, gc, rfl, ⟨Whole.new _ _ _, HV.out.1.kept (Kept.below hb3 fun _ => False) id, HV.out.2.1⟩, HV.out.2.2.2.size, HV.out.2.2.1, below_chain HV.out.2.2.2 hb3⟩
theorem newB_loads {s n : Nat} (h1 : s < 4294967296) (h2 : n < 4294967296) : (newB s n 3).load 8 4 = 1129270338 ∧ (newB s n 3).load 12 4 = s ∧ (newB s n 3).load 16 4 = n := by
  simp only [newB]
  refine ⟨?_, ?_, ?_⟩
  · rw [Tr.load_other (by decide) (by decide), Tr.load_other (by decide) (by decide), Tr.load_store _ _ _ _ (by decide)]
  · rw [Tr.load_other (by decide) (by decide), Tr.load_store _ _ _ _ (by decide)]
    exact Nat.mod_eq_of_lt h1
  · rw [Tr.load_store _ _ _ _ (by decide)]
    exact Nat.mod_eq_of_lt h2
set_option maxRecDepth 100000 in
set_option maxHeartbeats 6400000 in
theorem from_ok (s n : Nat) (A : Option Addr) (cap : Nat) (b : List UInt8) (t : Tr) (w : World) (he : EnvC w) (ok : okC s n = true) (hr : RowV w A (bytesV b)) (hlen : b.length = sizeC s n) (ht : BytesOf b t)
    (l8 : t.load 8 4 = 1129270338) (l12 : t.load 12 4 = s) (l16 : t.load 16 4 = n) :
    Calls Tryz.prog 57 #[.agg #[.int .i64 (s : Int), .int .i64 (n : Int)], .slice A b.length cap] w fun e w' => ∃ Λ : MLay, e = .returned (.tuple #[.pointer (some ⟨Λ.mb, 0, none⟩), .int .i64 0]) ∧ HasM Λ ⟨s, n, t, kindsL (runsC s n)⟩ w' ∧ MFrom w.heap.size Λ ∧ Below w.heap.size w w' := by
  obtain ⟨w0, hw0, hb0, x0, x1⟩ := cfg_box s n w
  obtain ⟨z1, z2, z3, z4, z5, z6⟩ := sizeC_le ok
  obtain ⟨k1, k2, k3, k4, k5⟩ := okC_iff.1 ok
  obtain ⟨n8, n12, n16⟩ := newB_loads (s := s) (n := n) (by omega) (by omega)
  have HN := Lib.hid (memNew_ok s n w0 (he.below hb0) ok)
  have HB0 := Lib.hid hb0
  have HAO := Lib.hid (fun (W : World) (h : Below w.heap.size w W) => aof_ok A cap b t W (hr.below h) ht (by omega) (by omega) (by omega))
  have HLE := Lib.hid hlen
  obtain ⟨L, hL⟩ : ∃ L, L = b.length := ⟨_, rfl⟩
  have hL2 : L ≤ 200000 ∧ 8000 ≤ L := by omega
  have HL : Hid (L = sizeC s n) := Lib.hid (by omega)
  rw [← hL] at HAO ⊢
  have HLD : Hid (t.load 8 4 = 1129270338 ∧ t.load 12 4 = s ∧ t.load 16 4 = n) := Lib.hid ⟨l8, l12, l16⟩
  have HND : Hid ((newB s n 3).load 8 4 = 1129270338 ∧ (newB s n 3).load 12 4 = s ∧ (newB s n 3).load 16 4 = n) := Lib.hid ⟨n8, n12, n16⟩
  have HOK := Lib.hid ok
  clear hb0 he ok hr hlen ht l8 l12 l16 z1 z2 z3 z4 z5 z6 n8 n12 n16 hL
  go_enter Tryz.func57, Tryz.ntmps57
  go_upto_region 1 with fail
  rw [← hw0]
  clear hw0
  go_wp2_with fail
  refine HN.out.mono ?_
  rintro e w1 ⟨Λ, rfl, hm, hfr, hb1⟩
  obtain ⟨c0, c1, c2, c3⟩ := hm.mc
  have HAL := Lib.hid (alen_any hm)
  rw [show (newMm s n).size = L from HL.out.symm] at HAL
  have HM1 := Lib.hid hm
  have HFR := Lib.hid hfr
  have HB1 := Lib.hid (below_chain HB0.out hb1)
  have HAO1 := Lib.hid (HAO.out w1 HB1.out)
  clear hm hfr hb1 x0 x1 HN HAO
  go_wp2_with fail
  refine HAL.out.mono ?_
  rintro e w2 ⟨rfl, rfl⟩
  go_wp2_with fail
  refine HAO1.out.mono ?_
  rintro e w3 ⟨ab, gb, gc, rfl, har, hab, hgb, hb3⟩
  have hm3 := HM1.out.below hb3
  have HM3 := Lib.hid hm3
  have HAR := Lib.hid har
  have HGE : Hid (w2.heap.size ≤ ab ∧ w2.heap.size ≤ gb) := Lib.hid ⟨hab, hgb⟩
  have HB3 := Lib.hid (below_chain HB1.out hb3)
  obtain ⟨d0, d1, d2, d3⟩ := hm3.mc
  have e0 := hm3.env.fld (i := 0) (by decide) (v := 8) rfl
  have e1 := hm3.env.fld (i := 1) (by decide) (v := 12) rfl
  have e2 := hm3.env.fld (i := 2) (by decide) (v := 16) rfl
  have hga := fun a (ha : a % 4 = 0) (hr : a + 4 ≤ L) => aget_A HAR.out (by omega) a 4 (.inr (.inr (.inl rfl))) ha hr
  have hgm := fun a (ha : a % 4 = 0) (hr : a + 4 ≤ (newMm s n).size) => aget_ok hm3 a 4 (.inr (.inr (.inl rfl))) ha hr
  have ga8 := hga 8 (by decide) (by omega)
  have ga12 := hga 12 (by decide) (by omega)
  have ga16 := hga 16 (by decide) (by omega)
  rw [show (newMm s n).size = L from HL.out.symm] at hgm
  have gm8 := hgm 8 (by decide) (by omega)
  have gm12 := hgm 12 (by decide) (by omega)
  have gm16 := hgm 16 (by decide) (by omega)
  rw [HLD.out.1] at ga8
  rw [HLD.out.2.1] at ga12
  rw [HLD.out.2.2] at ga16
  rw [show (newMm s n).b = newB s n 3 from rfl, HND.out.1] at gm8
  rw [show (newMm s n).b = newB s n 3 from rfl, HND.out.2.1] at gm12
  rw [show (newMm s n).b = newB s n 3 from rfl, HND.out.2.2] at gm16
  have GA8 := Lib.hid ga8
  have GA12 := Lib.hid ga12
  have GA16 := Lib.hid ga16
  have GM8 := Lib.hid gm8
  have GM12 := Lib.hid gm12
  have GM16 := Lib.hid gm16
  clear hm3 har hab hgb hb3 hga hgm ga8 ga12 ga16 gm8 gm12 gm16 HAO1 HAL c0 c1 c2 c3
  have f1 := HM3.out.m.frozen 1
  go_wp2_with fail
  go_loop [4, 5, 9, 10, 11, 12, 13, 31] (fun s4 s5 _ _ _ _ _ s31 => ∃ i : Nat, i ≤ 3 ∧ s31 = .int .i64 i ∧ s4 = .pointer none ∧ s5 = .int .i64 0) (fun _ _ _ _ _ _ _ s31 => match s31 with | .int _ m => 3 - m.toNat | _ => 0)
  case atStart => exact ⟨0, by omega, rfl, rfl, rfl⟩
  case round =>
    obtain ⟨i, hi, rfl, rfl, rfl⟩ := hrel
    have hcs : i = 0 ∨ i = 1 ∨ i = 2 ∨ i = 3 := by omega
    rcases hcs with rfl | rfl | rfl | rfl
    · go_wp2_with fail
      refine GA8.out.mono ?_
      rintro e w4 ⟨rfl, rfl⟩
      go_wp2_with fail
      refine GM8.out.mono ?_
      rintro e w5 ⟨rfl, rfl⟩
      go_wp2_with fail
      go_round
      case rel => exact ⟨1, by omega, rfl, rfl, rfl⟩
      case measure => simp
    · go_wp2_with fail
      refine GA12.out.mono ?_
      rintro e w4 ⟨rfl, rfl⟩
      go_wp2_with fail
      refine GM12.out.mono ?_
      rintro e w5 ⟨rfl, rfl⟩
      go_wp2_with fail
      go_round
      case rel => exact ⟨2, by omega, rfl, rfl, rfl⟩
      case measure => simp
    · go_wp2_with fail
      refine GA16.out.mono ?_
      rintro e w4 ⟨rfl, rfl⟩
      go_wp2_with fail
      refine GM16.out.mono ?_
      rintro e w5 ⟨rfl, rfl⟩
      go_wp2_with fail
      go_round
      case rel => exact ⟨3, by omega, rfl, rfl, rfl⟩
      case measure => simp
    · go_wp2_with fail
      go_ret2
      have hm3 := HM3.out
      have hlt : ∀ k, MBlk Λ k → k < w2.heap.size := fun k hk => HM1.out.lt hk
      obtain ⟨a1, a2, a3, a4, a5, a6, a7, a8, a9⟩ := hm3.apart
      have hge := HGE.out
      have hmb := hlt _ (.inl rfl)
      have hwb := hlt _ (.inr (.inl rfl))
      have hkb := hlt _ (.inr (.inr (.inr (.inr (.inl rfl)))))
      have hk : Kept (fun k => k = Λ.mb) w3 (w3.setCell ⟨Λ.mb, 1, none⟩ (.pointer (some ⟨ab, 0, none⟩))) := (Kept.refl (fun k => k = Λ.mb) w3).setCell (p := ⟨Λ.mb, 1, none⟩) (.inl rfl) _
      have ha := HAR.out.kept hk (by omega) (by omega)
      have hw := hm3.wa.kept hk (Ne.symm a1) (Ne.symm a4)
      have htab : ∀ k, Tab k → ¬ (k = Λ.mb) := fun k hk2 e => by
        have h1 := HB0.out
        have h2 := HFR.out.mb
        obtain ⟨v, hv⟩ := HM1.out.env.int hk2
        have h3 := hm3.env.int hk2
        obtain ⟨v3, hv3⟩ := h3
        subst e
        have := hm3.m.cell 0
        rw [this] at hv3
        cases hv3
      have hsz : (newMm s n).size = L := HL.out.symm
      have hsz2 : (⟨s, n, t, kindsL (runsC s n)⟩ : Mm).size = L := HL.out.symm
      refine ⟨⟨Λ.mb, Λ.wb, ab, gb, Λ.kb, gc, Λ.kc⟩, rfl, ⟨hm3.env.kept hk htab, HOK.out, hm3.m.put 1 _, ?_, ?_, ?_, ?_, ?_, ?_, ?_⟩, ⟨?_, ?_, ?_, ?_, ?_⟩, ?_⟩
      · rw [hsz2, ← hsz]; exact hw.1
      · rw [hsz2]; exact ha.1
      · rw [hsz2]; exact ha.2.1
      · rw [hsz2, ← hsz]; exact hw.2.1
      · show gb ≠ Λ.kb
        omega
      · rw [hsz2]; exact ha.2.2
      · rw [hsz2, ← hsz]; exact hw.2.2
      · exact Nat.le_trans HB0.out.size HFR.out.mb
      · exact Nat.le_trans HB0.out.size HFR.out.wb
      · show w.heap.size ≤ ab
        have := HB1.out.size; omega
      · show w.heap.size ≤ gb
        have := HB1.out.size; omega
      · exact Nat.le_trans HB0.out.size HFR.out.kb
      · exact HB3.out.trans (hk.to_below HB3.out.size fun k hk2 e => by have := HFR.out.mb; have := HB0.out.size; omega)
end Go.Proofs.YtoafmlegamjlpaaGreatDoor
namespace Go.Proofs.YtoafmlegamjlpaaGreatDoor
open Go.RowKit Go.Colm Go.Cap Go.Maps
set_option linter.unusedVariables false
set_option linter.unusedSimpArgs false
theorem run_app_run (w : World) (ty : TypeId) (B : Nat) (v : Value) (l : List Rn) (hown : RunsOwn B w v l) (g : Nat) (r : Rn) (hg : Whole w g 101 #[.int .i64 (r.a : Int), .int .i64 (r.n : Int), .int .i64 (r.k : Int)]) (hlen : l.length ≤ 100000000) (hB : B ≤ w.heap.size) :
    ∃ v' w', (Builtin.append_ #[67, 67] ty #[v, .slice (some ⟨g, 0, none⟩) 1 1]).run Tryz.prog w = .ok v' w' ∧ RunsOwn B w' v' (l ++ [r]) ∧ Kept (fun k => v.ownBlock = some k) w w' ∧ (v'.ownBlock = v.ownBlock ∨ v'.ownBlock = some w.heap.size) := by
  obtain ⟨i0, hi, hz0, hz1, hz2⟩ := info_parts run_info
  have hnews : ∀ (j : Nat) (u : Value), (runV r)[j]? = some u → w.cell? ((⟨g, 0, none⟩ : Addr).add j) = some u := fun j u hu => by
    rw [Addr.add_lit, Nat.zero_add, hg.cell]
    simpa [runV] using hu
  obtain ⟨v', w', hr1, hr2, hr3, _, hr5⟩ := run_append_own_at (P := Tryz.prog) w B 67 ty 101 i0 _ 3 24 Tryz.underlying67 hi hz0 hz1 hz2 rfl (by decide) v l.length (runsV l) hown ⟨g, 0, none⟩ 1 1 (runV r) rfl hnews (fun u hu => by
    simp [runV] at hu
    rcases hu with rfl | rfl | rfl <;> rfl) (by unfold maxLen; omega) (by omega) hB
  refine ⟨v', w', hr1, ?_, Kept.grown hr3, hr5⟩
  rw [RunsOwn, runsV_snoc, List.length_append]
  exact hr2
theorem wpList_app_run {w : World} {ops : Array Oper} {rest : List Oper} {o : Oper} {a : Act} {Q : Exit → Act → World → Prop} (hgd : o.guard = none) (s x : Operand)
    (ho : o.op = .call { callee := .builtin .append, args := #[s, x], argTypes := #[67, 67] })
    (B : Nat) (v : Value) (l : List Rn) (hs : a.eval s = v) (hown : RunsOwn B w v l)
    (g : Nat) (r : Rn) (hx : a.eval x = .slice (some ⟨g, 0, none⟩) 1 1) (hg : Whole w g 101 #[.int .i64 (r.a : Int), .int .i64 (r.n : Int), .int .i64 (r.k : Int)]) (hlen : l.length ≤ 100000000) (hB : B ≤ w.heap.size)
    (h : ∀ v' w', RunsOwn B w' v' (l ++ [r]) → Kept (fun k => v.ownBlock = some k) w w' → (v'.ownBlock = v.ownBlock ∨ v'.ownBlock = some w.heap.size) → wpList Tryz.prog ops Q rest (a.put o.dst v') w') : wpList Tryz.prog ops Q (o :: rest) a w := by
  refine wpList_plain hgd fun K hK => ?_
  obtain ⟨v', w', hrun, h2, h3, h4⟩ := run_app_run w o.type B v l hown g r hg hlen hB
  unfold Oper.wp
  simp [execOp, ho, resolve, invoke, builtin, hs, hx, hrun, Result.andThen]
  exact hK _ _ (h v' w' h2 h3 h4)
theorem RunsOwn.stays {B : Nat} {w w' : World} {v : Value} {l : List Rn} {S : Nat → Prop} (h : RunsOwn B w v l) (hk : Kept S w w') (hs : ∀ k, v.ownBlock = some k → ¬ S k) : RunsOwn B w' v l := own_stays h hk hs
theorem RunsOwn.slice {B : Nat} {w : World} {v : Value} {l : List Rn} (h : RunsOwn B w v l) : ∃ A c, v = .slice A l.length c := own_slice h
theorem RunsOwn.far {B : Nat} {w : World} {v : Value} {l : List Rn} {g : Nat} {t : TypeId} {cs : Array Value} (h : RunsOwn B w v l) (hw : Whole w g t cs) (ht : t ≠ 101) : v.ownBlock ≠ some g := own_far h hw ht
/-- A view of an image: its config, its bytes, its runs (that do not lie in block G). -/
def ViewAt (vb G s n : Nat) (A : Option Addr) (L cap : Nat) (l : List Rn) (W : World) : Prop := ∃ v, Whole W vb 214 #[.int .i64 (s : Int), .int .i64 (n : Int), .slice A L cap, v] ∧ RunsOwn vb W v l ∧ v.ownBlock ≠ some G
theorem ViewAt.below {vb G s n L cap : Nat} {A : Option Addr} {l : List Rn} {w w' : World} (h : ViewAt vb G s n A L cap l w) (hb : Below w.heap.size w w') : ViewAt vb G s n A L cap l w' := by
  obtain ⟨v, h1, h2, h3⟩ := h
  exact ⟨v, (hb.block _ h1.lt).trans h1, h2.stays (Kept.below hb fun _ => False) (fun _ _ h => h), h3⟩
theorem ViewAt.lt {vb G s n L cap : Nat} {A : Option Addr} {l : List Rn} {w : World} (h : ViewAt vb G s n A L cap l w) : vb < w.heap.size := by
  obtain ⟨v, h1, h2, _⟩ := h
  exact h1.lt
theorem leF_congr : ∀ (k : Nat) (f g : Nat → Nat), (∀ j, j < k → f j = g j) → leF f k = leF g k
  | 0, _, _, _ => rfl
  | k + 1, f, g, h => by rw [leF, leF, h 0 (by omega), leF_congr k _ _ fun j hj => h (j + 1) (by omega)]
theorem row_byte {w : World} {g off : Nat} {b : List UInt8} (hr : RowV w (some ⟨g, off, none⟩) (bytesV b)) {i : Nat} (hi : i < b.length) : w.cell? ⟨g, off + i, none⟩ = some (.int .u8 ((b.getD i 0).toNat : Int)) := by
  obtain ⟨g', off', e, hc⟩ := hr.byte hi
  cases e
  rw [hc, List.getD_eq_getElem?_getD, List.getElem?_eq_getElem hi]
  rfl
set_option maxHeartbeats 1600000 in
theorem vnum_ok (vb G s n g off cap at_ wd : Nat) (b : List UInt8) (t : Tr) (l : List Rn) (w : World) (h : ViewAt vb G s n (some ⟨g, off, none⟩) b.length cap l w) (hr : RowV w (some ⟨g, off, none⟩) (bytesV b)) (ht : BytesOf b t) (hlen : b.length < 8589934592) (hb : wd = 2 ∨ wd = 4) (hd : at_ % wd = 0) (hin : at_ + wd ≤ b.length) :
    Calls Tryz.prog 218 #[.pointer (some ⟨vb, 0, none⟩), .int .i64 (at_ : Int), .int .i64 (wd : Int)] w fun e w' => e = .returned (.int .i64 (t.load at_ wd : Nat)) ∧ w' = w := by
  obtain ⟨v, h1, h2, _⟩ := h
  have c2 : w.cell? ⟨vb, 2, none⟩ = some (.slice (some ⟨g, off, none⟩) b.length cap) := h1.cell 2
  have hl := load_ok g off b.length cap at_ wd (fun j => (b.getD (at_ + j) 0).toNat) w (by rcases hb with rfl | rfl; exact .inr (.inl rfl); exact .inr (.inr (.inl rfl))) hd hin hlen (fun j => UInt8.toNat_lt _) (fun j hj => row_byte hr (by omega))
  rw [leF_congr wd _ (fun j => t.get (at_ + j)) (fun j hj => ht (at_ + j) (by omega)), leF_load] at hl
  have hv4 : t.load at_ wd < 4294967296 := by
    rcases hb with rfl | rfl
    · have := Tr.load_lt 2 t at_; omega
    · have := Tr.load_lt 4 t at_; omega
  obtain ⟨x, hx⟩ : ∃ x, x = t.load at_ wd := ⟨_, rfl⟩
  rw [← hx] at hl hv4 ⊢
  have HL := Lib.hid hl
  obtain ⟨L, hL⟩ : ∃ L, L = b.length := ⟨_, rfl⟩
  rw [← hL] at c2 HL
  clear h1 h2 hr ht hl hx hd hin hb hL hlen
  go_enter Tryz.func218, Tryz.ntmps218
  go_wp2_with fail
  refine HL.out.mono ?_
  rintro e w1 ⟨rfl, rfl⟩
  go_wp2_with fail
  go_ret
  exact ⟨rfl, rfl⟩
/-- So many bytes more of a kind. -/
def layV (l : List Rn) (n k : Nat) : List Rn := if 0 < n then l ++ [⟨nextR l, n, k⟩] else l
set_option maxRecDepth 100000 in
set_option maxHeartbeats 6400000 in
theorem vlay_ok (vb G s n L cap m k : Nat) (A : Option Addr) (l : List Rn) (w : World) (h : ViewAt vb G s n A L cap l w) (hG : G < w.heap.size) (hm : m < 8589934592) (hk : k < 256) (hl : l.length < 100000) (hn : nextR l < 8589934592) :
    Calls Tryz.prog 165 #[.pointer (some ⟨vb, 0, none⟩), .int .i64 (m : Int), .int .i64 (k : Int)] w fun x w' => x = .returned (.tuple #[]) ∧ ViewAt vb G s n A L cap (layV l m k) w' ∧ Kept (fun j => vb ≤ j ∧ (j ≠ G ∨ j = vb)) w w' := by
  obtain ⟨v, h1, h2, hvG⟩ := h
  obtain ⟨A3, c3, hv⟩ := h2.slice
  have hfar := h2.far h1 (by decide)
  have hge : ∀ j, v.ownBlock = some j → vb ≤ j ∧ (j ≠ G ∨ j = vb) := fun j hj => ⟨(own_ge h2 hj).1, .inl fun e => hvG (by rw [hj, e])⟩
  have c0 : w.cell? ⟨vb, 3, none⟩ = some v := h1.cell 3
  have f0 := h1.frozen 3
  obtain ⟨ll, hll⟩ : ∃ ll, ll = l.length := ⟨_, rfl⟩
  rw [← hll] at hv hl
  have HB := Lib.hid h1
  have HR := Lib.hid h2
  have HFAR := Lib.hid hfar
  have HGE := Lib.hid hge
  have HLL := Lib.hid hll
  have hlt : vb < w.heap.size := h1.lt
  obtain ⟨z, hz⟩ : ∃ z, z = nextR l := ⟨_, rfl⟩
  have HZ := Lib.hid hz
  rw [← hz] at hn
  -- the end, from a new block with the run
  have hend : ∀ (W w3 : World) (v' : Value), Kept (fun _ => False) w W → RunsOwn vb w3 v' (l ++ [⟨z, m, k⟩]) → Kept (fun j => v.ownBlock = some j) W w3 → (v'.ownBlock = v.ownBlock ∨ v'.ownBlock = some W.heap.size) → 0 < m →
      Whole w3 vb 214 #[.int .i64 (s : Int), .int .i64 (n : Int), .slice A L cap, v] ∧ (ViewAt vb G s n A L cap (layV l m k) (w3.setCell ⟨vb, 3, none⟩ v') ∧ Kept (fun j => vb ≤ j ∧ (j ≠ G ∨ j = vb)) w (w3.setCell ⟨vb, 3, none⟩ v')) := by
    intro W w3 v' hW hown hkp hat hm0
    have hw3 : Whole w3 vb 214 #[.int .i64 (s : Int), .int .i64 (n : Int), .slice A L cap, v] := hkp.whole (hW.whole h1 id) hfar
    refine ⟨hw3, ⟨v', hw3.put 3 v', ?_, ?_⟩, ?_⟩
    · rw [layV, if_pos hm0, ← hz]
      exact hown.stays ((Kept.refl (fun j => j = vb) w3).setCell (p := ⟨vb, 3, none⟩) (.inl rfl) _) (fun j hj e => (hown.far hw3 (by decide)) (by rw [hj, e]))
    · rcases hat with h | h
      · rw [h]; exact hvG
      · rw [h]
        intro e
        have e2 : W.heap.size = G := Option.some.inj e
        have := hW.size
        omega
    · exact ((hW.mono fun _ _ h => h.elim).trans (hkp.mono fun j _ hj => hge j hj)).setCell (p := ⟨vb, 3, none⟩) (.inl ⟨Nat.le_refl _, .inr rfl⟩) _
  have HEND := Lib.hid hend
  have hstay : ¬ 0 < m → ∀ W, Below w.heap.size w W → ViewAt vb G s n A L cap (layV l m k) W ∧ Kept (fun j => vb ≤ j ∧ (j ≠ G ∨ j = vb)) w W := fun hm0 W hb => ⟨by rw [layV, if_neg hm0]; exact ViewAt.below ⟨v, h1, h2, hvG⟩ hb, Kept.below hb _⟩
  have HSTAY := Lib.hid hstay
  rcases Nat.eq_zero_or_pos ll with h0 | hpos
  · have hz0 : z = 0 := by
      have : l = [] := List.eq_nil_of_length_eq_zero (by omega)
      rw [hz, this]
      rfl
    subst hz0
    subst h0
    subst hv
    have hRD : RunsOwn vb w (.slice A3 0 c3) l := h2
    have HRD := Lib.hid hRD
    clear h1 h2 hfar hge hll hz hend hstay hRD
    go_enter Tryz.func165, Tryz.ntmps165
    by_cases hm0 : 0 < m
    · go_wp2_with (at_builtin; refine wpList_app_run rfl _ _ rfl vb (.slice A3 0 c3) l rfl (HRD.out.stays (S := fun _ => False) ((Kept.refl _ w).alloc _) fun _ _ => id) w.heap.size ⟨0, m, k⟩ rfl (Whole.new w _ _) (by have := HLL.out; omega) (by simp; omega) ?_; intro v' w3 h3 hk3 hat3; obtain ⟨hw3, hfin⟩ := HEND.out _ w3 v' ((Kept.refl (fun _ => False) w).alloc _) h3 hk3 hat3 hm0; have z3 : w3.cell? ⟨vb, 3, none⟩ = some (.slice A3 0 c3) := hw3.cell 3; have f3 := hw3.frozen 3; obtain ⟨A4, c4, hv4⟩ := h3.slice; have HV4 := Lib.hid hv4; have HFIN := Lib.hid hfin; obtain ⟨l4, hl4⟩ : ∃ l4, l4 = (l ++ [(⟨0, m, k⟩ : Rn)]).length := ⟨_, rfl⟩; rw [← hl4] at hv4; subst hv4; clear hw3 hfin h3 hk3 hl4 hat3)
      go_end0
      exact ⟨rfl, HFIN.out⟩
    · go_wp2_with fail
      go_end0
      exact ⟨rfl, HSTAY.out hm0 _ (Below.refl _ _)⟩
  · obtain ⟨g, hA, _, hcap, hcell⟩ := own_cells (by rw [RunsOwn, ← hll, hv] at h2; exact h2) hpos (by decide)
    subst hA
    obtain ⟨p, hp⟩ : ∃ p, ll = p + 1 := ⟨ll - 1, by omega⟩
    obtain ⟨g0, g1, g2⟩ := runsV_get l p (by omega)
    have d0 := hcell _ _ g0
    have d1 := hcell _ _ g1
    obtain ⟨x, hx⟩ : ∃ x, x = l[p].a := ⟨_, rfl⟩
    obtain ⟨y, hy⟩ : ∃ y, y = l[p].n := ⟨_, rfl⟩
    rw [← hx] at d0
    rw [← hy] at d1
    have hnx : z = x + y := by
      rw [hz, nextR, List.getLast?_eq_getElem?, show l.length - 1 = p by omega, List.getElem?_eq_getElem (by omega), hx, hy]
    rw [hp] at hv hcap
    subst hv
    have HRD : Hid (∀ N, RunsOwn vb (w.drewN N) (.slice (some ⟨g, 0, none⟩) (p + 1) c3) l) := Lib.hid fun _ => h2
    have HNX : Hid ((x : Int) + (y : Int) = (z : Int)) := Lib.hid (by omega)
    have hxy : x + y < 8589934592 := by omega
    clear h1 h2 hfar hge hll hz hend hstay hcell g0 g1 g2 hnx hx hy
    go_enter Tryz.func165, Tryz.ntmps165
    go_wp2_with fail
    go_quiet (fail)
    clear d0 d1
    rw [HNX.out]
    by_cases hm0 : 0 < m
    · have hkw : Kept (fun _ => False) w (w.drewN nq) := (Kept.refl _ w).drewN nq
      have HKW := Lib.hid hkw
      obtain ⟨w2, hw2⟩ : ∃ w2, w2 = w.drewN nq := ⟨_, rfl⟩
      have HRD2 := Lib.hid (HRD.out nq)
      have hsz2 : w2.heap.size = w.heap.size := by rw [hw2]; rfl
      rw [← hw2] at HKW HRD2 ⊢
      have c2 : w2.cell? ⟨vb, 3, none⟩ = some (.slice (some ⟨g, 0, none⟩) (p + 1) c3) := by rw [hw2]; exact c0
      clear hw2 hkw hsz2
      have hlt2 : vb ≤ w2.heap.size := Nat.le_trans (Nat.le_of_lt hlt) HKW.out.size
      go_wp2_with (at_builtin; refine wpList_app_run rfl _ _ rfl vb (.slice (some ⟨g, 0, none⟩) (p + 1) c3) l rfl (HRD2.out.stays (S := fun _ => False) ((Kept.refl _ w2).alloc _) fun _ _ => id) w2.heap.size ⟨z, m, k⟩ rfl (Whole.new w2 _ _) (by have := HLL.out; omega) (by simp; omega) ?_; intro v' w3 h3 hk3 hat3; obtain ⟨hw3, hfin⟩ := HEND.out _ w3 v' (HKW.out.alloc _) h3 hk3 hat3 hm0; have z3 : w3.cell? ⟨vb, 3, none⟩ = some (.slice (some ⟨g, 0, none⟩) (p + 1) c3) := hw3.cell 3; have f3 := hw3.frozen 3; obtain ⟨A4, c4, hv4⟩ := h3.slice; have HV4 := Lib.hid hv4; have HFIN := Lib.hid hfin; obtain ⟨l4, hl4⟩ : ∃ l4, l4 = (l ++ [(⟨z, m, k⟩ : Rn)]).length := ⟨_, rfl⟩; rw [← hl4] at hv4; subst hv4; clear hw3 hfin h3 hk3 hl4 hat3)
      go_end0
      exact ⟨rfl, HFIN.out⟩
    · go_wp2_with fail
      go_end0
      exact ⟨rfl, HSTAY.out hm0 _ (below_of_drewN _ _)⟩
end Go.Proofs.YtoafmlegamjlpaaGreatDoor
