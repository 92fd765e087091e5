/-
  The walk of a model's take: a block, of a slab that has one or of a new one. No condition but sizes.
-/
import Derived.Test.YtimdedkejadnfaaGreatDoorMoF
import Derived.Maps.AppendAt
import Derived.Laws.ResultCell
import Derived.Carry
namespace Go.Proofs.YtimdedkejadnfaaGreatDoor
open Go.RowKit Go.Colm Go.Maps
set_option linter.unusedVariables false
set_option linter.unusedSimpArgs false
set_option linter.unusedSectionVars false

theorem firstP_spec {q : Nat → Part → Bool} {l : List Part} {k : Nat} (h : firstP q l = some k) : ∃ hk : k < l.length, q k l[k] = true := by
  rw [firstP, List.find?_range_eq_some] at h
  obtain ⟨h1, h2, _⟩ := h
  have hk : k < l.length := by simpa using h2
  exact ⟨hk, by simpa [hk] using h1⟩
/-- A slab's first free block is taken. -/
def popP (p : Part) : Part := { p with live := putA (p.free.headD 0) .blank p.live, free := p.free.tail }
def newP (c : Nat) : Part := ⟨c, [], List.range (blocksC c)⟩
/-- A block is taken: which, and what there is then. -/
def takeM (M : Mod) (c : Nat) : Option (Nat × Nat) × Mod :=
  match firstP (fitsC c) M.parts with
  | some i => match M.parts[i]? with
    | some p => (some (i, p.free.headD 0), { M with parts := M.parts.set i (popP p) })
    | none => (none, M)
  | none => match firstP freeC M.parts with
    | some i => (some (i, (newP c).free.headD 0), { M with parts := M.parts.set i (popP (newP c)) })
    | none => (none, M)
theorem hldV_inj {L : Lay} : ∀ a b : Nat, Value.int .i64 (a : Int) = Value.int .i64 (b : Int) → a = b := fun a b h => by
  simp only [Value.int.injEq, true_and] at h
  omega
theorem putA_length {K V : Type} [DecidableEq K] (k : K) (v : V) : ∀ l : List (K × V), (putA k v l).length ≤ l.length + 1
  | [] => by simp [putA]
  | p :: r => by
    rw [putA]
    split
    · simp
    · have := putA_length k v r
      simp
      omega

theorem results_cell_row2 {P : Program} {fn : Func} {p u : Tmp} {ty : TypeId} (h : fn.results = #[.cell p ty, .tmp u]) (tmps : Array Value) (w : World) (g : Nat) (t : TypeId) (cs : Array Value) (fr : Nat × Nat) (d : TypeDesc)
    (hp : tmps.getD p undef = .pointer (some ⟨g, 0, none⟩)) (hg : w.heap[g]? = some (.cells cs t fr))
    (hu : P.underlying ty = some d) (hd : (match d with | .struct _ | .array _ _ => true | _ => false) = true) (hi : (P.info? ty).map (·.size) = some cs.size) :
    (results fn tmps).run P w = .ok (.tuple #[.agg cs, tmps.getD u undef]) w := by
  rw [results_cell_tmp h, hp]
  simp [asAddr, run_loadVar_row w g t ty cs fr d hg hu hd hi, Result.andThen]

/-- pop, said of the model. -/
theorem popM_any (L : Lay) (M : Mod) (w : World) (i : Nat) (p : Part) (h : Has L M w) (hp : M.parts[i]? = some p) (hf : 0 < p.free.length) (hsm : ∀ b ∈ p.free, b < 4611686018427387904) (hlen : p.free.length < 1099511627776) :
    Calls Tryz.prog 122 #[.pointer (some ⟨L.sb, i * 3, none⟩)] w fun e w' => e = .returned (.int .i64 ((p.free.headD 0 : Nat) : Int)) ∧
      ∃ fv', Goes L M w { L with fv := upd L.fv i fv' } { M with parts := M.parts.set i (popP p) } w' := by
  have hi : i < M.parts.length := (List.getElem?_eq_some_iff.1 hp).1
  obtain ⟨cls, live, free⟩ := p
  obtain ⟨b, r, rfl⟩ : ∃ b r, free = b :: r := by
    rcases free with _ | ⟨b, r⟩
    · simp at hf
    · exact ⟨b, r, rfl⟩
  obtain ⟨cs, h1, h2, h3⟩ : PartsAt L M w := h.comp .s
  obtain ⟨a1, a2, a3⟩ := h3 i _ hp
  obtain ⟨f1, f2⟩ : FreeAt L w i _ := h.comp (.free i) _ hp
  rcases hlm : L.lm i with _ | lb
  · have := (f1 hlm).2.1
    simp at this
  · obtain ⟨g, cap, hfv, hcap, hown⟩ := f2 lb hlm
    have hlive : OwnL w Tryz.prog 3 lb (liveV L live) := h.comp (.live i) _ lb hp hlm
    simp only [List.length_cons] at hfv hown hcap
    rw [hfv] at hown
    refine (pop_any L.sb (i * 3) g cap lb b r cs _ w h1 (by rw [a2, hlm]) (by rw [a3, hfv]) hown hlive (hsm b (by simp)) (by simp at hlen; omega)).mono ?_
    rintro e w' ⟨rfl, lv', hput, hW, hown', hl', hk⟩
    have hput' := lput_map (ek := fun n : Nat => Value.int .i64 (n : Int)) (ev := hldV L) (hldV_inj (L := L)) (k := b) (v := Hld.blank) hlive.apart hput
    have hrs := h.roles
    have rs := hrs.s
    have rl := hrs.live i lb hi hlm
    have rf := hrs.free i g hi (by rw [hfv]; rfl)
    have hhas := h.setPart (i := i) hi (popP ⟨cls, live, b :: r⟩) (.slice (some ⟨g, 0, none⟩) r.length cap) (some lb) L.G hk ?_ (fun _ _ h => h) (fun k hk' => Nat.lt_of_lt_of_le (h.dom k hk') hk.size) ?_ ?_ ?_ ?_ ?_
    · refine ⟨rfl, .slice (some ⟨g, 0, none⟩) r.length cap, ?_⟩
      rw [← hlm, upd_id] at hhas
      refine ⟨hhas, rfl, kept_own h.roles hk ?_, fun k hk' => .inl hk', fun _ _ => rfl, fun _ _ => rfl, Nat.le_refl _, Nat.le_refl _⟩
      rintro k _ (rfl | rfl | rfl)
      · rw [rs]; simp
      · rw [rf]; simp
      · rw [rl]; simp
    · rintro k ro (rfl | rfl | rfl) hro
      · rw [rs] at hro
        exact .inl (Option.some.inj hro).symm
      · rw [rf] at hro
        exact .inr (.inr (Option.some.inj hro).symm)
      · rw [rl] at hro
        exact .inr (.inl (Option.some.inj hro).symm)
    · intro b' hb'
      cases hb'
      exact rl
    · intro k hk'
      have : g = k := by simpa [Value.ownBlock] using hk'
      rw [← this]
      exact rf
    · intro cs2 hcs2 hsz
      have : cs2 = cs := by
        unfold Whole at hcs2 h1
        rw [h1] at hcs2
        simpa using hcs2.symm
      subst this
      refine ⟨_, hW, by simp, ?_, ?_, ?_, ?_⟩
      · rw [Array.getElem?_setIfInBounds_ne (by omega)]; exact a1
      · rw [Array.getElem?_setIfInBounds_ne (by omega), a2, hlm]
      · rw [Array.getElem?_setIfInBounds_self_of_lt (by omega)]
      · intro j hj
        rw [Array.getElem?_setIfInBounds_ne (by omega)]
    · intro b' hb'
      cases hb'
      rw [hput'] at hl'
      exact hl'
    · refine ⟨fun hn => ?_, fun b' hb' => ?_⟩
      · simp only [upd_same] at hn
        cases hn
      · simp only [upd_same] at hb' ⊢
        refine ⟨g, cap, rfl, ?_, hown'⟩
        have := putA_length b Hld.blank live
        simp only [popP, List.headD_cons, List.tail_cons]
        omega

set_option maxHeartbeats 400000 in
theorem ofC_any (c : Nat) (w : World) : Calls Tryz.prog 121 #[.int .i64 (c : Int)] w fun e w' => e = .returned (.func (.func 178) #[] #[.pointer (some ⟨w.heap.size, 0, none⟩)]) ∧ w' = w.alloc (.cells #[.int .i64 (c : Int)] 3) := by
  go_enter Tryz.func121, Tryz.ntmps121
  go_wp2_with fail
  go_ret
  exact ⟨rfl, rfl⟩

theorem Has.xcell {L : Lay} {M : Mod} {w : World} (h : Has L M w) (i : Nat) : w.cell? ⟨L.xb, i, none⟩ = (modC L M)[i]? := Whole.cell (h.comp .x : Whole w L.xb 65 (modC L M)) i

theorem place2 {w : World} {rb : Nat} {T : TypeId} {a0 a1 : Value} (h : Whole w rb T #[a0, a1]) (x y : Value) : Whole ((w.setCell ⟨rb, 0, none⟩ x).setCell ⟨rb, 1, none⟩ y) rb T #[x, y] := (h.put 0 x).put 1 y
theorem keptP (w : World) (rb : Nat) (x y : Value) : Kept (fun k => k = rb) w ((w.setCell ⟨rb, 0, none⟩ x).setCell ⟨rb, 1, none⟩ y) :=
  ((Kept.refl (fun k => k = rb) w).setCell (p := ⟨rb, 0, none⟩) (.inl rfl) x).setCell (p := ⟨rb, 1, none⟩) (.inl rfl) y
/-- Beside the model something new turns. -/
theorem Goes.side {L L' : Lay} {M M' : Mod} {w w' w'' : World} {S : Nat → Prop} (h : Goes L M w L' M' w') (hk : Kept S w' w'') (hs : ∀ k, S k → w.heap.size ≤ k ∧ L'.G k = none) : Goes L M w L' M' w'' :=
  ⟨h.has.kept hk fun k hS => (hs k hS).2, h.xb, ⟨hk.os.trans h.kept0.os, hk.tape.trans h.kept0.tape, hk.output.trans h.kept0.output, Nat.le_trans h.kept0.size hk.size, fun i hi hn => (hk.block i (Nat.lt_of_lt_of_le hi h.kept0.size) fun hS => by
    have := (hs i hS).1
    omega).trans (h.kept0.block i hi hn)⟩, h.grow, h.nb, h.eb, h.nt, h.et⟩
/-- What came first made new blocks alone. -/
theorem Goes.after {L L' : Lay} {M M' : Mod} {w w0 w' : World} (hb : Below w.heap.size w w0) (h : Goes L M w0 L' M' w') : Goes L M w L' M' w' :=
  ⟨h.has, h.xb, (Kept.below hb _).trans h.kept0, fun k hk => (h.grow k hk).imp id fun h1 => Nat.le_trans hb.size h1, h.nb, h.eb, h.nt, h.et⟩
/-- The world with a new part: its map, and its three cells. -/
def partW (w : World) (c : Nat) : World := (w.alloc (.map #[] 0)).alloc (.cells #[.int .i64 (c : Int), .map (some w.heap.size), .slice none 0 0] 197)
theorem part_new (w : World) (c : Nat) : Below w.heap.size w (partW w c) ∧ Whole (partW w c) (w.heap.size + 1) 197 #[.int .i64 (c : Int), .map (some w.heap.size), .slice none 0 0] ∧ OwnL (partW w c) Tryz.prog 3 w.heap.size [] ∧ (partW w c).heap.size = w.heap.size + 2 := by
  have h1 := Whole.new (w.alloc (.map #[] 0)) 197 #[.int .i64 (c : Int), .map (some w.heap.size), .slice none 0 0]
  have e0 : (w.alloc (.map #[] 0)).heap.size = w.heap.size + 1 := by simp
  rw [e0] at h1
  refine ⟨((Below.refl _ w).alloc (Nat.le_refl _) _).alloc (by simp) _, h1, OwnL.of_block (OwnL.made w Tryz.prog 3) (heap_alloc_old _ _ (by simp)), by simp [partW]⟩
def placeV (o : Option (Nat × Nat)) : Value := .agg #[.int .i64 (((o.getD (0, 0)).1 : Nat) : Int), .int .i64 (((o.getD (0, 0)).2 : Nat) : Int)]
set_option maxHeartbeats 3200000 in
theorem take_any (L : Lay) (M : Mod) (w : World) (c : Nat) (h : Has L M w) (hb : 1 ≤ blocksC c) (hsz : M.parts.length < 1099511627776) (hfr : ∀ p ∈ M.parts, p.free.length < 1099511627776 ∧ ∀ b ∈ p.free, b < 4611686018427387904) :
    Calls Tryz.prog 69 #[.pointer (some ⟨L.xb, 0, none⟩), .int .i64 (c : Int)] w fun e w' => e = .returned (.tuple #[placeV (takeM M c).1, .bool (takeM M c).1.isSome]) ∧ ∃ L', Goes L M w L' (takeM M c).2 w' := by
  have hfirst : ∀ (W : World), Below w.heap.size w W → ∀ cb : Nat, (∀ m, (W.drewN m).cell? ⟨cb, 0, none⟩ = some (.int .i64 (c : Int))) →
      Calls Tryz.prog 120 #[.pointer (some ⟨L.xb, 0, none⟩), .func (.func 178) #[] #[.pointer (some ⟨cb, 0, none⟩)]] W fun e w' => e = firstV (firstP (fitsC c) M.parts) ∧ ∃ m, w' = W.drewN m := by
    intro W hW cb hcb
    refine firstM_any (fitsC c) M.parts L.xb L.sb _ _ W (by rw [(h.below hW).xcell]; rfl) hsz ?_ (enters_of Tryz.func178 (by kernel_rfl) rfl)
    intro k m hk
    obtain ⟨A, cap, hin, _⟩ := ((h.below hW).below (below_of_drewN W m)).part (i := k) (p := M.parts[k]) (by simp [hk])
    exact of1_any _ _ _ _ c _ _ _ _ _ hin (hcb m) k
  have H := Lib.hid h
  have HF := Lib.hid hfirst
  clear h hfirst
  go_enter Tryz.func69, Tryz.ntmps69
  go_wp2_with fail
  refine (ofC_any _ _).mono ?_
  rintro e w1 ⟨rfl, rfl⟩
  go_wp2_with fail
  refine (HF.out _ (((Below.refl _ w).alloc (Nat.le_refl _) _).alloc (by simp) _) _ (fun m => ?hcell)).mono ?_
  case hcell =>
    show World.cell? ((w.alloc _).alloc _) _ = _
    simp
  rintro e w1 ⟨rfl, m, hw1⟩
  have hb1 : Below w.heap.size w w1 := by
    rw [hw1]
    exact below_drewN (((Below.refl _ w).alloc (Nat.le_refl _) _).alloc (by simp) _) m
  have hr1 : Whole w1 w.heap.size 76 #[.int .i64 0, .int .i64 0] := by
    rw [hw1]
    exact (heap_alloc_old _ _ (by simp)).trans (Whole.new w _ _)
  have H1 := Lib.hid (H.out.below hb1)
  have HB1 := Lib.hid hb1
  have HR1 := Lib.hid hr1
  clear hw1 hb1 hr1
  rcases hff : firstP (fitsC c) M.parts with _ | i
  · have hfirst2 : ∀ W, Below w.heap.size w W → Calls Tryz.prog 120 #[.pointer (some ⟨L.xb, 0, none⟩), .func (.func 123) #[] #[]] W fun e w' => e = firstV (firstP freeC M.parts) ∧ ∃ m, w' = W.drewN m := by
      intro W hW
      refine firstM_any freeC M.parts L.xb L.sb _ _ W (by rw [(H.out.below hW).xcell]; rfl) hsz ?_ (enters_of Tryz.func123 (by kernel_rfl) rfl)
      intro k m hk
      obtain ⟨A, cap, hin, _⟩ := ((H.out.below hW).below (below_of_drewN W m)).part (i := k) (p := M.parts[k]) (by simp [hk])
      refine (take1_any _ _ _ _ _ _ _ _ hin k).mono ?_
      rintro e w' ⟨rfl, rfl⟩
      exact ⟨rfl, 0, rfl⟩
    have hcall := hfirst2 w1 HB1.out
    simp only [firstV, Option.getD_none, Option.isSome_none]
    clear hfirst2
    go_wp2_with fail
    refine hcall.mono ?_
    clear hcall
    rintro e w2 ⟨rfl, m2, hw2⟩
    have hb2 : Below w.heap.size w w2 := by rw [hw2]; exact below_drewN HB1.out m2
    have hr2 : Whole w2 w.heap.size 76 #[.int .i64 0, .int .i64 0] := by rw [hw2]; exact HR1.out
    have HB2 := Lib.hid hb2
    have H2 := Lib.hid (H.out.below hb2)
    have hnone : L.G w.heap.size = none := by
      rcases hh : L.G w.heap.size with _ | r
      · rfl
      · exact absurd (H.out.dom _ (by rw [hh]; simp)) (Nat.lt_irrefl _)
    have HNO := Lib.hid hnone
    clear hw2 hb2 hnone HB1 HR1 H1
    rcases hfg : firstP freeC M.parts with _ | i
    · have c20 := hr2.cell 0
      have c21 := hr2.cell 1
      have f20 := hr2.frozen 0
      have f21 := hr2.frozen 1
      simp only [List.getElem?_toArray, List.getElem?_cons_zero, List.getElem?_cons_succ] at c20 c21
      have HR2 := Lib.hid hr2
      have htk : takeM M c = (none, M) := by simp [takeM, hff, hfg]
      have HTK := Lib.hid htk
      clear hr2 htk hff hfg
      simp only [firstV, Option.getD_none, Option.isSome_none]
      go_wp2_with fail
      refine bodyPost_ret (results_cell_row2 rfl _ _ w.heap.size 76 _ (0, 0) _ rfl (place2 HR2.out _ _) Tryz.underlying76 rfl (by kernel_rfl)) rfl ?_
      rw [HTK.out]
      refine ⟨rfl, L, ((Goes.refl H.out).below HB2.out).side (keptP _ _ _ _) ?_⟩
      rintro k rfl
      exact ⟨Nat.le_refl _, HNO.out⟩
    · obtain ⟨hi, hq⟩ := firstP_spec hfg
      have HR2 := Lib.hid hr2
      have HTK := Lib.hid (show takeM M c = (some (i, (newP c).free.headD 0), { M with parts := M.parts.set i (popP (newP c)) }) by simp [takeM, hff, hfg])
      clear hr2 hff hfg hq
      simp only [firstV, Option.getD_some, Option.isSome_some]
      have hmm := @run_makeMap Tryz.prog
      go_wp2_with fail
      obtain ⟨p1, p2, p3, p4⟩ := part_new w2 c
      have hsz3 : Sz (partW w2 c) := (H2.out.below p1).comp .glob |>.1
      have hcall := blocks_any c _ hsz3
      unfold partW at hcall
      refine hcall.mono ?_
      clear hcall
      rintro e w3 ⟨rfl, hw3⟩
      have hw3' : w3 = partW w2 c := hw3
      clear hw3
      rw [← hw3'] at p1 p2 p3 p4
      have P1 := Lib.hid p1
      have P2 := Lib.hid p2
      have P3 := Lib.hid p3
      clear hsz3 hw3' p1 p2 p3 hmm
      obtain ⟨n, hn⟩ : ∃ n, n = blocksC c := ⟨_, rfl⟩
      rw [← hn]
      have HN := Lib.hid hn
      have hn1 : 1 ≤ n := by omega
      have hn2 : n ≤ 1024 := by
        rw [hn, blocksC]
        split
        · exact Nat.div_le_self _ _
        · omega
      clear hn
      go_wp2_with fail
      go_loopw [11, 42] (fun _ s42 wr => ∃ (k : Nat) (v : Value), k ≤ n ∧ s42 = .int .i64 k ∧ Hid (Below w2.heap.size w2 wr) ∧ Hid (Whole wr (w2.heap.size + 1) 197 #[.int .i64 (c : Int), .map (some w2.heap.size), v]) ∧ Hid (OwnL wr Tryz.prog 3 w2.heap.size []) ∧ Hid (wr.ownsRow w2.heap.size 3 1 v k (intsN (List.range k)))) (fun _ s42 wr => match s42 with | .int _ m => n - m.toNat | _ => 0)
      case atStart => exact ⟨0, .slice none 0 0, Nat.zero_le _, rfl, P1, P2, P3, Lib.hid ⟨rfl, .inl ⟨rfl, rfl⟩⟩⟩
      case round =>
        obtain ⟨k, v, hk, rfl, HB, HW, HL, HO⟩ := hrel
        by_cases hlt : k < n
        · have hc2 : wr.cell? ⟨w2.heap.size + 1, 2, none⟩ = some v := HW.out.cell 2
          have hlt2 : w2.heap.size + 1 < wr.heap.size := HW.out.lt
          have hfar : v.ownBlock ≠ some (w2.heap.size + 1) := Lib.ownBlock_ne HO.out HW.out (by decide)
          obtain ⟨i0, hi0, hz0, hz1, hz2⟩ := info_parts int_info
          go_wp2_with (at_builtin; refine wpList_append_own_at _ rfl _ _ 134 rfl w2.heap.size 3 i0 (.int .i64 0) 1 8 Tryz.underlying134 hi0 hz0 hz1 hz2 rfl (by decide) v k (intsN (List.range k)) rfl (HO.out.alloc _) ⟨wr.heap.size, 0, none⟩ 1 1 [.int .i64 (k : Int)] rfl rfl (cell_one_new _ _ _) (fun x hx => by simp at hx; subst hx; rfl) (by unfold maxLen; omega) (by omega) (by simp; omega) ?_; intro v' w4 hown4 hg4 _ _; have ht4 : Whole w4 (w2.heap.size + 1) 197 #[.int .i64 (c : Int), .map (some w2.heap.size), v] := (Kept.grown hg4).whole ((Kept.refl (fun _ => False) wr).alloc (.cells #[.int .i64 (k : Int)] 3) |>.whole HW.out (fun h => h)) hfar; have hc4 : w4.cell? ⟨w2.heap.size + 1, 2, none⟩ = some v := ht4.cell 2; have hf4 := ht4.frozen 2; have hx4 := own_row hown4; obtain ⟨A4, cap4, hv4, _⟩ := hx4; have HV4 := Lib.hid hv4; rw [hv4]; clear hv4)
          have hne4 : v'.ownBlock ≠ some (w2.heap.size + 1) := Lib.ownBlock_ne hown4 ht4 (by decide)
          have hml : OwnL w4 Tryz.prog 3 w2.heap.size [] := (HL.out.kept ((Kept.refl (fun _ => False) wr).alloc (.cells #[.int .i64 (k : Int)] 3)) (fun h => h)).kept (Kept.grown hg4) (HL.out.row_ne HO.out)
          have hkk : Kept (fun j => j = w2.heap.size + 1 ∨ v.ownBlock = some j) wr w4 := ((Kept.refl (fun j => j = w2.heap.size + 1 ∨ v.ownBlock = some j) wr).alloc (.cells #[.int .i64 (k : Int)] 3)).trans ((Kept.grown hg4).mono fun j _ h => .inr h)
          go_roundw
          case rel =>
            refine ⟨k + 1, v', by omega, by go_num, ?_, ?_, ?_, ?_⟩
            · rw [← HV4.out]
              refine Lib.hid ?_
              have h1 := hkk.setCell (p := ⟨w2.heap.size + 1, 2, none⟩) (.inl (.inl rfl)) v'
              exact HB.out.trans (h1.to_below HB.out.size fun j hj hS => by
                rcases hS with rfl | hS
                · omega
                · have := (own_ge HO.out hS).1
                  omega)
            · rw [← HV4.out]
              exact Lib.hid (ht4.put 2 v')
            · rw [← HV4.out]
              exact Lib.hid (hml.kept ((Kept.refl (fun j => j = w2.heap.size + 1) w4).setCell (p := ⟨w2.heap.size + 1, 2, none⟩) (.inl rfl) v') (by omega))
            · rw [← HV4.out, show intsN (List.range (k + 1)) = intsN (List.range k) ++ [.int .i64 (k : Int)] by simp [intsN, List.range_succ]]
              exact Lib.hid (own_stays (S := fun j => j = w2.heap.size + 1) hown4 ((Kept.refl (fun j => j = w2.heap.size + 1) w4).setCell (p := ⟨w2.heap.size + 1, 2, none⟩) (.inl rfl) v') (fun j hj e => hne4 (by rw [hj, e])))
          case measure => simp; omega
        · have hkn : k = n := by omega
          subst hkn
          have H3 := H2.out.below HB.out
          have hx3 : wr.cell? ⟨L.xb, 0, none⟩ = some (.slice (some ⟨L.sb, 0, none⟩) M.parts.length M.parts.length) := by rw [H3.xcell]; rfl
          obtain ⟨cs, q1, q2, q3⟩ : PartsAt L M wr := H3.comp .s
          obtain ⟨a1, a2, a3⟩ := q3 i M.parts[i] (by simp [hi])
          have d0 := (q1.cell (i * 3)).trans a1
          have d1 := (q1.cell (i * 3 + 1)).trans a2
          have d2 := (q1.cell (i * 3 + 2)).trans a3
          have f0 := q1.frozen (i * 3)
          have f1 := q1.frozen (i * 3 + 1)
          have f2 := q1.frozen (i * 3 + 2)
          obtain ⟨g, cap, rfl, hcap⟩ : ∃ g cap, v = .slice (some ⟨g, 0, none⟩) k cap ∧ k ≤ cap := by
            rcases HO.out.2 with ⟨_, h0⟩ | ⟨g, cap, cur, e, _, _, h1, _⟩
            · omega
            · exact ⟨g, cap, e, h1⟩
          have e0 : wr.cell? ⟨w2.heap.size + 1, 0, none⟩ = some (.int .i64 (c : Int)) := HW.out.cell 0
          have e1 : wr.cell? ⟨w2.heap.size + 1, 1, none⟩ = some (.map (some w2.heap.size)) := HW.out.cell 1
          have e2 : wr.cell? ⟨w2.heap.size + 1, 2, none⟩ = some (.slice (some ⟨g, 0, none⟩) k cap) := HW.out.cell 2
          have HH3 := Lib.hid H3
          have Q1 := Lib.hid q1
          have Q2 := Lib.hid q2
          clear H3 q1 q3 a1 a2 a3 q2
          go_wp2_with fail
          go_region
          obtain ⟨w5, hw5⟩ : ∃ w5, w5 = (((wr.setCell ⟨L.sb, i * 3, none⟩ (.int .i64 (c : Int))).setCell ⟨L.sb, i * 3 + 1, none⟩ (.map (some w2.heap.size))).setCell ⟨L.sb, i * 3 + 2, none⟩ (.slice (some ⟨g, 0, none⟩) k cap)).drew := ⟨_, rfl⟩
          rw [← hw5]
          have hk5 : Kept (fun j => j = L.sb) wr w5 := by
            rw [hw5]
            exact ((((Kept.refl (fun j => j = L.sb) wr).setCell (p := ⟨L.sb, i * 3, none⟩) (.inl rfl) _).setCell (p := ⟨L.sb, i * 3 + 1, none⟩) (.inl rfl) _).setCell (p := ⟨L.sb, i * 3 + 2, none⟩) (.inl rfl) _).drew
          have hW5 : Whole w5 L.sb 197 (((cs.setIfInBounds (i * 3) (.int .i64 (c : Int))).setIfInBounds (i * 3 + 1) (.map (some w2.heap.size))).setIfInBounds (i * 3 + 2) (.slice (some ⟨g, 0, none⟩) k cap)) := by
            rw [hw5]
            exact ((Q1.out.put _ _).put _ _).put _ _
          have hdom := H2.out.dom
          have hsbl : L.sb < w2.heap.size := hdom _ (by rw [H2.out.roles.s]; simp)
          have hgb : w2.heap.size ≤ g ∧ g < wr.heap.size := own_ge HO.out rfl
          have hgm : g ≠ w2.heap.size := fun e => HL.out.row_ne HO.out (by rw [← e]; rfl)
          have hown5 : w5.ownsRow w2.heap.size 3 1 (.slice (some ⟨g, 0, none⟩) k cap) k (intsN (List.range k)) := own_stays HO.out hk5 fun j e hj => by
            have : g = j := by simpa [Value.ownBlock] using e
            omega
          have hl5 : OwnL w5 Tryz.prog 3 w2.heap.size [] := HL.out.kept hk5 (by omega)
          have hnp : newP c = ⟨c, [], List.range k⟩ := by rw [newP, ← HN.out]
          obtain ⟨G5, hG5⟩ : ∃ G5 : Nat → Option Role, G5 = fun j => if j = w2.heap.size then some (.live i) else if j = g then some (.free i) else L.G j := ⟨_, rfl⟩
          have hGo : ∀ j r, L.G j = some r → G5 j = some r := fun j r hj => by
            have := hdom j (by rw [hj]; simp)
            rw [hG5]
            simp only
            rw [if_neg (by omega), if_neg (by omega)]
            exact hj
          have has5 := HH3.out.setPart (i := i) hi (newP c) (.slice (some ⟨g, 0, none⟩) k cap) (some w2.heap.size) G5 hk5 ?s1 hGo ?s2 ?s3 ?s4 ?s5 ?s6 ?s7
          case s1 =>
            rintro j r rfl hr
            rw [H2.out.roles.s] at hr
            exact .inl (Option.some.inj hr).symm
          case s2 =>
            intro j hj
            rw [hG5] at hj
            simp only at hj
            have hsz5 := hk5.size
            have hszr := HB.out.size
            by_cases ja : j = w2.heap.size
            · omega
            · rw [if_neg ja] at hj
              by_cases jb : j = g
              · omega
              · rw [if_neg jb] at hj
                have := hdom j hj
                omega
          case s3 =>
            intro b hb'
            cases hb'
            rw [hG5]
            simp
          case s4 =>
            intro j hj
            have : g = j := by simpa [Value.ownBlock] using hj
            subst this
            rw [hG5]
            simp [hgm]
          case s5 =>
            intro cs2 hcs2 _
            have : cs2 = cs := by
              have e1 := Q1.out
              unfold Whole at hcs2 e1
              rw [e1] at hcs2
              simpa using hcs2.symm
            subst this
            have hsz2 := Q2.out
            refine ⟨_, hW5, by simp, ?_, ?_, ?_, ?_⟩
            · rw [Array.getElem?_setIfInBounds_ne (by omega), Array.getElem?_setIfInBounds_ne (by omega), Array.getElem?_setIfInBounds_self_of_lt (by omega)]
              rfl
            · rw [Array.getElem?_setIfInBounds_ne (by omega), Array.getElem?_setIfInBounds_self_of_lt (by simp; omega)]
            · rw [Array.getElem?_setIfInBounds_self_of_lt (by simp; omega)]
            · intro j hj
              rw [Array.getElem?_setIfInBounds_ne (by omega), Array.getElem?_setIfInBounds_ne (by omega), Array.getElem?_setIfInBounds_ne (by omega)]
          case s6 =>
            intro b hb'
            cases hb'
            exact hl5
          case s7 =>
            refine ⟨fun hn => ?_, fun b hb' => ?_⟩
            · simp only [upd_same] at hn
              cases hn
            · simp only [upd_same]
              rw [hnp]
              simp only [List.length_range]
              exact ⟨g, cap, rfl, by simpa using hcap, own_base hown5 (Nat.zero_le _)⟩
          have hgo5 : Goes L M w { L with lm := upd L.lm i (some w2.heap.size), fv := upd L.fv i (.slice (some ⟨g, 0, none⟩) k cap), G := G5 } { M with parts := M.parts.set i (newP c) } w5 := by
            refine ⟨has5, rfl, ((Kept.below HB2.out _).trans ⟨HB.out.os, HB.out.tape, HB.out.output, HB.out.size, fun j hj _ => HB.out.block j hj⟩).trans (kept_own H2.out.roles hk5 ?_), ?_, fun _ _ => rfl, fun _ _ => rfl, Nat.le_refl _, Nat.le_refl _⟩
            · rintro j _ rfl
              rw [H2.out.roles.s]
              simp
            · intro j hj
              have hs2 := HB2.out.size
              simp only [hG5] at hj
              by_cases ja : j = w2.heap.size
              · exact .inr (by omega)
              · rw [if_neg ja] at hj
                by_cases jb : j = g
                · exact .inr (by omega)
                · rw [if_neg jb] at hj
                  exact .inl hj
          have hx5 : w5.cell? ⟨L.xb, 0, none⟩ = some (.slice (some ⟨L.sb, 0, none⟩) M.parts.length M.parts.length) := by
            have := has5.xcell 0
            simp only [modC, List.length_set] at this
            exact this
          have hnf : (newP c).free = List.range k := by rw [hnp]
          have hcall := popM_any _ _ w5 i (newP c) has5 (by simp [hi]) (by rw [hnf, List.length_range]; omega) (fun b hb' => by
            rw [hnf, List.mem_range] at hb'
            omega) (by rw [hnf, List.length_range]; omega)
          have hr5 : Whole w5 w.heap.size 76 #[.int .i64 0, .int .i64 0] := hk5.whole ((HB.out.block _ HR2.out.lt).trans HR2.out) (fun e => by
            have := HNO.out
            rw [e, H2.out.roles.s] at this
            cases this)
          have HGO := Lib.hid hgo5
          have HR5 := Lib.hid hr5
          have HG5 := Lib.hid hG5
          clear hw5 hk5 hW5 hown5 hl5 hnp hGo has5 hgo5 hnf hr5 hG5 d0 d1 d2 f0 f1 f2 e0 e1 e2 hx3
          go_wp2_with fail
          refine hcall.mono ?_
          clear hcall
          rintro e w6 ⟨rfl, fv', hg6⟩
          have hrn : G5 w.heap.size = none := by
            have h0 := HR2.out.lt
            rw [HG5.out]
            simp only
            rw [if_neg (by omega), if_neg (by omega)]
            exact HNO.out
          have hr6 : Whole w6 w.heap.size 76 #[.int .i64 0, .int .i64 0] := hg6.kept.whole HR5.out fun hne => hne hrn
          obtain ⟨b0, hb0⟩ : ∃ b0, b0 = (newP c).free.headD 0 := ⟨_, rfl⟩
          rw [← hb0]
          have HB0 := Lib.hid hb0
          have c20 := hr6.cell 0
          have c21 := hr6.cell 1
          have f20 := hr6.frozen 0
          have f21 := hr6.frozen 1
          simp only [List.getElem?_toArray, List.getElem?_cons_zero, List.getElem?_cons_succ] at c20 c21
          have HR6 := Lib.hid hr6
          have HG6 := Lib.hid (HGO.out.trans hg6)
          have HRN := Lib.hid hrn
          clear hg6 hr6 hb0 hrn
          go_wp2_with fail
          refine bodyPost_ret (results_cell_row2 rfl _ _ w.heap.size 76 _ (0, 0) _ rfl (place2 HR6.out _ _) Tryz.underlying76 rfl (by kernel_rfl)) rfl ?_
          rw [HTK.out, ← HB0.out]
          have hfin := HG6.out
          simp only [List.set_set] at hfin
          refine ⟨rfl, _, hfin.side (keptP _ _ _ _) ?_⟩
          rintro j rfl
          exact ⟨Nat.le_refl _, HRN.out⟩
  · obtain ⟨hi, hq⟩ := firstP_spec hff
    have hfit : M.parts[i].cls = c ∧ 0 < M.parts[i].free.length := by simpa [fitsC] using hq
    have htk : takeM M c = (some (i, M.parts[i].free.headD 0), { M with parts := M.parts.set i (popP M.parts[i]) }) := by
      simp [takeM, hff, hi]
    have HTK := Lib.hid htk
    have hx1 : w1.cell? ⟨L.xb, 0, none⟩ = some (.slice (some ⟨L.sb, 0, none⟩) M.parts.length M.parts.length) := by rw [H1.out.xcell]; rfl
    have hfri := hfr _ (List.getElem_mem hi)
    clear hq htk hff
    simp only [firstV, Option.getD_some, Option.isSome_some]
    go_wp2_with fail
    refine (popM_any L M w1 i M.parts[i] H1.out (by simp [hi]) hfit.2 hfri.2 hfri.1).mono ?_
    rintro e w2 ⟨rfl, fv', hg⟩
    obtain ⟨b0, hb0⟩ : ∃ b0, b0 = M.parts[i].free.headD 0 := ⟨_, rfl⟩
    rw [← hb0]
    have HB0 := Lib.hid hb0
    clear hb0
    have hr2 : Whole w2 w.heap.size 76 #[.int .i64 0, .int .i64 0] := hg.kept.whole HR1.out fun hne => Nat.lt_irrefl _ (H.out.dom _ hne)
    have c20 := hr2.cell 0
    have c21 := hr2.cell 1
    have f20 := hr2.frozen 0
    have f21 := hr2.frozen 1
    simp only [List.getElem?_toArray, List.getElem?_cons_zero, List.getElem?_cons_succ] at c20 c21
    have HG := Lib.hid hg
    have HR2 := Lib.hid hr2
    clear hg hr2
    go_wp2_with fail
    refine bodyPost_ret (results_cell_row2 rfl _ _ w.heap.size 76 _ (0, 0) _ rfl (place2 HR2.out _ _) Tryz.underlying76 rfl (by kernel_rfl)) rfl ?_
    rw [HTK.out, ← HB0.out]
    refine ⟨rfl, _, (HG.out.after HB1.out).side (keptP _ _ _ _) ?_⟩
    rintro k rfl
    refine ⟨Nat.le_refl _, ?_⟩
    have hn : L.G w.heap.size = none := by
      rcases hh : L.G w.heap.size with _ | r
      · rfl
      · exact absurd (H.out.dom _ (by rw [hh]; simp)) (Nat.lt_irrefl _)
    exact hn
end Go.Proofs.YtimdedkejadnfaaGreatDoor
