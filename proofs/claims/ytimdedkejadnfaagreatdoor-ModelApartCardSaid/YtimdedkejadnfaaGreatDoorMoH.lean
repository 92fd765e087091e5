/-
  The walks of a model's hold and give: what a block holds; a block given back. No condition but sizes.
-/
import Derived.Test.YtimdedkejadnfaaGreatDoorMoG
import Derived.Deep.RegionLaw
import Derived.Deep.CutBlock
import Derived.Deep.DeepCutAuto
namespace Go.Proofs.YtimdedkejadnfaaGreatDoor
open Go.RowKit Go.Colm Go.Maps
set_option linter.unusedVariables false
set_option linter.unusedSimpArgs false
set_option linter.unusedSectionVars false

theorem step_call {P : Program} {ops : Array Oper} {o : Oper} {a : Act} {w : World} {K : Act → World → Prop} {Q : Exit → Act → World → Prop} {E : Prop} (hg : o.guard = none) (f : FuncId) (args : Array Value) (hrun : (execOp a.eval o).run P w = .ok (.enter f args) w)
    (v : Value) (R : World → Prop) (hc : Calls P f args w fun e w' => e = .returned v ∧ R w') (h : ∀ w', R w' → K (a.put o.dst v) w') :
    if Region.wanted o (yielded ops a.tmps) = true then Oper.wp P o a w K Q else E := by
  have hw : Region.wanted o (yielded ops a.tmps) = true := by simp [Region.wanted, hg]
  rw [if_pos hw]
  unfold Oper.wp
  rw [hrun, Oper.upon_enter]
  refine hc.mono fun e w' hh => ?_
  obtain ⟨rfl, hR⟩ := hh
  exact h w' hR
theorem step_delete {P : Program} {ops : Array Oper} {o : Oper} {a : Act} {w : World} {K : Act → World → Prop} {Q : Exit → Act → World → Prop} {E : Prop} (hg : o.guard = none) (m x : Operand) (t k : TypeId) (hop : o.op = Op.call { callee := Callee.builtin Builtin.delete, args := #[m, x], argTypes := #[t, k] })
    (v u : Value) (hm : a.eval m = v) (hx : a.eval x = u) {w' : World} (hr : (Builtin.delete_ #[t, k] o.type #[v, u]).run P w = .ok (.tuple #[]) w') (hK : K (a.put o.dst (.tuple #[])) w') :
    if Region.wanted o (yielded ops a.tmps) = true then Oper.wp P o a w K Q else E := by
  have hw : Region.wanted o (yielded ops a.tmps) = true := by simp [Region.wanted, hg]
  rw [if_pos hw]
  unfold Oper.wp
  simp [execOp, hop, resolve, invoke, builtin, hm, hx, hr, Result.andThen]
  exact hK

theorem mem_of_getA {K V : Type} [DecidableEq K] {k : K} {v : V} : ∀ {l : List (K × V)}, getA k l = some v → (k, v) ∈ l
  | [], h => by simp [getA] at h
  | p :: r, h => by
    rw [getA] at h
    split at h
    · rename_i e
      simp only [Option.some.injEq] at h
      subst h
      subst e
      simp
    · exact List.mem_cons_of_mem _ (mem_of_getA h)
theorem putA_same_length {K V : Type} [DecidableEq K] {k : K} {v v0 : V} : ∀ {l : List (K × V)}, getA k l = some v0 → (putA k v l).length = l.length
  | [], h => by simp [getA] at h
  | p :: r, h => by
    rw [getA] at h
    rw [putA]
    split at h
    · rename_i e
      rw [if_pos e]
      rfl
    · rename_i e
      rw [if_neg e, List.length_cons, List.length_cons, putA_same_length h]
theorem delA_length {K V : Type} [DecidableEq K] {k : K} {v0 : V} : ∀ {l : List (K × V)}, getA k l = some v0 → (delA k l).length + 1 = l.length
  | [], h => by simp [getA] at h
  | p :: r, h => by
    rw [getA] at h
    rw [delA]
    split at h
    · rename_i e
      rw [if_pos e]
      rfl
    · rename_i e
      rw [if_neg e, List.length_cons, List.length_cons, delA_length h]

/-- A block is made to hold something. -/
def holdP (block : Nat) (x : Hld) (p : Part) : Part := { p with live := putA block x p.live }
/-- A part with something in it: its map, and its row. -/
theorem Has.used {L : Lay} {M : Mod} {w : World} (h : Has L M w) {i : Nat} {p : Part} (hp : M.parts[i]? = some p) (hl : p.live ≠ []) :
    ∃ lb g cap, L.lm i = some lb ∧ L.fv i = .slice (some ⟨g, 0, none⟩) p.free.length cap ∧ p.free.length + p.live.length ≤ cap ∧ w.ownsRow 0 3 1 (L.fv i) p.free.length (intsN p.free) ∧ OwnL w Tryz.prog 3 lb (liveV L p.live) := by
  obtain ⟨f1, f2⟩ : FreeAt L w i p := h.comp (.free i) p hp
  rcases hlm : L.lm i with _ | lb
  · exact absurd (f1 hlm).1 hl
  · obtain ⟨g, cap, h1, h2, h3⟩ := f2 lb hlm
    exact ⟨lb, g, cap, rfl, h1, h2, h3, h.comp (.live i) p lb hp hlm⟩
theorem Has.partC {L : Lay} {M : Mod} {w : World} (h : Has L M w) {i : Nat} {p : Part} (hp : M.parts[i]? = some p) : ∃ cs, Whole w L.sb 197 cs ∧ cs.size = M.parts.length * 3 ∧ cs[i * 3]? = some (.int .i64 (p.cls : Int)) ∧ cs[i * 3 + 1]? = some (.map (L.lm i)) ∧ cs[i * 3 + 2]? = some (L.fv i) := by
  obtain ⟨cs, h1, h2, h3⟩ : PartsAt L M w := h.comp .s
  exact ⟨cs, h1, h2, h3 i p hp⟩

set_option maxHeartbeats 1600000 in
theorem hold_any (L : Lay) (M : Mod) (w : World) (i b : Nat) (x x0 : Hld) (p : Part) (h : Has L M w) (hp : M.parts[i]? = some p) (hget : getA b p.live = some x0) (hb : b < 4611686018427387904) :
    Calls Tryz.prog 66 #[.pointer (some ⟨L.xb, 0, none⟩), .agg #[.int .i64 (i : Int), .int .i64 (b : Int)], hldV L x] w fun e w' => e = .returned (.tuple #[]) ∧ Goes L M w L { M with parts := M.parts.set i (holdP b x p) } w' := by
  have hi : i < M.parts.length := (List.getElem?_eq_some_iff.1 hp).1
  have hne : p.live ≠ [] := fun e => by rw [e] at hget; simp [getA] at hget
  obtain ⟨lb, g, cap, hlm, hfv, hcap, hrow, hl⟩ := h.used hp hne
  obtain ⟨cs, hW, hsz, a1, a2, a3⟩ := h.partC hp
  have hx0 : w.cell? ⟨L.xb, 0, none⟩ = some (.slice (some ⟨L.sb, 0, none⟩) M.parts.length M.parts.length) := by rw [h.xcell]; rfl
  have d1 : w.cell? ⟨L.sb, i * 3 + 1, none⟩ = some (.map (some lb)) := by rw [hW.cell, a2, hlm]
  obtain ⟨y0, y1, hy⟩ : ∃ y0 y1 : Value, hldV L x = .agg #[y0, y1] ∧ True := by
    cases x <;> exact ⟨_, _, rfl, trivial⟩
  obtain ⟨w0, hw0⟩ : ∃ w0, w0 = ((w.alloc (.cells #[.int .i64 (i : Int), .int .i64 (b : Int)] 76)).alloc (.cells #[y0, y1] 156)).drew := ⟨_, rfl⟩
  have hb0 : Below w.heap.size w w0 := by rw [hw0]; exact (((Below.refl _ w).alloc (Nat.le_refl _) _).alloc (by simp) _).drew
  have hl0 := hl.below hb0
  obtain ⟨w3, l3, hrun3, hput3, hl3, hk3⟩ := hl0.put (val := .agg #[y0, y1]) (int_keyed Tryz.underlying3) Tryz.underlying195 (int_key hb)
  have H := Lib.hid h
  have HY := Lib.hid hy.1
  rw [hy.1]
  have hltx : L.xb < w.heap.size := h.dom _ (by rw [h.roles.x]; simp)
  have hlts : L.sb < w.heap.size := hW.lt
  rw [hw0] at hrun3
  have HL3 := Lib.hid hl3
  have HK3 := Lib.hid hk3
  have HP3 := Lib.hid hput3
  have HB0 := Lib.hid hb0
  have HL := Lib.hid hl
  clear h hy hl3 hk3 hput3 hl0 hb0 hl hw0 hrow
  go_enter Tryz.func66, Tryz.ntmps66
  go_wp2_with fail
  go_region
  clear hrun3
  go_wp2_with fail
  go_end0
  have h := H.out
  have hrs := h.roles
  have rl := hrs.live i lb hi hlm
  have hput := lput_map (ek := fun n : Nat => Value.int .i64 (n : Int)) (ev := hldV L) (hldV_inj (L := L)) (k := b) (v := x) HL.out.apart (by rw [HY.out]; exact HP3.out)
  have hk : Kept (fun k => k = lb) w w3 := (Kept.below HB0.out _).trans HK3.out
  have hhas := h.setPart (i := i) hi (holdP b x p) (L.fv i) (L.lm i) L.G hk ?_ (fun _ _ h => h) (fun k hk' => Nat.lt_of_lt_of_le (h.dom k hk') hk.size) (fun b hb' => hrs.live i b hi hb') (fun k hk' => hrs.free i k hi hk') ?_ ?_ ?_
  · refine ⟨rfl, ?_⟩
    rw [upd_id, upd_id] at hhas
    refine ⟨hhas, rfl, kept_own h.roles hk ?_, fun k hk' => .inl hk', fun _ _ => rfl, fun _ _ => rfl, Nat.le_refl _, Nat.le_refl _⟩
    rintro k _ rfl
    rw [rl]
    simp
  · rintro k ro rfl hro
    rw [rl] at hro
    exact .inr (.inl (Option.some.inj hro).symm)
  · intro cs2 hcs2 _
    have : cs2 = cs := by
      unfold Whole at hcs2 hW
      rw [hW] at hcs2
      simpa using hcs2.symm
    subst this
    exact ⟨cs2, hk.whole hcs2 (fun e => by rw [← e, hrs.s] at rl; cases rl), rfl, a1, a2, a3, fun j _ => rfl⟩
  · intro b' hb'
    rw [hlm] at hb'
    cases hb'
    have := HL3.out
    rw [hput] at this
    exact this
  · refine ⟨fun hn => ?_, fun b' hb' => ?_⟩
    · simp only [upd_same, hlm] at hn
      cases hn
    · simp only [upd_same]
      refine ⟨g, cap, hfv, ?_, ?_⟩
      · simp only [holdP]
        rw [putA_same_length hget]
        exact hcap
      · obtain ⟨_, f2⟩ : FreeAt L w i p := h.comp (.free i) p hp
        obtain ⟨_, _, _, _, hrow⟩ := f2 lb hlm
        exact own_stays hrow hk fun k e hkk => by
          have := hrs.free i k hi e
          rw [hkk, rl] at this
          cases this

theorem give_fin {L : Lay} {M : Mod} {w w' : World} {i g lb : Nat} (h : Has L M w) (hi : i < M.parts.length) (p' : Part) (fv' : Value) (lm' : Option Nat) (hk : Kept (fun k => k = L.sb ∨ k = g ∨ k = lb) w w') (rl : L.G lb = some (.live i)) (rf : L.G g = some (.free i))
    (hlm : ∀ b, lm' = some b → L.G b = some (.live i)) (hfv : ∀ k, fv'.ownBlock = some k → L.G k = some (.free i))
    (hs : ∀ cs, Whole w L.sb 197 cs → cs.size = M.parts.length * 3 → ∃ cs' : Array Value, Whole w' L.sb 197 cs' ∧ cs'.size = cs.size ∧ cs'[i * 3]? = some (.int .i64 (p'.cls : Int)) ∧ cs'[i * 3 + 1]? = some (.map lm') ∧ cs'[i * 3 + 2]? = some fv' ∧ ∀ j, (j < i * 3 ∨ i * 3 + 3 ≤ j) → cs'[j]? = cs[j]?)
    (hlive : ∀ b, lm' = some b → OwnL w' Tryz.prog 3 b (liveV L p'.live))
    (hfree : FreeAt { L with lm := upd L.lm i lm', fv := upd L.fv i fv', G := L.G } w' i p') :
    Goes L M w { L with lm := upd L.lm i lm', fv := upd L.fv i fv', G := L.G } { M with parts := M.parts.set i p' } w' := by
  have hrs := h.roles
  refine ⟨h.setPart hi p' fv' lm' L.G hk ?_ (fun _ _ h => h) (fun k hk' => Nat.lt_of_lt_of_le (h.dom k hk') hk.size) hlm hfv hs hlive hfree, rfl, kept_own h.roles hk ?_, fun k hk' => .inl hk', fun _ _ => rfl, fun _ _ => rfl, Nat.le_refl _, Nat.le_refl _⟩
  · rintro k ro (rfl | rfl | rfl) hro
    · rw [hrs.s] at hro
      exact .inl (Option.some.inj hro).symm
    · rw [rf] at hro
      exact .inr (.inr (Option.some.inj hro).symm)
    · rw [rl] at hro
      exact .inr (.inl (Option.some.inj hro).symm)
  · rintro k _ (rfl | rfl | rfl)
    · rw [hrs.s]; simp
    · rw [rf]; simp
    · rw [rl]; simp

/-- A block is given back. -/
def giveP (b : Nat) (p : Part) : Part := if (delA b p.live).length = 0 then ⟨0, [], []⟩ else { p with live := delA b p.live, free := b :: p.free }

set_option maxRecDepth 100000 in
set_option maxHeartbeats 4000000 in
theorem give_any (L : Lay) (M : Mod) (w : World) (i b : Nat) (x0 : Hld) (p : Part) (h : Has L M w) (hp : M.parts[i]? = some p) (hget : getA b p.live = some x0) (hb : b < 4611686018427387904) (hlen : p.free.length + p.live.length < 1099511627776) :
    Calls Tryz.prog 67 #[.pointer (some ⟨L.xb, 0, none⟩), .agg #[.int .i64 (i : Int), .int .i64 (b : Int)]] w fun e w' => e = .returned (.tuple #[]) ∧ ∃ L', Goes L M w L' { M with parts := M.parts.set i (giveP b p) } w' := by
  have hi : i < M.parts.length := (List.getElem?_eq_some_iff.1 hp).1
  have hne : p.live ≠ [] := fun e => by rw [e] at hget; simp [getA] at hget
  have hdl := delA_length hget
  obtain ⟨lb, g, cap, hlm, hfv, hcap, hrow, hl⟩ := h.used hp hne
  obtain ⟨cs, hW, hsz, a1, a2, a3⟩ := h.partC hp
  have hx0 : w.cell? ⟨L.xb, 0, none⟩ = some (.slice (some ⟨L.sb, 0, none⟩) M.parts.length M.parts.length) := by rw [h.xcell]; rfl
  have d1 : w.cell? ⟨L.sb, i * 3 + 1, none⟩ = some (.map (some lb)) := by rw [hW.cell, a2, hlm]
  have hltx : L.xb < w.heap.size := h.dom _ (by rw [h.roles.x]; simp)
  have hlts : L.sb < w.heap.size := hW.lt
  have hrs := h.roles
  have rl := hrs.live i lb hi hlm
  have rf := hrs.free i g hi (by rw [hfv]; rfl)
  have hsl : L.sb ≠ lb := fun e => by rw [← e, hrs.s] at rl; cases rl
  have hsg : L.sb ≠ g := fun e => by rw [← e, hrs.s] at rf; cases rf
  have hgl : g ≠ lb := fun e => by rw [← e, rf] at rl; cases rl
  obtain ⟨w0, hw0⟩ : ∃ w0, w0 = (w.alloc (.cells #[.int .i64 (i : Int), .int .i64 (b : Int)] 76)).drew.drew := ⟨_, rfl⟩
  have hb0 : Below w.heap.size w w0 := by rw [hw0]; exact ((Below.refl _ w).alloc (Nat.le_refl _) _).drew.drew
  have hpl0 : Whole w0 w.heap.size 76 #[.int .i64 (i : Int), .int .i64 (b : Int)] := by rw [hw0]; exact Whole.new w _ _
  obtain ⟨w3, l3, hrun3, hput3, hl3, hk3⟩ := (hl.below hb0).del (int_keyed Tryz.underlying3) Tryz.underlying195 (int_key hb) 0
  rw [hw0] at hrun3
  have H := Lib.hid h
  have HL3 := Lib.hid hl3
  have HK3 := Lib.hid hk3
  have HP3 := Lib.hid hput3
  have HB0 := Lib.hid hb0
  have HL := Lib.hid hl
  have HW := Lib.hid hW
  have HPL := Lib.hid hpl0
  have HRW := Lib.hid hrow
  have HRS := Lib.hid hrs
  clear h hl3 hk3 hput3 hb0 hl hw0 hW hpl0 hrow hrs
  go_enter Tryz.func67, Tryz.ntmps67
  go_upto_region 1 with fail
  go_region
  go_upto_region 2 with fail
  go_cut [] from 12 to 17 (fun wx => wx = w3)
  case first =>
    go_region_law (refine step_delete (w' := w3) rfl _ _ _ _ rfl _ _ rfl rfl hrun3 ?_)
    all_goals (go_wp2_with fail; go_meet; rfl)
  case rest =>
    obtain rfl := hcut
    have hW3 : Whole wc L.sb 197 cs := HK3.out.whole ((Kept.below HB0.out fun _ => False).whole HW.out fun h => h) hsl
    have hpl3 : Whole wc w.heap.size 76 #[.int .i64 (i : Int), .int .i64 (b : Int)] := HK3.out.whole HPL.out (fun e => by
      have := HL.out.lt
      omega)
    have hrow3 : wc.ownsRow 0 3 1 (.slice (some ⟨g, 0, none⟩) p.free.length cap) p.free.length (intsN p.free) := by
      rw [← hfv]
      exact own_stays (own_stays HRW.out (Kept.below HB0.out fun _ => False) fun _ _ h => h) HK3.out fun k e h => hgl (by
        rw [hfv] at e
        have : g = k := by simpa [Value.ownBlock] using e
        rw [this, h])
    have hglt : g < wc.heap.size := (own_ge hrow3 rfl).2
    obtain ⟨W4, hW4⟩ : ∃ W4, W4 = wc.drew.alloc (.cells #[.int .i64 (b : Int)] 3) := ⟨_, rfl⟩
    have hb4 : Below wc.heap.size wc W4 := by rw [hW4]; exact (Below.refl _ wc).drew.alloc (Nat.le_refl _) _
    have hins := insI_any 0 g cap wc.heap.size 1 (p.free.map fun (n : Nat) => (n : Int)) (b : Int) W4 (by
      rw [← intsN_map, List.length_map]
      exact own_stays hrow3 (Kept.below hb4 fun _ => False) fun _ _ h => h) (by rw [List.length_map]; omega) (by rw [hW4]; exact heap_alloc_new wc.drew _) (by omega)
    rw [List.length_map, show (((b : Nat) : Int) :: p.free.map fun (n : Nat) => (n : Int)).map (Value.int .i64) = intsN (b :: p.free) by simp [intsN], hW4] at hins
    have d2 : wc.cell? ⟨L.sb, i * 3 + 2, none⟩ = some (.slice (some ⟨g, 0, none⟩) p.free.length cap) := by rw [hW3.cell, a3, hfv]
    have d3 : wc.cell? ⟨w.heap.size, 1, none⟩ = some (.int .i64 (b : Int)) := hpl3.cell 1
    have hlts3 : L.sb < wc.heap.size := hW3.lt
    have hltp3 : w.heap.size < wc.heap.size := hpl3.lt
    have HINS := Lib.hid hins
    have HW3 := Lib.hid hW3
    have HB4 := Lib.hid hb4
    have HR3 := Lib.hid hrow3
    have hst : ∀ w5, Kept (fun k => k = g) W4 w5 → Whole w5 L.sb 197 cs := fun w5 hk => hk.whole ((Kept.below hb4 fun _ => False).whole hW3 fun h => h) hsg
    rw [hW4] at hst
    have HST := Lib.hid hst
    clear hins hW3 hpl3 hrow3 hb4 hst hrun3
    go_upto_region 3 with fail
    go_cut [] from 18 to 28 (fun wx => Hid (Whole wx L.sb 197 (cs.setIfInBounds (i * 3 + 2) (.slice (some ⟨g, 0, none⟩) (p.free.length + 1) cap)) ∧ wx.ownsRow 0 3 1 (.slice (some ⟨g, 0, none⟩) (p.free.length + 1) cap) (p.free.length + 1) (intsN (b :: p.free)) ∧ OwnL wx Tryz.prog 3 lb l3 ∧ Kept (fun k => k = L.sb ∨ k = g ∨ k = lb) w wx))
    case first =>
      go_region_law (refine step_call rfl 119 #[.slice (some ⟨g, 0, none⟩) p.free.length cap, .int .i64 0, .slice (some ⟨wc.heap.size, 0, none⟩) 1 1] (by first | kernel_rfl | rfl | (simp [execOp, go_sem])) _ _ HINS.out ?_; intro w5 hR5; have hw5 := HST.out w5 hR5.2; have c5 : w5.cell? ⟨L.sb, i * 3 + 2, none⟩ = some (.slice (some ⟨g, 0, none⟩) p.free.length cap) := (hw5.cell _).trans (by rw [a3, hfv]); have f5 := hw5.frozen (i * 3 + 2); have HW5 := Lib.hid hw5; have HR5 := Lib.hid hR5; clear hw5 hR5)
      all_goals
        go_wp2_with fail
        go_meet
        have hs5 : Kept (fun k => k = L.sb) w5 (w5.setCell ⟨L.sb, i * 3 + 2, none⟩ (.slice (some ⟨g, 0, none⟩) (p.free.length + 1) cap)) := (Kept.refl (fun k => k = L.sb) w5).setCell (p := ⟨L.sb, i * 3 + 2, none⟩) (.inl rfl) _
        have hb4 := HB4.out
        have hr5 := HR5.out
        rw [← hW4] at hr5
        refine Lib.hid ⟨HW5.out.put _ _, own_stays hr5.1 hs5 fun k e h => hsg ?_, ((HL3.out.below hb4).kept hr5.2 (Ne.symm hgl)).kept hs5 (Ne.symm hsl), ?_⟩
        · have : g = k := by simpa [Value.ownBlock] using e
          rw [← h, this]
        · exact ((((Kept.below HB0.out _).trans (HK3.out.mono fun k _ h => .inr (.inr h))).trans (Kept.below hb4 _)).trans (hr5.2.mono fun k _ h => .inr (.inl h))).trans (hs5.mono fun k _ h => .inl h)
    case rest =>
      obtain ⟨g1, g2, g3, g4⟩ := hcut.out
      have hl3e := ldel_map (ek := fun n : Nat => Value.int .i64 (n : Int)) (ev := hldV L) (hldV_inj (L := L)) (k := b) HL.out.apart HP3.out
      have hl3l : l3.length = (delA b p.live).length := by rw [hl3e, List.length_map]
      have d4 : wc.cell? ⟨L.sb, i * 3, none⟩ = some (.int .i64 (p.cls : Int)) := by rw [g1.cell, Array.getElem?_setIfInBounds_ne (by omega), a1]
      have d5 : wc.cell? ⟨L.sb, i * 3 + 1, none⟩ = some (.map (some lb)) := by rw [g1.cell, Array.getElem?_setIfInBounds_ne (by omega), a2, hlm]
      have d6 : wc.cell? ⟨L.sb, i * 3 + 2, none⟩ = some (.slice (some ⟨g, 0, none⟩) (p.free.length + 1) cap) := by rw [g1.cell, Array.getElem?_setIfInBounds_self_of_lt (by omega)]
      have f4 := g1.frozen (i * 3)
      have f5 := g1.frozen (i * 3 + 1)
      have f6 := g1.frozen (i * 3 + 2)
      have G1 := Lib.hid g1
      have G2 := Lib.hid g2
      have G3 := Lib.hid g3
      have G4 := Lib.hid g4
      have EL := Lib.hid hl3e
      clear g1 g2 g4 hcut hl3e HINS HST HW3 HR3 HB4 HPL d2 d3 hltp3 hglt hlts3 hx0 d1
      by_cases hz : (delA b p.live).length = 0
      · have tz : ((l3.length : Int) == 0) = true := by rw [hl3l, hz]; rfl
        go_wp2_with (first | (at_len; refine wpList_len _ rfl _ 195 rfl 3 156 Tryz.underlying195 lb l3 rfl g3 ?_) | go_in)
        go_end0
        have h := H.out
        have hk5 : Kept (fun k => k = L.sb ∨ k = g ∨ k = lb) w (((wc.setCell ⟨L.sb, i * 3, none⟩ (.int .i64 0)).setCell ⟨L.sb, i * 3 + 1, none⟩ (.map none)).setCell ⟨L.sb, i * 3 + 2, none⟩ (.slice none 0 0)) :=
          ((G4.out.setCell (p := ⟨L.sb, i * 3, none⟩) (.inl (.inl rfl)) _).setCell (p := ⟨L.sb, i * 3 + 1, none⟩) (.inl (.inl rfl)) _).setCell (p := ⟨L.sb, i * 3 + 2, none⟩) (.inl (.inl rfl)) _
        have hW5 := ((G1.out.put (i * 3) (.int .i64 0)).put (i * 3 + 1) (.map none)).put (i * 3 + 2) (.slice none 0 0)
        have hgv : giveP b p = ⟨0, [], []⟩ := by rw [giveP, if_pos hz]
        rw [hgv]
        refine ⟨rfl, _, give_fin h hi _ (.slice none 0 0) none hk5 rl rf (fun b hb' => by cases hb') (fun k hk' => by simp [Value.ownBlock] at hk') ?_ (fun b hb' => by cases hb') ⟨fun _ => ⟨rfl, rfl, upd_same _ _ _⟩, fun b hb' => by simp only [upd_same] at hb'; cases hb'⟩⟩
        intro cs2 hcs2 _
        have : cs2 = cs := by
          have e1 := HW.out
          unfold Whole at hcs2 e1
          rw [e1] at hcs2
          simpa using hcs2.symm
        subst this
        refine ⟨_, hW5, by simp, ?_, ?_, ?_, ?_⟩
        · rw [Array.getElem?_setIfInBounds_ne (by omega), Array.getElem?_setIfInBounds_ne (by omega), Array.getElem?_setIfInBounds_self_of_lt (by simp; omega)]
          rfl
        · rw [Array.getElem?_setIfInBounds_ne (by omega), Array.getElem?_setIfInBounds_self_of_lt (by simp; omega)]
        · rw [Array.getElem?_setIfInBounds_self_of_lt (by simp; omega)]
        · intro j hj
          rw [Array.getElem?_setIfInBounds_ne (by omega), Array.getElem?_setIfInBounds_ne (by omega), Array.getElem?_setIfInBounds_ne (by omega), Array.getElem?_setIfInBounds_ne (by omega)]
      · have tz : ((l3.length : Int) == 0) = false := by rw [beq_eq_false_iff_ne]; omega
        go_wp2_with (first | (at_len; refine wpList_len _ rfl _ 195 rfl 3 156 Tryz.underlying195 lb l3 rfl g3 ?_) | go_in)
        go_end0
        have h := H.out
        have hgv : giveP b p = { p with live := delA b p.live, free := b :: p.free } := by rw [giveP, if_neg hz]
        rw [hgv]
        refine ⟨rfl, _, give_fin h hi _ (.slice (some ⟨g, 0, none⟩) (p.free.length + 1) cap) (some lb) G4.out rl rf (fun b hb' => by cases hb'; exact rl) (fun k hk' => ?_) ?_ (fun b hb' => ?_) ⟨fun hn => ?_, fun b' hb' => ?_⟩⟩
        · have : g = k := by simpa [Value.ownBlock] using hk'
          rw [← this]
          exact rf
        · intro cs2 hcs2 _
          have : cs2 = cs := by
            have e1 := HW.out
            unfold Whole at hcs2 e1
            rw [e1] at hcs2
            simpa using hcs2.symm
          subst this
          refine ⟨_, G1.out, by simp, ?_, ?_, ?_, ?_⟩
          · rw [Array.getElem?_setIfInBounds_ne (by omega)]; exact a1
          · rw [Array.getElem?_setIfInBounds_ne (by omega), a2, hlm]
          · rw [Array.getElem?_setIfInBounds_self_of_lt (by omega)]
          · intro j hj
            rw [Array.getElem?_setIfInBounds_ne (by omega)]
        · cases hb'
          have := G3.out
          rw [EL.out] at this
          exact this
        · simp only [upd_same] at hn
          cases hn
        · simp only [upd_same]
          refine ⟨g, cap, rfl, ?_, G2.out⟩
          simp only [List.length_cons]
          omega
end Go.Proofs.YtimdedkejadnfaaGreatDoor
